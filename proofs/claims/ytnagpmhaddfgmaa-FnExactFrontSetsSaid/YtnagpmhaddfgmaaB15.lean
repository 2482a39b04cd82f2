/-
 The state; arrays that are given up.
-/
import Derived.Test.YtnagpmhaddfgmaaB12
import Derived.Laws.OwnMore
namespace Go.Proofs.Ytnagpmhaddfgmaa
open Go.RowKit (Below)
structure Par where
 n : Nat
 k : List Nat
 v : Nat → Value
def Par.has (N : Par) (d : Nat) : Prop := d ∉ N.k ∧ d < N.n
structure SzOK (N : Par) (a : Act) : Prop where
 n : a.tmps.size = N.n
 v : ∀ i, i ∈ N.k → a.tmps.getD i undef = N.v i
theorem SzOK.put {N : Par} {a : Act} (h : SzOK N a) {d : Nat} (hd : N.has d) {x : Value} : SzOK N (a.put (some d) x) :=
 ⟨by simp [Act.put, h.n], fun i hi => by
  have e : d ≠ i := fun e => hd.1 (e ▸ hi)
  have := h.v i hi
  simp only [Act.put]
  simpa [Array.getElem?_setIfInBounds_ne e] using this⟩
structure RelF [Tabs] (P : Program) (X : Nat → Prop) (lo : Nat → Prop) (N : Par) (w0 : World) (sl : Nat → AV) (g : Nat → Option Ob) (a : Act) (w : World) (μ : Nat → Option MV) : Prop where
 mem : Mem P X lo g μ w
 fr : ∀ i, RelV P w lo μ (SS X μ) (sl i) (a.tmps.getD i undef)
 bel : Kept lo w0 w
 df : a.defers = []
 sz : SzOK N a
abbrev Rel [Tabs] (P : Program) (X : Nat → Prop) (lo : Nat → Prop) (N : Par) (w0 : World) (s : St) (a : Act) (w : World) (μ : Nat → Option MV) : Prop := RelF P X lo N w0 s.slot s.g a w μ
theorem wap {α β : Type} (f : α → β) : ∀ (l : List (Nat × α)) (i : Nat), look (l.map fun p => (p.1, f p.2)) i = (look l i).map f
 | [], _ => rfl
 |(k, x) :: r, i => by
  simp only [List.map_cons, look]
  split
  ·rfl
  ·exact wap f r i
theorem wau [Tabs] {α : Type} (o : Nat) : ∀ (l : List (Nat × α)) (i : Nat), i ≠ o → look (l.filter fun p => !(Nat.beq p.1 o)) i = look l i
 | [], _, _ => rfl
 |(k, x) :: r, i, h => by
  by_cases hk : k = o
  ·subst hk
   simp only [List.filter_cons, wam, Bool.not_true, Bool.false_eq_true, if_false, look]
   rw [wal (Ne.symm h)]
   exact wau k r i h
  ·simp only [List.filter_cons, wal hk, Bool.not_false, if_true, look]
   split
   ·rfl
   ·exact wau o r i h
theorem weo {α : Type} : ∀ (l r : List (Nat × α)) (i : Nat), look (l ++ r) i = match look l i with | some x => some x | none => look r i
 | [], r, i => rfl
 |(k, x) :: l, r, i => by
  simp only [List.cons_append, look]
  split
  ·rfl
  ·exact weo l r i
section
variable {P : Program} {tt : Nat → TD} {w : World} {lo : Nat → Prop} {N : Par} {μ : Nat → Option MV} {S : Nat → Prop} {X : Nat → Prop} {g : Nat → Option Ob} {a : Act} {E : Env} {w0 : World}
def without (μ : Nat → Option MV) (o p : Nat) : Option MV := if p = o then none else μ p
theorem wep [Tabs] {μ' : Nat → Option MV} {o : Nat} {d : AV} {S S' : Nat → Prop} (hlo : (∀ b, lo b → b < w.heap.size)) (hμ : ∀ p mv, p ≠ o → μ p = some mv → μ' p = some mv) (hd : ∀ mv, μ o = some mv → RelV P w lo μ' S' d mv.v) (hS : ∀ b, b < w.heap.size → S b → S' b) {v : AV} {x : Value}
  (h : RelV P w lo μ S v x) : RelV P w lo μ' S' (wvk o d v) x := wff hlo (fun p mv hp h => ⟨mv.rs, mv.hs, hμ p mv hp h, Ext.refl _⟩) hd hS h
theorem wdo [Tabs] {μ' : Nat → Option MV} {o : Nat} {d : AV} {S S' : Nat → Prop} (hlo : (∀ b, lo b → b < w.heap.size)) (hμ : ∀ p mv, p ≠ o → μ p = some mv → μ' p = some mv) (hd : ∀ mv, μ o = some mv → RelV P w lo μ' S' d mv.v) (hS : ∀ b, b < w.heap.size → S b → S' b) {x : Ob} {mv : MV}
  (h : ObOK P w lo μ S x mv) : ObOK P w lo μ' S' (wcy o d x) mv := wee hlo (fun p mv hp h => ⟨mv.rs, mv.hs, hμ p mv hp h, Ext.refl _⟩) hd hS h
theorem wef {o : Nat} {b : Nat} (h : SS X μ b) : SS X (without μ o) b :=
 ⟨h.1, fun p mv hp e => by
  unfold without at hp
  split at hp
  ·cases hp
  ·exact h.2 p mv hp e⟩
theorem weg {o p : Nat} {mv : MV} (h : p ≠ o) (hp : μ p = some mv) : without μ o p = some mv := by simp [without, h, hp]
theorem wbn {o p : Nat} {mv : MV} (h : without μ o p = some mv) : p ≠ o ∧ μ p = some mv := by
 unfold without at h
 split at h
 ·cases h
 ·exact ⟨by assumption, h⟩
theorem Rel.swap [Tabs] {s : St} (h : Rel P X lo N w0 s a w μ) {o : Nat} {d : AV} (hd : ∀ mv, μ o = some mv → RelV P w lo (without μ o) (SS X (without μ o)) d mv.v) : Rel P X lo N w0 (s.swap o d []) a w (without μ o) := by
 have hS : ∀ b, b < w.heap.size → SS X μ b → SS X (without μ o) b := fun b _ hs => wef hs
 refine ⟨⟨h.mem.hX, h.mem.hlo, fun p mv hp => ?_, fun p p' mv mv' b h1 h2 h3 h4 => h.mem.dis p p' mv mv' b (wbn h1).2 (wbn h2).2 h3 h4, h.mem.tab⟩, fun i => ?_, h.bel, h.df, h.sz⟩
 ·obtain ⟨hne, hp⟩ := wbn hp
  obtain ⟨x, hx, hob⟩ := h.mem.ob p mv hp
  refine ⟨wcy o d x, ?_, wdo h.mem.hlo (fun p mv hne hp => weg hne hp) hd hS hob⟩
  simp only [St.g, St.swap, List.nil_append, wap]
  rw [wau o s.ob p hne]
  simp only [St.g] at hx
  rw [hx]
  rfl
 ·simp only [St.slot, St.swap, wap]
  have := wep (d := d) h.mem.hlo (fun p mv hne hp => weg (μ := μ) hne hp) hd hS (h.fr i)
  simp only [St.slot] at this
  cases hl : look s.fr i with
  | none => exact .undef
  | some v => rw [hl] at this; exact this
def given (μ : Nat → Option MV) (o d q : Nat) : Option MV :=
 if q = d then none else if q = o then (μ o).map fun mv => ⟨mv.v, mv.rs ++ ((μ d).map (·.rs)).getD [], mv.hs⟩ else μ q
theorem wbu {o d q : Nat} {mv : MV} (h : given μ o d q = some mv) : q ≠ d ∧ ((q = o ∧ ∃ mv0, μ o = some mv0 ∧ mv = ⟨mv0.v, mv0.rs ++ ((μ d).map (·.rs)).getD [], mv0.hs⟩) ∨ (q ≠ o ∧ μ q = some mv)) := by
 unfold given at h
 split at h
 ·cases h
 ·refine ⟨by assumption, ?_⟩
  split at h
  ·cases ho : μ o with
   | none => rw [ho] at h; cases h
   | some mv0 =>
    rw [ho] at h
    simp only [Option.map_some, Option.some.injEq] at h
    exact .inl ⟨by assumption, mv0, rfl, h.symm⟩
  ·exact .inr ⟨by assumption, h⟩
theorem wct {o d q : Nat} {mv : MV} (h : given μ o d q = some mv) {b : Nat} (hb : b ∈ mv.rs) : ∃ p mv0, μ p = some mv0 ∧ b ∈ mv0.rs ∧ (p = q ∨ (p = d ∧ q = o)) := by
 obtain ⟨_, ⟨rfl, mv0, h0, rfl⟩ | ⟨_, h1⟩⟩ := wbu h
 ·simp only [List.mem_append] at hb
  rcases hb with hb | hb
  ·exact ⟨_, mv0, h0, hb, .inl rfl⟩
  ·cases hd : μ d with
   | none => rw [hd] at hb; simp at hb
   | some mvd => rw [hd] at hb; exact ⟨d, mvd, hd, by simpa using hb, .inr ⟨rfl, rfl⟩⟩
 ·exact ⟨q, mv, h1, hb, .inl rfl⟩
theorem Rel.backV [Tabs] {s : St} (h : Rel P X lo N w0 s a w μ) {o d i e1 e : Nat} {t : Ty} {l : List (List t.I)} {r : List t.I} (hgo : s.g o = some (.rows e1 e t l (some (i, some d)))) (hgd : s.g d = some (.arr e t r)) {dv : AV}
  (hcd : ∀ {S' : Nat → Prop} mvd, μ d = some mvd → RelV P w lo (given μ o d) S' dv mvd.v) :
  Rel P X lo N w0 (s.swap d dv [(o, .rows e1 e t (l.set i r) none)]) a w (given μ o d) := by
 have hod : o ≠ d := fun e => by rw [e, hgd] at hgo; cases hgo
 have hμ : ∀ p mv, p ≠ d → μ p = some mv → ∃ rs hs, given μ o d p = some ⟨mv.v, rs, hs⟩ ∧ Ext mv.hs hs := fun p mv hp hm => by
  unfold given
  rw [if_neg hp]
  split
  next e => subst e; rw [hm]; exact ⟨_, _, rfl, Ext.refl _⟩
  next => exact ⟨mv.rs, mv.hs, hm, Ext.refl _⟩
 have hS : ∀ b, b < w.heap.size → SS X μ b → SS X (given μ o d) b := fun b _ hs => ⟨hs.1, fun q mv hq hb => by
  obtain ⟨p, mv0, k1, k2, _⟩ := wct hq hb
  exact hs.2 p mv0 k1 k2⟩
 have hobd : ∀ mvd, μ d = some mvd → ObOK P w lo μ (SS X μ) (.arr e t r) mvd := fun mvd hd => by
  obtain ⟨y, hy, hyo⟩ := h.mem.ob d mvd hd
  rw [hgd] at hy
  cases hy
  exact hyo
 refine ⟨⟨h.mem.hX, h.mem.hlo, fun p mv hp => ?_, fun p p' mv mv' b h1 h2 h3 h4 => ?_, h.mem.tab⟩, fun j => ?_, h.bel, h.df, h.sz⟩
 ·obtain ⟨hpd, ⟨rfl, mv0, k0, rfl⟩ | ⟨hpo, k1⟩⟩ := wbu hp
  ·refine ⟨.rows e1 e t (l.set i r) none, by simp [St.g, St.swap, look], ?_⟩
   obtain ⟨y, hy, hyo⟩ := h.mem.ob _ mv0 k0
   rw [hgo] at hy
   cases hy
   obtain ⟨hr, hk⟩ := hyo
   obtain ⟨x, rsd, hsd, k2, k3⟩ := hk i d rfl
   obtain ⟨⟨_, drs⟩, dlo, xs, down, drep⟩ := hobd _ k3
   simp only at drs dlo down
   have hlen := hr.len
   have hil : i < mv0.hs.length := (List.getElem?_eq_some_iff.1 k2).1
   have hrsd : ((μ d).map (·.rs)).getD [] = (wu x).toList := by rw [k3]; simp [drs]
   have hmem : ∀ b, wu x = some b → b ∈ rsd := fun b hb => by rw [drs, hb]; simp
   have hrepS : ∀ {l : List t.I} {cs}, RepL (SS X μ) w t l cs → RepL (SS X (given μ p d)) w t l cs := fun hc => hc.step fun b hb hs => ⟨hS b hb hs, rfl⟩
   refine ⟨⟨by simpa using hr.own, fun b hb => ?_, fun b hb => ?_, hr.slc, fun j y q hj hy hq => ?_, fun j k y z b hj hk' hy hz h3 h4 => ?_⟩, fun i' d' hd' => by cases hd'⟩
   ·exact List.mem_append_left _ (hr.top b hb)
   ·rw [hrsd] at hb
    rcases List.mem_append.1 hb with hb | hb
    ·exact hr.low b hb
    ·have hb : wu x = some b := by simpa using hb
     exact h.mem.lt k3 (hmem b hb)
   ·by_cases hji : j = i
    ·subst hji
     rw [k2] at hy
     cases hy
     rw [List.getElem?_set] at hq
     rw [if_pos rfl, if_pos (by omega)] at hq
     cases hq
     refine ⟨fun b hb => ⟨by rw [hrsd]; exact List.mem_append_right _ (by simp [hb]), fun hb2 => ?_⟩, xs, down, hrepS drep⟩
     exact hod (h.mem.dis _ d mv0 _ b k0 k3 (hr.top b hb2) (hmem b hb))
    ·rw [List.getElem?_set_ne (Ne.symm hji)] at hq
     obtain ⟨m1, ys, m2, m3⟩ := hr.row j y q (fun i' k' hk' => by cases hk'; exact hji) hy hq
     exact ⟨fun b hb => ⟨List.mem_append_left _ (m1 b hb).1, (m1 b hb).2⟩, ys, m2, hrepS m3⟩
   ·have hother : ∀ {j' : Nat} {y' : Value}, j' ≠ i → mv0.hs[j']? = some y' → wu y' = some b → b ∈ mv0.rs := fun {j' y'} hne hy' hb' => by
     have hj' : j' < l.length := by have := (List.getElem?_eq_some_iff.1 hy').1; omega
     exact ((hr.row j' y' _ (fun i' k' hk' => by cases hk'; exact hne) hy' (List.getElem?_eq_getElem hj')).1 b hb').1
    by_cases e1' : j = i <;> by_cases e2' : k = i
    ·omega
    ·subst e1'
     rw [k2] at hy
     cases hy
     exact absurd (h.mem.dis _ d mv0 _ b k0 k3 (hother e2' hz h4) (hmem b h3)) hod
    ·subst e2'
     rw [k2] at hz
     cases hz
     exact absurd (h.mem.dis _ d mv0 _ b k0 k3 (hother e1' hy h3) (hmem b h4)) hod
    ·exact hr.apart j k y z b (fun i' k' hk' => by cases hk'; exact e1') (fun i' k' hk' => by cases hk'; exact e2') hy hz h3 h4
  ·obtain ⟨y, hy, hyo⟩ := h.mem.ob p mv k1
   refine ⟨wcy d dv y, ?_, wee h.mem.hlo hμ (fun mv hm => hcd mv hm) hS hyo⟩
   simp only [St.g, St.swap, List.singleton_append, look, wal (Ne.symm hpo), wap]
   rw [wau d s.ob p hpd]
   simp only [St.g] at hy
   rw [hy]
   rfl
 ·obtain ⟨q, mv0, k1, k2, k3⟩ := wct h1 h3
  obtain ⟨q', mv0', k1', k2', k3'⟩ := wct h2 h4
  have hqq := h.mem.dis q q' mv0 mv0' b k1 k1' k2 k2'
  have hd1 := (wbu h1).1
  have hd2 := (wbu h2).1
  rcases k3 with rfl | ⟨rfl, rfl⟩ <;> rcases k3' with rfl | ⟨rfl, rfl⟩
  ·exact hqq
  ·exact absurd hqq hd1
  ·exact absurd hqq.symm hd2
  ·rfl
 ·simp only [St.slot, St.swap, wap]
  have := wff (d := dv) h.mem.hlo hμ (fun mv hm => hcd mv hm) hS (h.fr j)
  simp only [St.slot] at this
  cases hl : look s.fr j with
  | none => exact .undef
  | some v => rw [hl] at this; exact this
theorem Rel.back [Tabs] {s : St} (h : Rel P X lo N w0 s a w μ) {o d i e1 e : Nat} {t : Ty} {l : List (List t.I)} {r : List t.I} (hgo : s.g o = some (.rows e1 e t l (some (i, some d)))) (hgd : s.g d = some (.arr e t r)) :
  Rel P X lo N w0 (s.swap d .undef [(o, .rows e1 e t (l.set i r) none)]) a w (given μ o d) := h.backV hgo hgd fun _ _ => .undef
theorem Rel.freeze [Tabs] {s : St} (h : Rel P X lo N w0 s a w μ) (o : Nat) : ∃ μ', Rel P X lo N w0 (s.freeze o) a w μ' := by
 unfold St.freeze
 split
 next e t l hg =>
  split
  next p hp =>
   split
   next e1 e2 t2 l2 i d' hgp =>
    split
    next l' hd he hc =>
     have hd := Nat.eq_of_beq_eq_true hd
     have he := Nat.eq_of_beq_eq_true he
     subst hd; subst he
     obtain ⟨et, hl⟩ := Ty.cast_spec hc
     cases et
     have hl : l' = l := hl
     subst hl
     exact ⟨_, h.back hgp hg⟩
    next => exact ⟨μ, h⟩
   next => exact ⟨μ, h⟩
  next =>
   refine ⟨_, h.swap fun mv hmv => ?_⟩
   have hR : ∀ b, b ∈ mv.rs → SS X (without μ o) b := fun b hb => by
    refine ⟨fun hx => ?_, fun p mv' hp e => ?_⟩
    ·exact (h.mem.lt hmv hb).1 (h.mem.hX b hx)
    ·obtain ⟨hne, hp⟩ := wbn hp
     exact hne (h.mem.dis p o mv' mv b hp hmv e hb)
   obtain ⟨a', c, _, hr⟩ := h.mem.asDat hmv hg (S' := SS X (without μ o)) (fun b _ hs => wef hs) hR
   exact .dat rfl hr
 next e e2 t l hg =>
  refine ⟨_, h.swap fun mv hmv => ?_⟩
  have hR : ∀ b, b ∈ mv.rs → SS X (without μ o) b := fun b hb => by
   refine ⟨fun hx => ?_, fun p mv' hp e => ?_⟩
   ·exact (h.mem.lt hmv hb).1 (h.mem.hX b hx)
   ·obtain ⟨hne, hp⟩ := wbn hp
    exact hne (h.mem.dis p o mv' mv b hp hmv e hb)
  obtain ⟨a', c, _, hr⟩ := h.mem.asRows hmv hg (S' := SS X (without μ o)) (fun b _ hs => wef hs) hR
  exact .dat rfl hr
 next e t l hg =>
  refine ⟨_, h.swap fun mv hmv => ?_⟩
  have hR : ∀ b, b ∈ mv.rs → SS X (without μ o) b := fun b hb => by
   refine ⟨fun hx => ?_, fun p mv' hp e => ?_⟩
   ·exact (h.mem.lt hmv hb).1 (h.mem.hX b hx)
   ·obtain ⟨hne, hp⟩ := wbn hp
    exact hne (h.mem.dis p o mv' mv b hp hmv e hb)
  obtain ⟨a', c, _, hr⟩ := h.mem.asDeep hmv hg (S' := SS X (without μ o)) hR
  exact .dat rfl hr
 next kp e e2 t ix l hg =>
  refine ⟨_, h.swap fun mv hmv => ?_⟩
  have hR : ∀ b, b ∈ mv.rs → SS X (without μ o) b := fun b hb => by
   refine ⟨fun hx => ?_, fun p mv' hp e => ?_⟩
   ·exact (h.mem.lt hmv hb).1 (h.mem.hX b hx)
   ·obtain ⟨hne, hp⟩ := wbn hp
    exact hne (h.mem.dis p o mv' mv b hp hmv e hb)
  obtain ⟨a', c, _, hr⟩ := h.mem.asPerm hmv hg (S' := SS X (without μ o)) (fun b _ hs => wef hs) hR
  exact .dat rfl hr
 next => exact ⟨μ, h⟩
theorem Rel.backR [Tabs] {s : St} (h : Rel P X lo N w0 s a w μ) {o : Nat} (ho : ∃ mv, μ o = some mv) (p : Nat) : ∃ μ', Rel P X lo N w0 (s.backR o p) a w μ' := by
 unfold St.backR
 split
 next e1 e2 t2 l2 i d' e t l hgo hgp =>
  split
  next l' hd he hc =>
   have hd := Nat.eq_of_beq_eq_true hd
   have he := Nat.eq_of_beq_eq_true he
   subst hd; subst he
   obtain ⟨et, hl⟩ := Ty.cast_spec hc
   cases et
   have hl : l' = l := hl
   subst hl
   obtain ⟨mv, hmv⟩ := ho
   obtain ⟨y, hy, hyo⟩ := h.mem.ob _ mv hmv
   rw [hgo] at hy
   cases hy
   obtain ⟨x, rsd, hsd, k2, k3⟩ := hyo.2 i d' rfl
   obtain ⟨a0, n0, c0, rfl⟩ := hyo.1.slc x (List.mem_of_getElem? k2)
   have hod : o ≠ d' := fun e => by rw [e, hgp] at hgo; cases hgo
   refine ⟨_, h.backV hgo hgp fun mvd hmd => ?_⟩
   rw [k3] at hmd
   cases hmd
   have hg : given μ o d' o = (μ o).map fun mv => ⟨mv.v, mv.rs ++ ((μ d').map (·.rs)).getD [], mv.hs⟩ := by
    unfold given
    rw [if_neg hod, if_pos rfl]
   rw [hmv] at hg
   exact .row hg k2
  next => exact h.freeze p
 next => exact h.freeze p
theorem Rel.drop [Tabs] {s : St} (h : Rel P X lo N w0 s a w μ) (o : Nat) : ∃ μ', Rel P X lo N w0 (s.drop o) a w μ' := ⟨_, h.swap fun _ _ => .undef⟩
def wkw (μ : Nat → Option MV) (o q : Nat) : Option MV := if q = o then (μ o).map fun mv => ⟨mv.v, (wu mv.v).toList, []⟩ else μ q
theorem wvx {o q : Nat} (h : q ≠ o) : wkw μ o q = μ q := by simp [wkw, h]
theorem wkx {o q : Nat} {mv : MV} (h : wkw μ o q = some mv) : (q = o ∧ ∃ mv0, μ o = some mv0 ∧ mv = ⟨mv0.v, (wu mv0.v).toList, []⟩) ∨ (q ≠ o ∧ μ q = some mv) := by
 unfold wkw at h
 split at h
 ·cases ho : μ o with
  | none => rw [ho] at h; cases h
  | some mv0 =>
   rw [ho] at h
   simp only [Option.map_some, Option.some.injEq] at h
   exact .inl ⟨by assumption, mv0, rfl, h.symm⟩
 ·exact .inr ⟨by assumption, h⟩
theorem Rel.flat [Tabs] {s : St} (h : Rel P X lo N w0 s a w μ) (o : Nat) : ∃ μ', Rel P X lo N w0 (s.flat o) a w μ' := by
 unfold St.flat
 split
 next e e2 t l hg =>
  have htop : ∀ mv, μ o = some mv → ∀ b, wu mv.v = some b → b ∈ mv.rs := fun mv hmv b hb => by
   obtain ⟨y, hy, hob⟩ := h.mem.ob _ _ hmv
   rw [hg] at hy
   cases hy
   exact hob.1.top b hb
  have hrs : ∀ q mv b, wkw μ o q = some mv → b ∈ mv.rs → ∃ mv0, μ q = some mv0 ∧ b ∈ mv0.rs := fun q mv b hq hb => by
   rcases wkx hq with ⟨rfl, mv0, h0, rfl⟩ | ⟨_, h0⟩
   ·exact ⟨mv0, h0, htop mv0 h0 b (by simpa using hb)⟩
   ·exact ⟨mv, h0, hb⟩
  have hS : ∀ b, b < w.heap.size → SS X μ b → SS X (wkw μ o) b := fun b _ hs => ⟨hs.1, fun q mv hq hb => by
   obtain ⟨mv0, h0, h1⟩ := hrs q mv b hq hb
   exact hs.2 q mv0 h0 h1⟩
  have hd : ∀ mv, μ o = some mv → RelV P w lo (wkw μ o) (SS X (wkw μ o)) (.arr o) mv.v := fun mv hmv => by
   obtain ⟨y, hy, hob⟩ := h.mem.ob _ _ hmv
   rw [hg] at hy
   cases hy
   have hx : ∃ a n c, mv.v = .slice a n c := by
    rcases hob.1.own.2 with ⟨e1, _⟩ | ⟨_, _, _, e1, _⟩
    ·exact ⟨_, _, _, e1⟩
    ·exact ⟨_, _, _, e1⟩
   obtain ⟨a', n', c', hx⟩ := hx
   rw [hx]
   exact .arr (rs := (wu mv.v).toList) (hs := []) (by simp [wkw, hmv, hx])
  refine ⟨wkw μ o, ⟨h.mem.hX, h.mem.hlo, fun p mv hp => ?_, fun p p' mv mv' b h1 h2 h3 h4 => ?_, h.mem.tab⟩, fun j => ?_, h.bel, h.df, h.sz⟩
  ·rcases wkx hp with ⟨rfl, mv0, h0, rfl⟩ | ⟨hne, h0⟩
   ·obtain ⟨hr, hrep⟩ := h.mem.rowsRep h0 hg (S' := SS X (wkw μ p)) hS fun b hb hroot => by
     refine ⟨fun hx => (h.mem.lt h0 hb).1 (h.mem.hX b hx), fun q mv hq hb' => ?_⟩
     rcases wkx hq with ⟨rfl, mv1, h1, rfl⟩ | ⟨hne, h1⟩
     ·rw [h0] at h1
      cases h1
      exact hroot (by simpa using hb')
     ·exact hne (h.mem.dis _ _ _ _ _ h1 h0 hb' hb)
    exact ⟨.arr e (.slice t) l, by simp [St.g, St.swap, look], ⟨rfl, rfl⟩, fun b hb => (hr.low b (hr.top b hb)).1, mv0.hs, hr.own, hrep⟩
   ·obtain ⟨y, hy, hyo⟩ := h.mem.ob p mv h0
    refine ⟨wcy o (.arr o) y, ?_, wdo h.mem.hlo (fun q mv' hq hp' => by rw [wvx hq]; exact hp') hd hS hyo⟩
    simp only [St.g, St.swap, List.singleton_append, look, wal (Ne.symm hne), wap]
    rw [wau o s.ob p hne]
    simp only [St.g] at hy
    rw [hy]
    rfl
  ·obtain ⟨m1, k1, k2⟩ := hrs _ _ _ h1 h3
   obtain ⟨m2, k3, k4⟩ := hrs _ _ _ h2 h4
   exact h.mem.dis _ _ _ _ b k1 k3 k2 k4
  ·simp only [St.slot, St.swap, wap]
   have := wep (d := .arr o) h.mem.hlo (fun q mv' hq hp' => by rw [wvx hq]; exact hp') hd hS (h.fr j)
   simp only [St.slot] at this
   cases hl : look s.fr j with
   | none => exact .undef
   | some v => rw [hl] at this; exact this
 next => exact ⟨μ, h⟩
theorem RowsOK.perm {S : Nat → Prop} {e e2 : Nat} {t : Ty} {l : List (List t.I)} {mv : MV} (h : RowsOK w lo S e e2 t l (wcf none) mv mv.hs) : PermOK w lo S e e2 t (List.range l.length) l mv := by
 have hin : ∀ j, wcf none j := fun j i k hk => by cases hk
 have hl := h.len
 refine ⟨?_, hl, h.top, h.low, h.slc, fun j x r hx hr => h.row j x r (hin j) hx hr, fun j k x y b => h.apart j k x y b (hin j) (hin k)⟩
 have e : (List.range l.length).map (fun i => mv.hs.getD i (.slice none 0 0)) = mv.hs := by
  apply List.ext_getElem
  ·simp [hl]
  ·intro i h1 h2
   simp [List.getD_eq_getElem?_getD, h2]
 rw [e, List.length_range]
 exact h.own
theorem Rel.perm [Tabs] {s : St} (h : Rel P X lo N w0 s a w μ) (o : Nat) : ∃ μ', Rel P X lo N w0 (s.perm o) a w μ' := by
 unfold St.perm
 split
 next e e2 t l hg =>
  have hd : ∀ mv, μ o = some mv → RelV P w lo μ (SS X μ) (.arr o) mv.v := fun mv hmv => by
   obtain ⟨y, hy, hob⟩ := h.mem.ob _ _ hmv
   rw [hg] at hy
   cases hy
   obtain ⟨v, rs, hs⟩ := mv
   have hx : ∃ a n c, v = .slice a n c := by
    rcases hob.1.own.2 with ⟨e1, _⟩ | ⟨_, _, _, e1, _⟩
    ·exact ⟨_, _, _, e1⟩
    ·exact ⟨_, _, _, e1⟩
   obtain ⟨a', n', c', hx⟩ := hx
   subst hx
   exact .arr (rs := rs) (hs := hs) hmv
  refine ⟨μ, ⟨h.mem.hX, h.mem.hlo, fun p mv hp => ?_, h.mem.dis, h.mem.tab⟩, fun j => ?_, h.bel, h.df, h.sz⟩
  ·obtain ⟨y, hy, hyo⟩ := h.mem.ob p mv hp
   by_cases hne : p = o
   ·subst hne
    rw [hg] at hy
    cases hy
    exact ⟨.perm false e e2 t (List.range l.length) l, by simp [St.g, St.swap, look], hyo.1.perm⟩
   ·refine ⟨wcy o (.arr o) y, ?_, wdo h.mem.hlo (fun q mv' hq hp' => hp') hd (fun _ _ hs => hs) hyo⟩
    simp only [St.g, St.swap, List.singleton_append, look, wal (Ne.symm hne), wap]
    rw [wau o s.ob p hne]
    simp only [St.g] at hy
    rw [hy]
    rfl
  ·simp only [St.slot, St.swap, wap]
   have := wep (d := .arr o) h.mem.hlo (fun q mv' hq hp' => hp') hd (fun _ _ hs => hs) (h.fr j)
   simp only [St.slot] at this
   cases hl : look s.fr j with
   | none => exact .undef
   | some v => rw [hl] at this; exact this
 next => exact ⟨μ, h⟩
theorem Rel.perms [Tabs] : ∀ (l : List Nat) {s : St} {μ : Nat → Option MV}, Rel P X lo N w0 s a w μ → ∃ μ', Rel P X lo N w0 (s.perms l) a w μ'
 | [], s, μ, h => ⟨μ, h⟩
 | o :: l, s, μ, h => by
  obtain ⟨μ', h'⟩ := h.perm o
  exact Rel.perms l h'
theorem Rel.flats [Tabs] : ∀ (l : List Nat) {s : St} {μ : Nat → Option MV}, Rel P X lo N w0 s a w μ → ∃ μ', Rel P X lo N w0 (s.flats l) a w μ'
 | [], _, μ, h => ⟨μ, h⟩
 | o :: l, s, μ, h => by
  obtain ⟨μ', h'⟩ := h.flat o
  exact Rel.flats l h'
theorem Rel.freezes [Tabs] : ∀ (l : List Nat) {s : St} {μ : Nat → Option MV}, Rel P X lo N w0 s a w μ → ∃ μ', Rel P X lo N w0 (s.freezes l) a w μ'
 | [], _, μ, h => ⟨μ, h⟩
 | o :: l, s, μ, h => by
  obtain ⟨μ', h'⟩ := h.freeze o
  exact Rel.freezes l h'
theorem Rel.put [Tabs] {s : St} (h : Rel P X lo N w0 s a w μ) {d : Nat} (hd : N.has d) {v : AV} {x : Value} (hv : RelV P w lo μ (SS X μ) v x) : Rel P X lo N w0 { s with fr := (d, v) :: s.fr } (a.put (some d) x) w μ := by
 refine ⟨h.mem, fun i => ?_, h.bel, h.df, h.sz.put hd⟩
 simp only [St.slot, look, Act.put]
 by_cases e : d = i
 ·subst e
  rw [wam]
  have hd' : d < a.tmps.size := by rw [h.sz.n]; exact hd.2
  simpa [hd'] using hv
 ·rw [wal e]
  have := h.fr i
  simp only [St.slot] at this
  simpa [Array.getElem?_setIfInBounds_ne e] using this
theorem Rel.know [Tabs] {s : St} (h : Rel P X lo N w0 s a w μ) {d : Nat} {v : AV} (hv : RelV P w lo μ (SS X μ) v (a.tmps.getD d undef)) : Rel P X lo N w0 { s with fr := (d, v) :: s.fr } a w μ := by
 refine ⟨h.mem, fun i => ?_, h.bel, h.df, h.sz⟩
 simp only [St.slot, look]
 by_cases e : d = i
 ·subst e
  rw [wam]
  exact hv
 ·rw [wal e]
  exact h.fr i
def slA (sl : Nat → AV) (u : LU) (i : Nat) : AV :=
 match u.d with
 | some p => if p.1 = i then p.2 else (match u.und with
  | some b => if b = i then .undef else sl i
  | none => sl i)
 | none => sl i
def gA (g : Nat → Option Ob) (u : LU) (i : Nat) : Option Ob :=
 match look u.objs i with
 | some x => some x
 | none => g i
theorem wpm [Tabs] (s : St) (u : LU) : (s.app u).slot = slA s.slot u := by
 funext i
 obtain ⟨d, und, objs⟩ := u
 cases d with
 | none => rfl
 | some p =>
  simp only [St.app, St.slot, look, slA]
  by_cases e : p.1 = i
  ·subst e; rw [wam]; simp
  ·rw [wal e, if_neg e]
   cases und with
   | none => rfl
   | some b =>
    simp only [look]
    by_cases e' : b = i
    ·subst e'; rw [wam]; simp
    ·rw [wal e', if_neg e']
theorem waii [Tabs] (s : St) (u : LU) : (s.app u).g = gA s.g u := by
 funext i
 simp only [St.app, St.g, weo, gA]
 cases look u.objs i <;> rfl
theorem wpn {a : Act} {d : Nat} {x : Value} (hd : d < a.tmps.size) (i : Nat) : (a.put (some d) x).tmps.getD i undef = if d = i then x else a.tmps.getD i undef := by
 simp only [Act.put]
 by_cases e : d = i
 ·subst e; simp [hd]
 ·rw [if_neg e]; simp [Array.getElem?_setIfInBounds_ne e]
theorem RelF.upd [Tabs] {sl : Nat → AV} (h : RelF P X lo N w0 sl g a w μ) {u : LU} {w' : World} {μ' : Nat → Option MV} (hn : (u.objs.map (·.1)).Nodup) (hu : u.und = none) (hq : NxU P X lo g μ w u.objs [] w' μ') {dst : Option Nat} (hd : dst = u.d.map (·.1)) (hdN : ∀ d, dst = some d → N.has d) {x : Value}
  (hv : ∀ p, u.d = some p → RelV P w' lo μ' (SS X μ') p.2 x) : RelF P X lo N w0 (slA sl u) (gA g u) (a.put dst x) w' μ' := by
 refine ⟨hq.mem _ (fun p hp => ?_) fun o mv _ ho => ?_, fun i => ?_, h.bel.trans hq.kept, ?_, ?_⟩
 ·rw [gA, wjw hn hp]
 ·rw [gA]
  cases hl : look u.objs o with
  | none => simp only; cases g o <;> rfl
  | some y => exact absurd rfl (ho _ (wbw hl))
 ·have hold := hq.step h.mem.hlo (h.fr i)
  rw [slA, hu]
  cases hud : u.d with
  | none =>
   rw [hud] at hd
   simp only [Option.map_none] at hd
   subst hd
   exact hold
  | some p =>
   rw [hud] at hd
   simp only [Option.map_some] at hd
   subst hd
   have hlt : p.1 < a.tmps.size := by rw [h.sz.n]; exact (hdN _ rfl).2
   rw [wpn hlt]
   simp only
   split
   ·exact hv p hud
   ·exact hold
 ·cases dst <;> exact h.df
 ·cases dst
  ·exact h.sz
  ·exact h.sz.put (hdN _ rfl)
theorem wvy : ∀ (ks : List Nat) (s : St), (s.kills ks).fr = s.fr.map fun q => (q.1, wabx ks q.2)
 | [], s => by simp [St.kills, wabx]
 | p :: ks, s => by
  have := wvy ks (s.kill p)
  simp only [St.kills, List.foldl_cons] at this ⊢
  rw [this]
  simp [St.kill, wabx]
theorem wvz : ∀ (ks : List Nat) (s : St), (s.kills ks).ob = s.ob.map fun q => (q.1, wji ks q.2)
 | [], s => by simp [St.kills, wji]
 | p :: ks, s => by
  have := wvz ks (s.kill p)
  simp only [St.kills, List.foldl_cons] at this ⊢
  rw [this]
  simp [St.kill, wji]
theorem wzn (ks : List Nat) (s : St) (i : Nat) : (s.kills ks).slot i = ((look s.fr i).map (wabx ks)).getD .undef := by
 unfold St.slot
 rw [wvy, wap]
theorem waos (ks : List Nat) (s : St) (i : Nat) : (s.kills ks).g i = (s.g i).map (wji ks) := by
 unfold St.g
 rw [wvz, wap]
theorem Rel.updK [Tabs] {s : St} (h : Rel P X lo N w0 s a w μ) {u : LU} {ks : List Nat} {w' : World} {μ' : Nat → Option MV} (hn : (u.objs.map (·.1)).Nodup) (hu : u.und = none) (hq : NxU P X lo s.g μ w u.objs ks w' μ') {dst : Option Nat} (hd : dst = u.d.map (·.1)) (hdN : ∀ d, dst = some d → N.has d) {x : Value}
  (hv : ∀ p, u.d = some p → RelV P w' lo μ' (SS X μ') p.2 x) : Rel P X lo N w0 ((s.kills ks).app u) (a.put dst x) w' μ' := by
 refine ⟨hq.mem _ (fun p hp => ?_) fun o mv _ ho => ?_, fun i => ?_, h.bel.trans hq.kept, ?_, ?_⟩
 ·rw [waii, gA, wjw hn hp]
 ·rw [waii, gA]
  cases hl : look u.objs o with
  | none => exact waos ks s o
  | some y => exact absurd rfl (ho _ (wbw hl))
 ·have hold : RelV P w' lo μ' (SS X μ') ((s.kills ks).slot i) (a.tmps.getD i undef) := by
   rw [wzn]
   have := h.fr i
   simp only [St.slot] at this
   cases hl : look s.fr i with
   | none => exact .undef
   | some v => rw [hl] at this; exact RelV.kill h.mem.hlo hq.data hq.kept.block hq.hs this
  rw [wpm, slA, hu]
  cases hud : u.d with
  | none =>
   rw [hud] at hd
   simp only [Option.map_none] at hd
   subst hd
   exact hold
  | some p =>
   rw [hud] at hd
   simp only [Option.map_some] at hd
   subst hd
   have hlt : p.1 < a.tmps.size := by rw [h.sz.n]; exact (hdN _ rfl).2
   rw [wpn hlt]
   simp only
   split
   ·exact hv p hud
   ·exact hold
 ·cases dst <;> exact h.df
 ·cases dst
  ·exact h.sz
  ·exact h.sz.put (hdN _ rfl)
theorem Rel.upd [Tabs] {s : St} (h : Rel P X lo N w0 s a w μ) {u : LU} {w' : World} {μ' : Nat → Option MV} (hn : (u.objs.map (·.1)).Nodup) (hu : u.und = none) (hq : NxU P X lo s.g μ w u.objs [] w' μ') {dst : Option Nat} (hd : dst = u.d.map (·.1)) (hdN : ∀ d, dst = some d → N.has d) {x : Value}
  (hv : ∀ p, u.d = some p → RelV P w' lo μ' (SS X μ') p.2 x) : Rel P X lo N w0 (s.app u) (a.put dst x) w' μ' := by
 have := RelF.upd h hn hu hq hd hdN hv
 rw [← wpm, ← waii] at this
 exact this
theorem wtq {o : Nat} {v : AV} (h : clL o v = true) : wia o .undef v = v := by
 cases v with
 | arr p => simp only [clL, Bool.not_eq_true'] at h; simp [wia, h]
 | elt p i s => simp only [clL, Bool.not_eq_true'] at h; simp [wia, h]
 | fld p i s k => simp only [clL, Bool.not_eq_true'] at h; simp [wia, h]
 | row p i => simp only [clL, Bool.not_eq_true'] at h; simp [wia, h]
 | relt p i n s => simp only [clL, Bool.not_eq_true'] at h; simp [wia, h]
 | suf p i s => simp only [clL, Bool.not_eq_true'] at h; simp [wia, h]
 | pre p i => simp only [clL, Bool.not_eq_true'] at h; simp [wia, h]
 | box p k => simp only [clL, Bool.not_eq_true'] at h; simp [wia, h]
 | fn f caps =>
  cases caps with
  | nil => rfl
  | cons c caps => simp [clL] at h
 | dat t v => rfl
 | nilsl => rfl
 | undef => rfl
 | clo ts r p => rfl
 | _ => simp [clL] at h
theorem wfg {F : AV → AV} {cs : List AV} (h : ∀ c ∈ cs, F c = c) : cs.map F = cs := by
 induction cs with
 | nil => rfl
 | cons c cs ih => rw [List.map_cons, h c List.mem_cons_self, ih fun c hc => h c (List.mem_cons_of_mem _ hc)]
theorem wacf [Tabs] {o : Nat} {v : AV} (h : clC o v = true) : frzC o .undef v = v := by
 cases v with
 | ptr cs =>
  simp only [clC, List.all_eq_true] at h
  simp only [frzC]
  rw [wfg fun c hc => wtq (h c hc)]
 | _ => simp only [clC] at h; simpa only [frzC] using wtq h
theorem wtr [Tabs] {o : Nat} {v : AV} (h : cl1 o v = true) : frz1 o .undef v = v := by
 cases v with
 | agg cs =>
  simp only [cl1, List.all_eq_true] at h
  simp only [frz1]
  rw [wfg fun c hc => wtq (h c hc)]
 | fn f caps =>
  simp only [cl1, List.all_eq_true] at h
  simp only [frz1]
  rw [wfg fun c hc => wacf (h c hc)]
 | bnd f fs => simp [cl1, clC, clL] at h
 | _ => simp only [cl1] at h; simpa only [frz1] using wacf h
theorem waij [Tabs] {o : Nat} {x : Ob} (h : clOb o x = true) : wcy o .undef x = x := by
 cases x with
 | arr e t l => rfl
 | txt e l => rfl
 | deep e t l => rfl
 | perm k e e2 t ix l => rfl
 | spent => rfl
 | rows e e2 t l hh =>
  cases hh with
  | none => rfl
  | some q =>
   obtain ⟨i, k⟩ := q
   cases k with
   | none => rfl
   | some d =>
    simp only [clOb, Bool.not_eq_true'] at h
    simp [wcy, unl, h]
 | cells cs =>
  simp only [clOb, List.all_eq_true] at h
  simp only [wcy]
  rw [wfg fun c hc => wtr (h c hc)]
end
end Go.Proofs.Ytnagpmhaddfgmaa
/-
 Stores and appends.
-/
namespace Go.Proofs.Ytnagpmhaddfgmaa
open Go.RowKit (Below)
section
variable {P : Program} {tt : Nat → TD} {w : World} {lo : Nat → Prop} {N : Par} {μ : Nat → Option MV} {S : Nat → Prop} {X : Nat → Prop} {g : Nat → Option Ob} {a : Act} {E : Env} {w0 : World}
theorem Rep.one : ∀ {t : Ty} {v : t.I} {cs : List Value}, Rep S w t v cs → ∀ u ∈ cs, u.oneCell' = true
 | .int _, _, _, h, u, hu => by simp [Rep] at h; subst h; simp at hu; subst hu; rfl
 | .bool, _, _, h, u, hu => by simp [Rep] at h; subst h; simp at hu; subst hu; rfl
 | .str, _, _, h, u, hu => by simp [Rep] at h; subst h; simp at hu; subst hu; rfl
 | .hdr, _, _, h, u, hu => by
  simp only [Rep] at h
  obtain ⟨_, _, e, _⟩ := h
  rw [e] at hu
  simp at hu
  rw [hu]
  rfl
 | .seq _, _, _, h, u, hu => by simp only [Rep] at h; obtain ⟨_, _, _, rfl, _⟩ := h; simp at hu; subst hu; rfl
 | .slice _, _, _, h, u, hu => by simp only [Rep] at h; obtain ⟨a, c, rfl, _⟩ := h; simp at hu; subst hu; rfl
 | .pair a b, _, _, h, u, hu => by
  obtain ⟨c1, c2, rfl, h1, h2⟩ := h
  rcases List.mem_append.1 hu with h | h
  ·exact h1.one u h
  ·exact h2.one u h
theorem RepL.one [Tabs] {t : Ty} : ∀ {l : List t.I} {cs : List Value}, RepL S w t l cs → ∀ u ∈ cs, u.oneCell' = true
 | [], _, h, u, hu => by simp only [RepL] at h; subst h; cases hu
 | _ :: _, _, ⟨c, r, e, h1, h2⟩, u, hu => by
  subst e
  rcases List.mem_append.1 hu with h | h
  ·exact h1.one u h
  ·exact RepL.one h2 u h
theorem one_cell [Tabs] {v : AV} {x : Value} (h : RelV P w lo μ S v x) (h1 : one v = true) : x.oneCell' = true := by
 cases h with
 | undef => simp [one] at h1
 | skip => simp [one] at h1
 | tup => simp [one] at h1
 | agg => simp [one] at h1
 | dat _ h => exact h.one x (by simp)
 | clo h => obtain ⟨_, f, fs, xs, rfl, _⟩ := h; rfl
 | _ => rfl
theorem wbo {α : Type} (L c : List α) (i n m : Nat) (hc : c.length = n) (h1 : i + n ≤ m) (h2 : m ≤ L.length) : (L.take i ++ c ++ L.drop (i + n)).take m = (L.take m).take i ++ c ++ (L.take m).drop (i + n) := by
 have hl : (L.take i ++ c).length = i + n := by
  rw [List.length_append, List.length_take, hc]
  omega
 rw [List.take_append, hl, List.take_of_length_le (by omega), List.take_take, Nat.min_eq_left (by omega), List.drop_take]
theorem wpo {α : Type} (L : List α) (i : Nat) (y : α) (h : i < L.length) : (L.set i y).take (i + 1) = L.take i ++ [y] := by
 rw [List.take_succ_eq_append_getElem (by simpa using h)]
 simp [List.take_set_of_le]
theorem wky [Tabs] (k : Nat) : ∀ (xs : List Value) (m : Nat) (us : Array Value), k + m + xs.length ≤ us.size → (xs.zipIdx m).foldl (fun cs (c, j) => cs.setIfInBounds (k + j) c) us = (us.toList.take (k + m) ++ xs ++ us.toList.drop (k + m + xs.length)).toArray
 | [], m, us, _ => by simp
 | y :: ys, m, us, hle => by
  simp only [List.length_cons] at hle
  rw [List.zipIdx_cons, List.foldl_cons]
  rw [wky k ys (m + 1) _ (by simp; omega)]
  have e1 := wpo us.toList (k + m) y (by simp; omega)
  have e2 : (us.toList.set (k + m) y).drop (k + m + (ys.length + 1)) = us.toList.drop (k + m + (ys.length + 1)) := List.drop_set_of_lt (by omega)
  rw [Array.toList_setIfInBounds, show k + (m + 1) = k + m + 1 by omega, e1, show k + m + 1 + ys.length = k + m + (ys.length + 1) by omega, e2]
  simp
theorem wbp {ty n b k : Nat} {x : Value} {w' : World} (hs : (sizeOf ty).run P w = .ok n w) (hx : x.cells.size = n) (h : (storeCells ⟨b, k, none⟩ x.cells.toList).run P w = .ok () w') :
  (Instr.storeAt ty (.pointer (some ⟨b, k, none⟩)) x).run P w = .ok () w' := by
 simp only [Instr.storeAt, Instr.sureAddr, storeVar, Sem.run_bind, Sem.run_pure, Result.andThen_ok, hs]
 rw [if_neg (by simp [hx])]
 exact h
theorem NxU.wrote [Tabs] (hm : Mem P X lo g μ w) {o b : Nat} {mv : MV} (ho : μ o = some mv) (hr : b ∈ mv.rs) {cs : Array Value} {x : Ob}
  (hx : ObOK P (w.setRow b cs) lo μ (SS X μ) x mv) : NxU P X lo g μ w [(o, x)] [] (w.setRow b cs) μ := by
 have hw : ∀ k, k ≠ b → (w.setRow b cs).heap[k]? = w.heap[k]? := fun k hk => setRow_other w b k cs hk
 have hlb := (hm.lt ho hr).1
 have hsame : ∀ k, k < w.heap.size → SS X μ k → SS X μ k ∧ (w.setRow b cs).heap[k]? = w.heap[k]? := fun k _ hS => ⟨hS, hw k fun e => by subst e; exact hS.2 o mv ho hr⟩
 have hlow : ∀ k, lo k → (w.setRow b cs).heap[k]? = w.heap[k]? := fun k hk => hw k fun e => hlb (e ▸ hk)
 refine ⟨⟨fun p mv h => ⟨mv.rs, mv.hs, h, fun _ => Ext.refl _⟩, fun _ _ hk => (by cases hk)⟩, fun p mv h => .inl ⟨mv, h⟩, fun p mv k h hk => .inr ⟨p, mv, h, hk⟩, ⟨rfl, rfl, rfl, by simp, hlow⟩, fun k _ hk => hw k fun e => hk (o, x) (by simp) mv ho (e ▸ hr), fun g' h1 h2 => ⟨hm.hX, by simpa using hm.hlo, fun p mv' hp => ?_, hm.dis, hm.tab.step hlow⟩⟩
 by_cases e : p = o
 ·subst e
  rw [ho] at hp
  cases hp
  exact ⟨x, h1 (p, x) (by simp), hx⟩
 ·obtain ⟨y, hy, hyo⟩ := hm.ob p mv' hp
  have hne : ∀ q ∈ [(o, x)], q.1 ≠ p := fun q hq e' => by
   simp only [List.mem_singleton] at hq
   subst hq
   exact e e'.symm
  refine ⟨y, by rw [h2 p mv' hp hne, hy]; rfl, hyo.step hm.hlo (fun _ _ h => h) hsame hlow fun k hk => hw k fun ek => ?_⟩
  subst ek
  exact e (hm.dis p o mv' mv k hp ho hk hr)
theorem wacg [Tabs] (hT : waj P tt) (hm : Mem P X lo g μ w) {u : LU} {ty : Nat} {av vv : AV} (hq : (wjh tt g ty av vv).ev = some u) {va x : Value} (ha : RelV P w lo μ (SS X μ) av va) (hv : RelV P w lo μ (SS X μ) vv x) :
  ∃ w', (Instr.storeAt ty va x).run P w = .ok () w' ∧ NxU P X lo g μ w u.objs [] w' μ ∧ wbk g u.objs = [] ∧ u.d = none ∧ u.und = none ∧ (u.objs.map (·.1)).Nodup := by
 unfold wjh at hq
 split at hq
 ·rename_i o k
  split at hq
  next cs vs sz hg hc hsz =>
   split at hq
   next hn =>
    simp only [Tr.ev_l, Option.some.injEq] at hq
    subst hq
    obtain ⟨hs1, hs2⟩ := wcz (P := P) (w := w) hT hsz
    obtain ⟨hc1, hc2⟩ := wcj hv hc
    cases ha with
    | @box _ _ b _ _ _ hμ =>
     obtain ⟨y, hy, hob⟩ := hm.ob _ _ hμ
     rw [hg] at hy
     cases hy
     obtain ⟨b', us, e, he, hlb, hh, hus, hr⟩ := hob
     simp only [MV.mk.injEq, Value.pointer.injEq, Option.some.injEq, Addr.mk.injEq, and_true] at he
     obtain ⟨he, rfl, rfl⟩ := he
     subst he
     have hone : ∀ u ∈ x.cells.toList, u.oneCell' = true := fun u hu => by
      obtain ⟨j, hj, rfl⟩ := List.mem_iff_getElem.1 hu
      have hj' : j < vs.length := by rw [← hc1]; simpa using hj
      have hnj : nth vs j = some vs[j] := by rw [wo]; simp
      have := hc2 j _ hnj
      have h1 := List.all_eq_true.1 hn.2.2 vs[j] (List.getElem_mem hj')
      have hjx : j < x.cells.size := by simpa using hj
      have h2 := one_cell this h1
      simpa [hjx] using h2
     have hrun := run_storeCells_at P b k e x.cells.toList 0 us w hh (by simp [hc1, hus]; exact hn.2.1) hone
     simp only [Nat.add_zero] at hrun
     refine ⟨_, wbp hs2 (hc1.trans hn.1) hrun, ?_, by simp [wbk, wkm, hg], rfl, rfl, by simp⟩
     refine NxU.wrote hm hμ (by simp) ⟨b, _, e, rfl, hlb, setRow_heap w b us _ e _ hh, ?_, ?_⟩
     all_goals
      have hall := AllR.puts (P := P) (w := w) (lo := lo) (μ := μ) (S := SS X μ) vs k cs us x.cells.toList ⟨hus, hr⟩ (by simpa using hc1) (by simpa using hc2) 0
      rw [wky k x.cells.toList 0 us (by simp [hc1, hus]; exact hn.2.1)] at hall
      simp only [Nat.add_zero] at hall ⊢
     ·exact hall.1
     ·intro j v hj
      refine (hall.2 j v hj).step (fun _ _ h => h) hm.hlo (fun m hm' hS => ⟨hS, setRow_other w b m _ fun e => by subst e; exact hS.2 o _ hμ (by simp)⟩) fun m hm' => setRow_other w b m _ fun e => hlb (e ▸ hm')
   next => cases hq
  next => cases hq
 ·rename_i o i z
  split at hq
  next e t l sz hg hsz =>
   split at hq
   next hz =>
    split at hq
    next y hgy =>
     obtain ⟨hi, hq⟩ := ev_g hq
     simp only [decide_eq_true_eq] at hi
     simp only [Tr.ev_l, Option.some.injEq] at hq
     subst hq
     obtain ⟨hs1, hs2⟩ := wcz (P := P) (w := w) hT hsz
     have hrep := wpg hgy hv
     cases ha with
     | @elt _ _ _ _ b n c _ _ hμ =>
      obtain ⟨yy, hyy, hob⟩ := hm.ob _ _ hμ
      rw [hg] at hyy
      cases hyy
      obtain ⟨⟨hhs, hrs⟩, hnl, xs, hown, hrl⟩ := hob
      simp only [wu, Option.toList] at hrs hhs
      subst hrs
      subst hhs
      rcases hown.2 with ⟨e1, e2⟩ | ⟨b', cap, cur, ev, hlb, hh, hnc, hcm, hcs, htake⟩
      ·cases e1
      ·simp only [Value.slice.injEq, Option.some.injEq, Addr.mk.injEq, and_true] at ev
       obtain ⟨rfl, rfl, rfl⟩ := ev
       have hlen : x.cells.toList.length = t.size := hrep.len
       have hle : (i + 1) * t.size ≤ l.length * t.size := Nat.mul_le_mul_right _ (by omega)
       have hle2 : l.length * t.size ≤ c * t.size := Nat.mul_le_mul_right _ hnc
       rw [Nat.add_mul, Nat.one_mul] at hle
       have hrun := run_storeCells_at P b (i * t.size) e x.cells.toList 0 cur w hh (by rw [hlen, hcs]; omega) hrep.one
       simp only [Nat.add_zero] at hrun
       have hcsz : x.cells.size = t.size := by simpa using hlen
       refine ⟨_, wbp hs2 (hcsz.trans hz.1.symm) (by rw [hz.2]; exact hrun), ?_, by simp [wbk, wkm, hg], rfl, rfl, by simp⟩
       have hxs := RepL.set hrl hi hrep
       refine NxU.wrote hm hμ (by simp) ⟨⟨rfl, rfl⟩, hnl, xs.take (i * t.size) ++ x.cells.toList ++ xs.drop (i * t.size + t.size), ⟨?_, .inr ⟨b, c, _, ?_, hlb, setRow_heap w b cur _ e _ hh, ?_, hcm, ?_, ?_⟩⟩, ?_⟩
       ·have := hxs.len
        simpa using this
       ·simp
       ·simpa using hnc
       ·simp only [List.size_toArray, List.length_append, List.length_take, List.length_drop, Array.length_toList, hcsz, hcs]
        omega
       ·rw [← htake]
        simp only [List.length_set]
        rw [hlen]
        exact wbo _ _ _ _ _ hlen hle (by simp [hcs]; exact hle2)
       ·refine hxs.step fun m hm' hS => ⟨hS, setRow_other w b m _ fun e => by subst e; exact hS.2 o _ hμ (by simp)⟩
    next => cases hq
   next => cases hq
  next kp e e2 t ix l sz hg hsz =>
   split at hq
   next hz =>
    split at hq
    next p j =>
     split at hq
     next hpo =>
      subst hpo
      obtain ⟨hi, hq⟩ := ev_g hq
      simp only [decide_eq_true_eq] at hi
      simp only [Tr.ev_l, Option.some.injEq] at hq
      subst hq
      obtain ⟨hs1, hs2⟩ := wcz (P := P) (w := w) hT hsz
      cases ha with
      | @elt _ _ _ _ b n c rs hds hμ =>
       cases hv with
       | @row _ _ _ v0 rs' hds' a1 n1 c1 hμ' hx' =>
        rw [hμ] at hμ'
        simp only [Option.some.injEq, MV.mk.injEq] at hμ'
        obtain ⟨rfl, rfl, rfl⟩ := hμ'
        obtain ⟨yy, hyy, hob⟩ := hm.ob _ _ hμ
        rw [hg] at hyy
        cases hyy
        have hp : PermOK w lo (SS X μ) e e2 t ix l ⟨.slice (some ⟨b, 0, none⟩) n c, rs, hds⟩ := hob
        have hbr : b ∈ rs := hp.top b rfl
        rcases hp.own.2 with ⟨e1, _⟩ | ⟨b', cap, cur, ev, hb0, hh', hnc, hcm, hcs, htake⟩
        ·cases e1
        ·simp only [Value.slice.injEq, Option.some.injEq, Addr.mk.injEq, and_true] at ev
         obtain ⟨rfl, rfl, rfl⟩ := ev
         simp only [Nat.mul_one] at hcs htake
         have hrun := run_storeCells_at P b (i * 1) e [.slice a1 n1 c1] 0 cur w hh' (by simp [hcs]; omega) (fun u hu => by simp at hu; subst hu; rfl)
         simp only [Nat.add_zero] at hrun
         refine ⟨_, wbp hs2 (by rw [hz.1]; rfl) (by rw [hz.2]; exact hrun), ?_, by simp [wbk, wkm], rfl, rfl, by simp⟩
         have hoth : ∀ b', b' ≠ b → (w.setRow b (cur.toList.take (i * 1) ++ [Value.slice a1 n1 c1] ++ cur.toList.drop (i * 1 + [Value.slice a1 n1 c1].length)).toArray).heap[b']? = w.heap[b']? := fun b' hne => setRow_other w b b' _ hne
         refine NxU.wrote hm hμ hbr ⟨?_, hp.len, hp.top, fun b' hb' => ⟨(hp.low b' hb').1, by simpa using (hp.low b' hb').2⟩, hp.slc, fun j' x r hx hl => ?_, hp.apart⟩
         ·refine ⟨by simp, .inr ⟨b, c, _, by simp, hb0, setRow_heap w b cur _ e _ hh', by simpa using hnc, hcm, ?_, ?_⟩⟩
          ·simp only [List.size_toArray, List.length_append, List.length_take, List.length_drop, Array.length_toList, List.length_cons, List.length_nil, hcs]
           omega
          ·have h1 := wbo cur.toList [Value.slice a1 n1 c1] (i * 1) 1 ix.length rfl (by omega) (by simp [hcs]; omega)
           simp only [List.length_cons, List.length_nil, Nat.zero_add, List.length_set, Nat.mul_one] at h1 ⊢
           rw [h1, htake, List.map_set]
           have hxe : hds.getD j (.slice none 0 0) = .slice a1 n1 c1 := by rw [List.getD_eq_getElem?_getD, hx']; rfl
           rw [hxe, List.set_eq_take_append_cons_drop, if_pos (by simpa using hi)]
           simp
         ·obtain ⟨m1, xs, m2, m3⟩ := hp.row j' x r hx hl
          exact ⟨m1, xs, waf m2 fun b' hb' => hoth b' fun e => (m1 b' hb').2 (by rw [e]; rfl), m3.step fun b' _ hs' => ⟨hs', hoth b' fun e => by subst e; exact hs'.2 _ _ hμ hbr⟩⟩
     next => cases hq
    next => cases hq
   next => cases hq
  next e l sz hg hsz =>
   split at hq
   next hz =>
    split at hq
    next y hgy =>
     obtain ⟨hi, hq⟩ := ev_g hq
     simp only [decide_eq_true_eq] at hi
     simp only [Tr.ev_l, Option.some.injEq] at hq
     subst hq
     obtain ⟨hs1, hs2⟩ := wcz (P := P) (w := w) hT hsz
     have hrep := wpg hgy hv
     cases ha with
     | @elt _ _ _ _ b n c _ _ hμ =>
      obtain ⟨yy, hyy, hob⟩ := hm.ob _ _ hμ
      rw [hg] at hyy
      cases hyy
      obtain ⟨b', cap, cur, fr, he, hlb, hh, hfr, hlc, hcs, htk⟩ := hob
      simp only [MV.mk.injEq, Value.slice.injEq, Option.some.injEq, Addr.mk.injEq, and_true] at he
      obtain ⟨⟨rfl, rfl, rfl⟩, rfl, rfl⟩ := he
      have hxc : x.cells.toList = [.int .u8 y] := by simpa [Rep] using hrep
      have hcsz : x.cells.size = 1 := by rw [← Array.length_toList, hxc]; rfl
      have hic : i < cur.size := by omega
      have hrun : (storeCells ⟨b, i * z, none⟩ x.cells.toList).run P w = .ok () (w.setRow b (cur.setIfInBounds i (.int .u8 y))) := by
       rw [hxc, hz.2, Nat.mul_one]
       have hadd : (⟨b, i, none⟩ : Addr).add 0 = ⟨b, i, none⟩ := by rw [Addr.add_lit]; rfl
       have hcell : w.cell? ⟨b, i, none⟩ = some cur[i] := by simp [World.cell?, hh, hic]
       have hfro : w.frozen? ⟨b, i, none⟩ = false := by
        obtain ⟨f1, f2⟩ := fr
        simp only at hfr
        simp only [World.frozen?, hh, Bool.and_eq_false_iff, decide_eq_false_iff_not]
        left; omega
       have hst : (store ((⟨b, i, none⟩ : Addr).add 0) (.int .u8 y)).run P w = .ok () (w.setRow b (cur.setIfInBounds i (.int .u8 y))) := by
        rw [hadd, run_store P w _ _ _ rfl, hcell]
        simp only [hfro, Bool.false_eq_true, if_false]
        rw [setCell_eq_setRow w b i cur e fr _ hh]
       simp [storeCells, hst]
      refine ⟨_, wbp hs2 (hcsz.trans hz.1.symm) hrun, ?_, by simp [wbk, wkm, hg], rfl, rfl, by simp⟩
      refine NxU.wrote hm hμ (by simp) ⟨b, c, _, fr, by simp, hlb, setRow_heap w b cur _ e _ hh, hfr, by simpa using hlc, by simpa using hcs, ?_⟩
      rw [Array.toList_setIfInBounds, List.length_set, List.take_set, htk, List.map_set]
    next => cases hq
   next => cases hq
  next => cases hq
 ·rename_i o i z k
  split at hq
  next e t l vs sz hg hc hsz =>
   split at hq
   next hz =>
    split at hq
    next y hgy =>
     obtain ⟨hi, hq⟩ := ev_g hq
     simp only [decide_eq_true_eq] at hi
     simp only [Tr.ev_l, Option.some.injEq] at hq
     subst hq
     obtain ⟨hn, rfl, hkn⟩ := hz
     obtain ⟨hs1, hs2⟩ := wcz (P := P) (w := w) hT hsz
     obtain ⟨hc1, hc2⟩ := wcj hv hc
     cases ha with
     | @fld _ _ _ _ _ b n c _ _ hμ =>
      obtain ⟨yy, hyy, hob⟩ := hm.ob _ _ hμ
      rw [hg] at hyy
      cases hyy
      obtain ⟨⟨hhs, hrs⟩, hnl, xs, hown, hrl⟩ := hob
      simp only [wu, Option.toList] at hrs hhs
      subst hrs
      subst hhs
      rcases hown.2 with ⟨e1, e2⟩ | ⟨b', cap, cur, ev, hlb, hh, hnc, hcm, hcs, htake⟩
      ·cases e1
      ·simp only [Value.slice.injEq, Option.some.injEq, Addr.mk.injEq, and_true] at ev
       obtain ⟨rfl, rfl, rfl⟩ := ev
       have hle : (i + 1) * t.size ≤ l.length * t.size := Nat.mul_le_mul_right _ (by omega)
       have hle2 : l.length * t.size ≤ c * t.size := Nat.mul_le_mul_right _ hnc
       rw [Nat.add_mul, Nat.one_mul] at hle
       have hxl : xs.length = l.length * t.size := hown.1
       -- the element's cells
       have hel : l[i]? = some (l.getD i t.dflt) := by simp [List.getD_eq_getElem?_getD, hi]
       obtain ⟨cs0, hr0, hat⟩ := hrl.at hel
       have hl0 := hr0.len
       have hcs0 : (xs.drop (i * t.size)).take t.size = cs0 := by
        apply List.ext_getElem?
        intro j
        by_cases hj : j < t.size
        ·rw [List.getElem?_take, if_pos hj, List.getElem?_drop]
         have : cs0[j]? = some (cs0[j]'(by omega)) := by simp
         rw [this]
         exact hat j _ this
        ·rw [List.getElem?_eq_none (by simp; omega), List.getElem?_eq_none (by omega)]
       have hxc : x.cells.toList.length = vs.length := by simpa using hc1
       have hall := AllR.puts (P := P) (w := w) (lo := lo) (μ := μ) (S := SS X μ) vs k (flat t (l.getD i t.dflt)) cs0.toArray x.cells.toList
        ⟨by simp [hl0, wbr], fun j v hj => by have := wcr (P := P) (lo := lo) (μ := μ) hr0 j v hj; simpa [List.getD_eq_getElem?_getD] using this⟩ hxc (by simpa using hc2) 0
       rw [wky k x.cells.toList 0 cs0.toArray (by simp only [List.size_toArray]; omega)] at hall
       simp only [Nat.add_zero] at hall
       have hrepE := wck hgy (vs := cs0.take k ++ x.cells.toList ++ cs0.drop (k + x.cells.toList.length)) (by simpa using hall.1) (fun j v hj => by have := hall.2 j v hj; simpa [List.getD_eq_getElem?_getD] using this)
       have hrun := run_storeCells_at P b (i * t.size + k) e x.cells.toList 0 cur w hh (by rw [hxc, hcs]; omega) (fun u hu => hrepE.one u (by simp [hu]))
       simp only [Nat.add_zero] at hrun
       refine ⟨_, wbp hs2 (hc1.trans hn) hrun, ?_, by simp [wbk, wkm, hg], rfl, rfl, by simp⟩
       have hxs := RepL.set hrl hi hrepE
       have hsz2 : x.cells.size = vs.length := hc1
       refine NxU.wrote hm hμ (by simp) ⟨⟨rfl, rfl⟩, hnl, xs.take (i * t.size) ++ (cs0.take k ++ x.cells.toList ++ cs0.drop (k + x.cells.toList.length)) ++ xs.drop (i * t.size + t.size), ⟨?_, .inr ⟨b, c, _, ?_, hlb, setRow_heap w b cur _ e _ hh, ?_, hcm, ?_, ?_⟩⟩, ?_⟩
       ·have := hxs.len
        simpa using this
       ·simp
       ·simpa using hnc
       ·simp only [List.size_toArray, List.length_append, List.length_take, List.length_drop, Array.length_toList, hsz2, hcs]
        omega
       ·simp only [List.length_set]
        have h1 := wbo cur.toList x.cells.toList (i * t.size + k) x.cells.toList.length (l.length * t.size) rfl (by omega) (by simp [hcs]; exact hle2)
        rw [h1, htake]
        have h2 : xs.take (i * t.size + k) = xs.take (i * t.size) ++ cs0.take k := by
         rw [List.take_add, ← hcs0, List.take_take, Nat.min_eq_left (by omega)]
        have h3 : xs.drop (i * t.size + k + x.cells.toList.length) = cs0.drop (k + x.cells.toList.length) ++ xs.drop (i * t.size + t.size) := by
         rw [← hcs0, ← List.drop_append_of_le_length (by simp; omega)]
         rw [show xs.drop (i * t.size + t.size) = (xs.drop (i * t.size)).drop t.size by rw [List.drop_drop], List.take_append_drop, List.drop_drop]
         congr 1
         omega
        rw [h2, h3]
        simp
       ·refine hxs.step fun m hm' hS => ⟨hS, setRow_other w b m _ fun e => by subst e; exact hS.2 o _ hμ (by simp)⟩
    next => cases hq
   next => cases hq
  next => cases hq
 ·cases hq
end
end Go.Proofs.Ytnagpmhaddfgmaa
/-
 Appends; one operation; the operations of a region in the order of the text.
-/
namespace Go.Proofs.Ytnagpmhaddfgmaa
open Go.RowKit (Below)
section
variable {P : Program} {tt : Nat → TD} {w : World} {lo : Nat → Prop} {N : Par} {μ : Nat → Option MV} {S : Nat → Prop} {X : Nat → Prop} {g : Nat → Option Ob} {a : Act} {E : Env} {w0 : World}
theorem wkz {ty rt e n c sz : Nat} {i : TypeInfo} (hu : P.underlying ty = some (.slice e)) (hi : P.info? e = some i) {mv : Value} {xs : List Value} (hown : w.ownsRow 0 e sz mv n xs) :
  (Builtin.append_ #[ty, ty] rt #[mv, .slice none 0 c]).run P w = .ok mv w := by
 rcases hown.2 with ⟨rfl, rfl⟩ | ⟨g, cap, cur, rfl, _, _, hnc, _⟩
 ·simp [Builtin.append_, run_underlying hu, sizeOf, typeInfo, hi, Builtin.lenOf, Builtin.firstCells]
 ·simp [Builtin.append_, run_underlying hu, sizeOf, typeInfo, hi, Builtin.lenOf, Builtin.firstCells, hnc, storeCells]
theorem wcm [Tabs] {ty rt e n m : Nat} {t : Ty} {i : TypeInfo} {z : Value} {b : Nat} (hu : P.underlying ty = some (.slice e)) (hi : P.info? e = some i) (hs : i.size = t.size) (hb : i.bytes = b) (hz : i.zero = some z) (hzc : z.cells.size = t.size)
  {mv : Value} {xs : List Value} (hown : w.ownsRow 0 e t.size mv n xs) {ax : Option Addr} {c : Nat} {news : List Value} (hl : news.length = m * t.size) (hax : ax = none → m = 0) (hnews : ∀ ad, ax = some ad → ∀ j u, news[j]? = some u → w.cell? (ad.add j) = some u)
  (h1 : ∀ u ∈ news, u.oneCell' = true) (hbytes : (n + m) * b ≤ 140737488355328) (hb0 : 0 < b) :
  ∃ v' w', (Builtin.append_ #[ty, ty] rt #[mv, .slice ax m c]).run P w = .ok v' w' ∧ w'.ownsRow 0 e t.size v' (n + m) (xs ++ news) ∧ w'.os = w.os ∧ w'.tape = w.tape ∧ w'.output = w.output ∧ w.heap.size ≤ w'.heap.size ∧
   (∀ k, k < w.heap.size → wu mv ≠ some k → w'.heap[k]? = w.heap[k]?) ∧ (∀ k, wu v' = some k → wu mv = some k ∨ w.heap.size ≤ k) ∧ ∃ a' n' c', v' = .slice a' n' c' := by
 have hsmall : n + m ≤ 140737488355328 := by
  have := Nat.le_mul_of_pos_right (n + m) hb0
  omega
 have h63 : n + m ≤ maxLen := by unfold maxLen; omega
 have hform : ∃ a' n' c', mv = .slice a' n' c' := by
  rcases hown.2 with ⟨rfl, _⟩ | ⟨gb, cap, cur, rfl, _⟩
  ·exact ⟨_, _, _, rfl⟩
  ·exact ⟨_, _, _, rfl⟩
 cases ax with
 | none =>
  obtain rfl := hax rfl
  have hn : news = [] := List.eq_nil_of_length_eq_zero (by simpa using hl)
  subst hn
  have hrun := wkz (P := P) (rt := rt) (c := c) hu hi hown
  exact ⟨mv, w, hrun, by simpa using hown, rfl, rfl, rfl, Nat.le_refl _, fun _ _ _ => rfl, fun _ h => .inl h, hform⟩
 | some ad =>
  have hnews := hnews ad rfl
  rcases hown.2 with ⟨rfl, rfl⟩ | ⟨gb, cap, cur, rfl, hbg, hg, hnc, hcm, hcs, htake⟩
  ·have hown' : w.ownsRow w.heap.size e t.size (.slice none 0 0) 0 xs := ⟨hown.1, .inl ⟨rfl, rfl⟩⟩
   obtain ⟨v', w', h2, h3, h4, h5⟩ := run_append_own (P := P) w w.heap.size ty rt e i z t.size b hu hi hz hs hb hzc t.size_pos (.slice none 0 0) 0 xs hown' ad m c news hl hnews h1 h63 hbytes (Nat.le_refl _)
   refine ⟨v', w', h2, ⟨h3.1, h3.2.imp id fun ⟨gb, cap, cur, e1, e2, e3⟩ => ⟨gb, cap, cur, e1, Nat.zero_le _, e3⟩⟩, h4.os, h4.tape, h4.output, h4.size, fun k hk _ => h4.block k hk (by simp [Value.ownBlock]), fun k hk => .inr ?_, ?_⟩
   ·rcases h3.2 with ⟨rfl, _⟩ | ⟨gb, cap, cur, rfl, e2, _⟩
    ·simp [wu] at hk
    ·simp [wu] at hk; omega
   ·rcases h3.2 with ⟨rfl, _⟩ | ⟨gb, cap, cur, rfl, e2, _⟩
    ·exact ⟨_, _, _, rfl⟩
    ·exact ⟨_, _, _, rfl⟩
  ·have hlen : (xs ++ news).length = (n + m) * t.size := by rw [List.length_append, hown.1, hl, Nat.add_mul]
   by_cases hroom : n + m ≤ cap
   ·have hfit : n * i.size + news.length ≤ cur.size := by rw [hl, hcs, hs, ← Nat.add_mul]; exact Nat.mul_le_mul_right _ hroom
    have hr := run_append_room (P := P) w ty rt e i hu hi gb n cap cur hg ad m c news (by rw [hs]; exact hl) hnews h1 hroom hfit
    rw [hs] at hr hfit
    refine ⟨_, _, hr, ⟨hlen, .inr ⟨gb, cap, _, rfl, hbg, setRow_heap w gb cur _ e _ hg, hroom, hcm, ?_, ?_⟩⟩, rfl, rfl, rfl, by simp, fun k _ hk => setRow_other w gb k _ (fun e => hk (by simp [wu, e])), fun k hk => .inl hk, ⟨_, _, _, rfl⟩⟩
    ·simp only [List.size_toArray, List.length_append, List.length_take, List.length_drop, Array.length_toList]
     omega
    ·rw [htake, ← hlen]
     exact List.take_left
   ·have holds : ∀ j u, xs[j]? = some u → w.cell? ((⟨gb, 0, none⟩ : Addr).add j) = some u := hown.cells (g := gb) rfl
    have hr := run_append_grow (P := P) w ty rt e i z hu hi hz ⟨gb, 0, none⟩ n cap xs (by rw [hs]; exact hown.1) holds ad m c news (by rw [hs]; exact hl) hnews (by omega) (by omega) (growslice_fits (by omega) (by rw [hb]; exact hbytes))
    have hge := grownCap_ge w (n + m) cap e
    refine ⟨_, _, hr, ⟨hlen, .inr ⟨w.heap.size, _, _, rfl, Nat.zero_le _, heap_alloc_new w.drew _, hge, grownCap_le_maxLen w (n + m) cap e h63, ?_, ?_⟩⟩, rfl, rfl, rfl, by simp, fun k hk _ => heap_alloc_old w.drew _ hk, fun k hk => ?_, ⟨_, _, _, rfl⟩⟩
    ·simp only [Array.size_append, List.size_toArray, size_zeroCells, hzc, hown.1, hl, ← Nat.add_mul]
     congr 1
     omega
    ·simp only [Array.toList_append, List.append_assoc]
     rw [← List.append_assoc, ← hlen]
     exact List.take_left
    ·simp [wu] at hk
     exact .inr (by omega)
end
end Go.Proofs.Ytnagpmhaddfgmaa
