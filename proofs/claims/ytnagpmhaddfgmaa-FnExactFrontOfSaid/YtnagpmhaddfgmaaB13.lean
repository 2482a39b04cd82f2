/-
 The state; arrays that are given up.
-/
import Derived.Test.YtnagpmhaddfgmaaB12
namespace Go.Proofs.Ytnagpmhaddfgmaa
open Go.RowKit (Below)
structure Par where
 n : Nat
 k : List Nat
 v : Nat → Value
def Par.has (N : Par) (d : Nat) : Prop := d ∉ N.k ∧ d < N.n
structure SzOK (N : Par) (a : Act) : Prop where
 n : a.tmps.size = N.n
 v : ∀ i, i ∈ N.k → a.tmps.getD i undef = N.v i
theorem SzOK.put {N : Par} {a : Act} (h : SzOK N a) {d : Nat} (hd : N.has d) {x : Value} : SzOK N (a.put (some d) x) :=
 ⟨by simp [Act.put, h.n], fun i hi => by
  have e : d ≠ i := fun e => hd.1 (e ▸ hi)
  have := h.v i hi
  simp only [Act.put]
  simpa [Array.getElem?_setIfInBounds_ne e] using this⟩
structure RelF [Tabs] (P : Program) (X : Nat → Prop) (lo : Nat → Prop) (N : Par) (w0 : World) (sl : Nat → AV) (g : Nat → Option Ob) (a : Act) (w : World) (μ : Nat → Option MV) : Prop where
 mem : Mem P X lo g μ w
 fr : ∀ i, RelV P w lo μ (SS X μ) (sl i) (a.tmps.getD i undef)
 bel : Kept lo w0 w
 df : a.defers = []
 sz : SzOK N a
abbrev Rel [Tabs] (P : Program) (X : Nat → Prop) (lo : Nat → Prop) (N : Par) (w0 : World) (s : St) (a : Act) (w : World) (μ : Nat → Option MV) : Prop := RelF P X lo N w0 s.slot s.g a w μ
theorem wao {α β : Type} (f : α → β) : ∀ (l : List (Nat × α)) (i : Nat), look (l.map fun p => (p.1, f p.2)) i = (look l i).map f
 | [], _ => rfl
 |(k, x) :: r, i => by
  simp only [List.map_cons, look]
  split
  ·rfl
  ·exact wao f r i
theorem wau [Tabs] {α : Type} (o : Nat) : ∀ (l : List (Nat × α)) (i : Nat), i ≠ o → look (l.filter fun p => !(Nat.beq p.1 o)) i = look l i
 | [], _, _ => rfl
 |(k, x) :: r, i, h => by
  by_cases hk : k = o
  ·subst hk
   simp only [List.filter_cons, wam, Bool.not_true, Bool.false_eq_true, if_false, look]
   rw [wak (Ne.symm h)]
   exact wau k r i h
  ·simp only [List.filter_cons, wak hk, Bool.not_false, if_true, look]
   split
   ·rfl
   ·exact wau o r i h
theorem wec {α : Type} : ∀ (l r : List (Nat × α)) (i : Nat), look (l ++ r) i = match look l i with | some x => some x | none => look r i
 | [], r, i => rfl
 |(k, x) :: l, r, i => by
  simp only [List.cons_append, look]
  split
  ·rfl
  ·exact wec l r i
section
variable {P : Program} {tt : Nat → TD} {w : World} {lo : Nat → Prop} {N : Par} {μ : Nat → Option MV} {S : Nat → Prop} {X : Nat → Prop} {g : Nat → Option Ob} {a : Act} {E : Env} {w0 : World}
def without (μ : Nat → Option MV) (o p : Nat) : Option MV := if p = o then none else μ p
theorem wed [Tabs] {μ' : Nat → Option MV} {o : Nat} {d : AV} {S S' : Nat → Prop} (hlo : (∀ b, lo b → b < w.heap.size)) (hμ : ∀ p mv, p ≠ o → μ p = some mv → μ' p = some mv) (hd : ∀ mv, μ o = some mv → RelV P w lo μ' S' d mv.v) (hS : ∀ b, b < w.heap.size → S b → S' b) {v : AV} {x : Value}
  (h : RelV P w lo μ S v x) : RelV P w lo μ' S' (wwv o d v) x := wes hlo (fun p mv hp h => ⟨mv.rs, mv.hs, hμ p mv hp h, Ext.refl _⟩) hd hS h
theorem wdc [Tabs] {μ' : Nat → Option MV} {o : Nat} {d : AV} {S S' : Nat → Prop} (hlo : (∀ b, lo b → b < w.heap.size)) (hμ : ∀ p mv, p ≠ o → μ p = some mv → μ' p = some mv) (hd : ∀ mv, μ o = some mv → RelV P w lo μ' S' d mv.v) (hS : ∀ b, b < w.heap.size → S b → S' b) {x : Ob} {mv : MV}
  (h : ObOK P w lo μ S x mv) : ObOK P w lo μ' S' (wcm o d x) mv := wds hlo (fun p mv hp h => ⟨mv.rs, mv.hs, hμ p mv hp h, Ext.refl _⟩) hd hS h
theorem wdt {o : Nat} {b : Nat} (h : SS X μ b) : SS X (without μ o) b :=
 ⟨h.1, fun p mv hp e => by
  unfold without at hp
  split at hp
  ·cases hp
  ·exact h.2 p mv hp e⟩
theorem wdu {o p : Nat} {mv : MV} (h : p ≠ o) (hp : μ p = some mv) : without μ o p = some mv := by simp [without, h, hp]
theorem wbl {o p : Nat} {mv : MV} (h : without μ o p = some mv) : p ≠ o ∧ μ p = some mv := by
 unfold without at h
 split at h
 ·cases h
 ·exact ⟨by assumption, h⟩
theorem Rel.swap [Tabs] {s : St} (h : Rel P X lo N w0 s a w μ) {o : Nat} {d : AV} (hd : ∀ mv, μ o = some mv → RelV P w lo (without μ o) (SS X (without μ o)) d mv.v) : Rel P X lo N w0 (s.swap o d []) a w (without μ o) := by
 have hS : ∀ b, b < w.heap.size → SS X μ b → SS X (without μ o) b := fun b _ hs => wdt hs
 refine ⟨⟨h.mem.hX, h.mem.hlo, fun p mv hp => ?_, fun p p' mv mv' b h1 h2 h3 h4 => h.mem.dis p p' mv mv' b (wbl h1).2 (wbl h2).2 h3 h4, h.mem.tab⟩, fun i => ?_, h.bel, h.df, h.sz⟩
 ·obtain ⟨hne, hp⟩ := wbl hp
  obtain ⟨x, hx, hob⟩ := h.mem.ob p mv hp
  refine ⟨wcm o d x, ?_, wdc h.mem.hlo (fun p mv hne hp => wdu hne hp) hd hS hob⟩
  simp only [St.g, St.swap, List.nil_append, wao]
  rw [wau o s.ob p hne]
  simp only [St.g] at hx
  rw [hx]
  rfl
 ·simp only [St.slot, St.swap, wao]
  have := wed (d := d) h.mem.hlo (fun p mv hne hp => wdu (μ := μ) hne hp) hd hS (h.fr i)
  simp only [St.slot] at this
  cases hl : look s.fr i with
  | none => exact .undef
  | some v => rw [hl] at this; exact this
def given (μ : Nat → Option MV) (o d q : Nat) : Option MV :=
 if q = d then none else if q = o then (μ o).map fun mv => ⟨mv.v, mv.rs ++ ((μ d).map (·.rs)).getD [], mv.hs⟩ else μ q
theorem wbr {o d q : Nat} {mv : MV} (h : given μ o d q = some mv) : q ≠ d ∧ ((q = o ∧ ∃ mv0, μ o = some mv0 ∧ mv = ⟨mv0.v, mv0.rs ++ ((μ d).map (·.rs)).getD [], mv0.hs⟩) ∨ (q ≠ o ∧ μ q = some mv)) := by
 unfold given at h
 split at h
 ·cases h
 ·refine ⟨by assumption, ?_⟩
  split at h
  ·cases ho : μ o with
   | none => rw [ho] at h; cases h
   | some mv0 =>
    rw [ho] at h
    simp only [Option.map_some, Option.some.injEq] at h
    exact .inl ⟨by assumption, mv0, rfl, h.symm⟩
  ·exact .inr ⟨by assumption, h⟩
theorem wci {o d q : Nat} {mv : MV} (h : given μ o d q = some mv) {b : Nat} (hb : b ∈ mv.rs) : ∃ p mv0, μ p = some mv0 ∧ b ∈ mv0.rs ∧ (p = q ∨ (p = d ∧ q = o)) := by
 obtain ⟨_, ⟨rfl, mv0, h0, rfl⟩ | ⟨_, h1⟩⟩ := wbr h
 ·simp only [List.mem_append] at hb
  rcases hb with hb | hb
  ·exact ⟨_, mv0, h0, hb, .inl rfl⟩
  ·cases hd : μ d with
   | none => rw [hd] at hb; simp at hb
   | some mvd => rw [hd] at hb; exact ⟨d, mvd, hd, by simpa using hb, .inr ⟨rfl, rfl⟩⟩
 ·exact ⟨q, mv, h1, hb, .inl rfl⟩
theorem Rel.backV [Tabs] {s : St} (h : Rel P X lo N w0 s a w μ) {o d i e1 e : Nat} {t : Ty} {l : List (List t.I)} {r : List t.I} (hgo : s.g o = some (.rows e1 e t l (some (i, some d)))) (hgd : s.g d = some (.arr e t r)) {dv : AV}
  (hcd : ∀ {S' : Nat → Prop} mvd, μ d = some mvd → RelV P w lo (given μ o d) S' dv mvd.v) :
  Rel P X lo N w0 (s.swap d dv [(o, .rows e1 e t (l.set i r) none)]) a w (given μ o d) := by
 have hod : o ≠ d := fun e => by rw [e, hgd] at hgo; cases hgo
 have hμ : ∀ p mv, p ≠ d → μ p = some mv → ∃ rs hs, given μ o d p = some ⟨mv.v, rs, hs⟩ ∧ Ext mv.hs hs := fun p mv hp hm => by
  unfold given
  rw [if_neg hp]
  split
  next e => subst e; rw [hm]; exact ⟨_, _, rfl, Ext.refl _⟩
  next => exact ⟨mv.rs, mv.hs, hm, Ext.refl _⟩
 have hS : ∀ b, b < w.heap.size → SS X μ b → SS X (given μ o d) b := fun b _ hs => ⟨hs.1, fun q mv hq hb => by
  obtain ⟨p, mv0, k1, k2, _⟩ := wci hq hb
  exact hs.2 p mv0 k1 k2⟩
 have hobd : ∀ mvd, μ d = some mvd → ObOK P w lo μ (SS X μ) (.arr e t r) mvd := fun mvd hd => by
  obtain ⟨y, hy, hyo⟩ := h.mem.ob d mvd hd
  rw [hgd] at hy
  cases hy
  exact hyo
 refine ⟨⟨h.mem.hX, h.mem.hlo, fun p mv hp => ?_, fun p p' mv mv' b h1 h2 h3 h4 => ?_, h.mem.tab⟩, fun j => ?_, h.bel, h.df, h.sz⟩
 ·obtain ⟨hpd, ⟨rfl, mv0, k0, rfl⟩ | ⟨hpo, k1⟩⟩ := wbr hp
  ·refine ⟨.rows e1 e t (l.set i r) none, by simp [St.g, St.swap, look], ?_⟩
   obtain ⟨y, hy, hyo⟩ := h.mem.ob _ mv0 k0
   rw [hgo] at hy
   cases hy
   obtain ⟨hr, hk⟩ := hyo
   obtain ⟨x, rsd, hsd, k2, k3⟩ := hk i d rfl
   obtain ⟨⟨_, drs⟩, dlo, xs, down, drep⟩ := hobd _ k3
   simp only at drs dlo down
   have hlen := hr.len
   have hil : i < mv0.hs.length := (List.getElem?_eq_some_iff.1 k2).1
   have hrsd : ((μ d).map (·.rs)).getD [] = (wu x).toList := by rw [k3]; simp [drs]
   have hmem : ∀ b, wu x = some b → b ∈ rsd := fun b hb => by rw [drs, hb]; simp
   have hrepS : ∀ {l : List t.I} {cs}, RepL (SS X μ) w t l cs → RepL (SS X (given μ p d)) w t l cs := fun hc => hc.step fun b hb hs => ⟨hS b hb hs, rfl⟩
   refine ⟨⟨by simpa using hr.own, fun b hb => ?_, fun b hb => ?_, hr.slc, fun j y q hj hy hq => ?_, fun j k y z b hj hk' hy hz h3 h4 => ?_⟩, fun i' d' hd' => by cases hd'⟩
   ·exact List.mem_append_left _ (hr.top b hb)
   ·rw [hrsd] at hb
    rcases List.mem_append.1 hb with hb | hb
    ·exact hr.low b hb
    ·have hb : wu x = some b := by simpa using hb
     exact h.mem.lt k3 (hmem b hb)
   ·by_cases hji : j = i
    ·subst hji
     rw [k2] at hy
     cases hy
     rw [List.getElem?_set] at hq
     rw [if_pos rfl, if_pos (by omega)] at hq
     cases hq
     refine ⟨fun b hb => ⟨by rw [hrsd]; exact List.mem_append_right _ (by simp [hb]), fun hb2 => ?_⟩, xs, down, hrepS drep⟩
     exact hod (h.mem.dis _ d mv0 _ b k0 k3 (hr.top b hb2) (hmem b hb))
    ·rw [List.getElem?_set_ne (Ne.symm hji)] at hq
     obtain ⟨m1, ys, m2, m3⟩ := hr.row j y q (fun i' k' hk' => by cases hk'; exact hji) hy hq
     exact ⟨fun b hb => ⟨List.mem_append_left _ (m1 b hb).1, (m1 b hb).2⟩, ys, m2, hrepS m3⟩
   ·have hother : ∀ {j' : Nat} {y' : Value}, j' ≠ i → mv0.hs[j']? = some y' → wu y' = some b → b ∈ mv0.rs := fun {j' y'} hne hy' hb' => by
     have hj' : j' < l.length := by have := (List.getElem?_eq_some_iff.1 hy').1; omega
     exact ((hr.row j' y' _ (fun i' k' hk' => by cases hk'; exact hne) hy' (List.getElem?_eq_getElem hj')).1 b hb').1
    by_cases e1' : j = i <;> by_cases e2' : k = i
    ·omega
    ·subst e1'
     rw [k2] at hy
     cases hy
     exact absurd (h.mem.dis _ d mv0 _ b k0 k3 (hother e2' hz h4) (hmem b h3)) hod
    ·subst e2'
     rw [k2] at hz
     cases hz
     exact absurd (h.mem.dis _ d mv0 _ b k0 k3 (hother e1' hy h3) (hmem b h4)) hod
    ·exact hr.apart j k y z b (fun i' k' hk' => by cases hk'; exact e1') (fun i' k' hk' => by cases hk'; exact e2') hy hz h3 h4
  ·obtain ⟨y, hy, hyo⟩ := h.mem.ob p mv k1
   refine ⟨wcm d dv y, ?_, wds h.mem.hlo hμ (fun mv hm => hcd mv hm) hS hyo⟩
   simp only [St.g, St.swap, List.singleton_append, look, wak (Ne.symm hpo), wao]
   rw [wau d s.ob p hpd]
   simp only [St.g] at hy
   rw [hy]
   rfl
 ·obtain ⟨q, mv0, k1, k2, k3⟩ := wci h1 h3
  obtain ⟨q', mv0', k1', k2', k3'⟩ := wci h2 h4
  have hqq := h.mem.dis q q' mv0 mv0' b k1 k1' k2 k2'
  have hd1 := (wbr h1).1
  have hd2 := (wbr h2).1
  rcases k3 with rfl | ⟨rfl, rfl⟩ <;> rcases k3' with rfl | ⟨rfl, rfl⟩
  ·exact hqq
  ·exact absurd hqq hd1
  ·exact absurd hqq.symm hd2
  ·rfl
 ·simp only [St.slot, St.swap, wao]
  have := wes (d := dv) h.mem.hlo hμ (fun mv hm => hcd mv hm) hS (h.fr j)
  simp only [St.slot] at this
  cases hl : look s.fr j with
  | none => exact .undef
  | some v => rw [hl] at this; exact this
theorem Rel.back [Tabs] {s : St} (h : Rel P X lo N w0 s a w μ) {o d i e1 e : Nat} {t : Ty} {l : List (List t.I)} {r : List t.I} (hgo : s.g o = some (.rows e1 e t l (some (i, some d)))) (hgd : s.g d = some (.arr e t r)) :
  Rel P X lo N w0 (s.swap d .undef [(o, .rows e1 e t (l.set i r) none)]) a w (given μ o d) := h.backV hgo hgd fun _ _ => .undef
theorem Rel.freeze [Tabs] {s : St} (h : Rel P X lo N w0 s a w μ) (o : Nat) : ∃ μ', Rel P X lo N w0 (s.freeze o) a w μ' := by
 unfold St.freeze
 split
 next e t l hg =>
  split
  next p hp =>
   split
   next e1 e2 t2 l2 i d' hgp =>
    split
    next l' hd he hc =>
     have hd := Nat.eq_of_beq_eq_true hd
     have he := Nat.eq_of_beq_eq_true he
     subst hd; subst he
     obtain ⟨et, hl⟩ := Ty.cast_spec hc
     cases et
     have hl : l' = l := hl
     subst hl
     exact ⟨_, h.back hgp hg⟩
    next => exact ⟨μ, h⟩
   next => exact ⟨μ, h⟩
  next =>
   refine ⟨_, h.swap fun mv hmv => ?_⟩
   have hR : ∀ b, b ∈ mv.rs → SS X (without μ o) b := fun b hb => by
    refine ⟨fun hx => ?_, fun p mv' hp e => ?_⟩
    ·exact (h.mem.lt hmv hb).1 (h.mem.hX b hx)
    ·obtain ⟨hne, hp⟩ := wbl hp
     exact hne (h.mem.dis p o mv' mv b hp hmv e hb)
   obtain ⟨a', c, _, hr⟩ := h.mem.asDat hmv hg (S' := SS X (without μ o)) (fun b _ hs => wdt hs) hR
   exact .dat rfl hr
 next e e2 t l hg =>
  refine ⟨_, h.swap fun mv hmv => ?_⟩
  have hR : ∀ b, b ∈ mv.rs → SS X (without μ o) b := fun b hb => by
   refine ⟨fun hx => ?_, fun p mv' hp e => ?_⟩
   ·exact (h.mem.lt hmv hb).1 (h.mem.hX b hx)
   ·obtain ⟨hne, hp⟩ := wbl hp
    exact hne (h.mem.dis p o mv' mv b hp hmv e hb)
  obtain ⟨a', c, _, hr⟩ := h.mem.asRows hmv hg (S' := SS X (without μ o)) (fun b _ hs => wdt hs) hR
  exact .dat rfl hr
 next e t l hg =>
  refine ⟨_, h.swap fun mv hmv => ?_⟩
  have hR : ∀ b, b ∈ mv.rs → SS X (without μ o) b := fun b hb => by
   refine ⟨fun hx => ?_, fun p mv' hp e => ?_⟩
   ·exact (h.mem.lt hmv hb).1 (h.mem.hX b hx)
   ·obtain ⟨hne, hp⟩ := wbl hp
    exact hne (h.mem.dis p o mv' mv b hp hmv e hb)
  obtain ⟨a', c, _, hr⟩ := h.mem.asDeep hmv hg (S' := SS X (without μ o)) hR
  exact .dat rfl hr
 next kp e e2 t ix l hg =>
  refine ⟨_, h.swap fun mv hmv => ?_⟩
  have hR : ∀ b, b ∈ mv.rs → SS X (without μ o) b := fun b hb => by
   refine ⟨fun hx => ?_, fun p mv' hp e => ?_⟩
   ·exact (h.mem.lt hmv hb).1 (h.mem.hX b hx)
   ·obtain ⟨hne, hp⟩ := wbl hp
    exact hne (h.mem.dis p o mv' mv b hp hmv e hb)
  obtain ⟨a', c, _, hr⟩ := h.mem.asPerm hmv hg (S' := SS X (without μ o)) (fun b _ hs => wdt hs) hR
  exact .dat rfl hr
 next => exact ⟨μ, h⟩
theorem Rel.backR [Tabs] {s : St} (h : Rel P X lo N w0 s a w μ) {o : Nat} (ho : ∃ mv, μ o = some mv) (p : Nat) : ∃ μ', Rel P X lo N w0 (s.backR o p) a w μ' := by
 unfold St.backR
 split
 next e1 e2 t2 l2 i d' e t l hgo hgp =>
  split
  next l' hd he hc =>
   have hd := Nat.eq_of_beq_eq_true hd
   have he := Nat.eq_of_beq_eq_true he
   subst hd; subst he
   obtain ⟨et, hl⟩ := Ty.cast_spec hc
   cases et
   have hl : l' = l := hl
   subst hl
   obtain ⟨mv, hmv⟩ := ho
   obtain ⟨y, hy, hyo⟩ := h.mem.ob _ mv hmv
   rw [hgo] at hy
   cases hy
   obtain ⟨x, rsd, hsd, k2, k3⟩ := hyo.2 i d' rfl
   obtain ⟨a0, n0, c0, rfl⟩ := hyo.1.slc x (List.mem_of_getElem? k2)
   have hod : o ≠ d' := fun e => by rw [e, hgp] at hgo; cases hgo
   refine ⟨_, h.backV hgo hgp fun mvd hmd => ?_⟩
   rw [k3] at hmd
   cases hmd
   have hg : given μ o d' o = (μ o).map fun mv => ⟨mv.v, mv.rs ++ ((μ d').map (·.rs)).getD [], mv.hs⟩ := by
    unfold given
    rw [if_neg hod, if_pos rfl]
   rw [hmv] at hg
   exact .row hg k2
  next => exact h.freeze p
 next => exact h.freeze p
theorem Rel.drop [Tabs] {s : St} (h : Rel P X lo N w0 s a w μ) (o : Nat) : ∃ μ', Rel P X lo N w0 (s.drop o) a w μ' := ⟨_, h.swap fun _ _ => .undef⟩
def wkg (μ : Nat → Option MV) (o q : Nat) : Option MV := if q = o then (μ o).map fun mv => ⟨mv.v, (wu mv.v).toList, []⟩ else μ q
theorem wxi {o q : Nat} (h : q ≠ o) : wkg μ o q = μ q := by simp [wkg, h]
theorem wkh {o q : Nat} {mv : MV} (h : wkg μ o q = some mv) : (q = o ∧ ∃ mv0, μ o = some mv0 ∧ mv = ⟨mv0.v, (wu mv0.v).toList, []⟩) ∨ (q ≠ o ∧ μ q = some mv) := by
 unfold wkg at h
 split at h
 ·cases ho : μ o with
  | none => rw [ho] at h; cases h
  | some mv0 =>
   rw [ho] at h
   simp only [Option.map_some, Option.some.injEq] at h
   exact .inl ⟨by assumption, mv0, rfl, h.symm⟩
 ·exact .inr ⟨by assumption, h⟩
theorem Rel.flat [Tabs] {s : St} (h : Rel P X lo N w0 s a w μ) (o : Nat) : ∃ μ', Rel P X lo N w0 (s.flat o) a w μ' := by
 unfold St.flat
 split
 next e e2 t l hg =>
  have htop : ∀ mv, μ o = some mv → ∀ b, wu mv.v = some b → b ∈ mv.rs := fun mv hmv b hb => by
   obtain ⟨y, hy, hob⟩ := h.mem.ob _ _ hmv
   rw [hg] at hy
   cases hy
   exact hob.1.top b hb
  have hrs : ∀ q mv b, wkg μ o q = some mv → b ∈ mv.rs → ∃ mv0, μ q = some mv0 ∧ b ∈ mv0.rs := fun q mv b hq hb => by
   rcases wkh hq with ⟨rfl, mv0, h0, rfl⟩ | ⟨_, h0⟩
   ·exact ⟨mv0, h0, htop mv0 h0 b (by simpa using hb)⟩
   ·exact ⟨mv, h0, hb⟩
  have hS : ∀ b, b < w.heap.size → SS X μ b → SS X (wkg μ o) b := fun b _ hs => ⟨hs.1, fun q mv hq hb => by
   obtain ⟨mv0, h0, h1⟩ := hrs q mv b hq hb
   exact hs.2 q mv0 h0 h1⟩
  have hd : ∀ mv, μ o = some mv → RelV P w lo (wkg μ o) (SS X (wkg μ o)) (.arr o) mv.v := fun mv hmv => by
   obtain ⟨y, hy, hob⟩ := h.mem.ob _ _ hmv
   rw [hg] at hy
   cases hy
   have hx : ∃ a n c, mv.v = .slice a n c := by
    rcases hob.1.own.2 with ⟨e1, _⟩ | ⟨_, _, _, e1, _⟩
    ·exact ⟨_, _, _, e1⟩
    ·exact ⟨_, _, _, e1⟩
   obtain ⟨a', n', c', hx⟩ := hx
   rw [hx]
   exact .arr (rs := (wu mv.v).toList) (hs := []) (by simp [wkg, hmv, hx])
  refine ⟨wkg μ o, ⟨h.mem.hX, h.mem.hlo, fun p mv hp => ?_, fun p p' mv mv' b h1 h2 h3 h4 => ?_, h.mem.tab⟩, fun j => ?_, h.bel, h.df, h.sz⟩
  ·rcases wkh hp with ⟨rfl, mv0, h0, rfl⟩ | ⟨hne, h0⟩
   ·obtain ⟨hr, hrep⟩ := h.mem.rowsRep h0 hg (S' := SS X (wkg μ p)) hS fun b hb hroot => by
     refine ⟨fun hx => (h.mem.lt h0 hb).1 (h.mem.hX b hx), fun q mv hq hb' => ?_⟩
     rcases wkh hq with ⟨rfl, mv1, h1, rfl⟩ | ⟨hne, h1⟩
     ·rw [h0] at h1
      cases h1
      exact hroot (by simpa using hb')
     ·exact hne (h.mem.dis _ _ _ _ _ h1 h0 hb' hb)
    exact ⟨.arr e (.slice t) l, by simp [St.g, St.swap, look], ⟨rfl, rfl⟩, fun b hb => (hr.low b (hr.top b hb)).1, mv0.hs, hr.own, hrep⟩
   ·obtain ⟨y, hy, hyo⟩ := h.mem.ob p mv h0
    refine ⟨wcm o (.arr o) y, ?_, wdc h.mem.hlo (fun q mv' hq hp' => by rw [wxi hq]; exact hp') hd hS hyo⟩
    simp only [St.g, St.swap, List.singleton_append, look, wak (Ne.symm hne), wao]
    rw [wau o s.ob p hne]
    simp only [St.g] at hy
    rw [hy]
    rfl
  ·obtain ⟨m1, k1, k2⟩ := hrs _ _ _ h1 h3
   obtain ⟨m2, k3, k4⟩ := hrs _ _ _ h2 h4
   exact h.mem.dis _ _ _ _ b k1 k3 k2 k4
  ·simp only [St.slot, St.swap, wao]
   have := wed (d := .arr o) h.mem.hlo (fun q mv' hq hp' => by rw [wxi hq]; exact hp') hd hS (h.fr j)
   simp only [St.slot] at this
   cases hl : look s.fr j with
   | none => exact .undef
   | some v => rw [hl] at this; exact this
 next => exact ⟨μ, h⟩
theorem RowsOK.perm {S : Nat → Prop} {e e2 : Nat} {t : Ty} {l : List (List t.I)} {mv : MV} (h : RowsOK w lo S e e2 t l (wca none) mv mv.hs) : PermOK w lo S e e2 t (List.range l.length) l mv := by
 have hin : ∀ j, wca none j := fun j i k hk => by cases hk
 have hl := h.len
 refine ⟨?_, hl, h.top, h.low, h.slc, fun j x r hx hr => h.row j x r (hin j) hx hr, fun j k x y b => h.apart j k x y b (hin j) (hin k)⟩
 have e : (List.range l.length).map (fun i => mv.hs.getD i (.slice none 0 0)) = mv.hs := by
  apply List.ext_getElem
  ·simp [hl]
  ·intro i h1 h2
   simp [List.getD_eq_getElem?_getD, h2]
 rw [e, List.length_range]
 exact h.own
theorem Rel.perm [Tabs] {s : St} (h : Rel P X lo N w0 s a w μ) (o : Nat) : ∃ μ', Rel P X lo N w0 (s.perm o) a w μ' := by
 unfold St.perm
 split
 next e e2 t l hg =>
  have hd : ∀ mv, μ o = some mv → RelV P w lo μ (SS X μ) (.arr o) mv.v := fun mv hmv => by
   obtain ⟨y, hy, hob⟩ := h.mem.ob _ _ hmv
   rw [hg] at hy
   cases hy
   obtain ⟨v, rs, hs⟩ := mv
   have hx : ∃ a n c, v = .slice a n c := by
    rcases hob.1.own.2 with ⟨e1, _⟩ | ⟨_, _, _, e1, _⟩
    ·exact ⟨_, _, _, e1⟩
    ·exact ⟨_, _, _, e1⟩
   obtain ⟨a', n', c', hx⟩ := hx
   subst hx
   exact .arr (rs := rs) (hs := hs) hmv
  refine ⟨μ, ⟨h.mem.hX, h.mem.hlo, fun p mv hp => ?_, h.mem.dis, h.mem.tab⟩, fun j => ?_, h.bel, h.df, h.sz⟩
  ·obtain ⟨y, hy, hyo⟩ := h.mem.ob p mv hp
   by_cases hne : p = o
   ·subst hne
    rw [hg] at hy
    cases hy
    exact ⟨.perm false e e2 t (List.range l.length) l, by simp [St.g, St.swap, look], hyo.1.perm⟩
   ·refine ⟨wcm o (.arr o) y, ?_, wdc h.mem.hlo (fun q mv' hq hp' => hp') hd (fun _ _ hs => hs) hyo⟩
    simp only [St.g, St.swap, List.singleton_append, look, wak (Ne.symm hne), wao]
    rw [wau o s.ob p hne]
    simp only [St.g] at hy
    rw [hy]
    rfl
  ·simp only [St.slot, St.swap, wao]
   have := wed (d := .arr o) h.mem.hlo (fun q mv' hq hp' => hp') hd (fun _ _ hs => hs) (h.fr j)
   simp only [St.slot] at this
   cases hl : look s.fr j with
   | none => exact .undef
   | some v => rw [hl] at this; exact this
 next => exact ⟨μ, h⟩
theorem Rel.perms [Tabs] : ∀ (l : List Nat) {s : St} {μ : Nat → Option MV}, Rel P X lo N w0 s a w μ → ∃ μ', Rel P X lo N w0 (s.perms l) a w μ'
 | [], s, μ, h => ⟨μ, h⟩
 | o :: l, s, μ, h => by
  obtain ⟨μ', h'⟩ := h.perm o
  exact Rel.perms l h'
theorem Rel.flats [Tabs] : ∀ (l : List Nat) {s : St} {μ : Nat → Option MV}, Rel P X lo N w0 s a w μ → ∃ μ', Rel P X lo N w0 (s.flats l) a w μ'
 | [], _, μ, h => ⟨μ, h⟩
 | o :: l, s, μ, h => by
  obtain ⟨μ', h'⟩ := h.flat o
  exact Rel.flats l h'
theorem Rel.freezes [Tabs] : ∀ (l : List Nat) {s : St} {μ : Nat → Option MV}, Rel P X lo N w0 s a w μ → ∃ μ', Rel P X lo N w0 (s.freezes l) a w μ'
 | [], _, μ, h => ⟨μ, h⟩
 | o :: l, s, μ, h => by
  obtain ⟨μ', h'⟩ := h.freeze o
  exact Rel.freezes l h'
theorem Rel.put [Tabs] {s : St} (h : Rel P X lo N w0 s a w μ) {d : Nat} (hd : N.has d) {v : AV} {x : Value} (hv : RelV P w lo μ (SS X μ) v x) : Rel P X lo N w0 { s with fr := (d, v) :: s.fr } (a.put (some d) x) w μ := by
 refine ⟨h.mem, fun i => ?_, h.bel, h.df, h.sz.put hd⟩
 simp only [St.slot, look, Act.put]
 by_cases e : d = i
 ·subst e
  rw [wam]
  have hd' : d < a.tmps.size := by rw [h.sz.n]; exact hd.2
  simpa [hd'] using hv
 ·rw [wak e]
  have := h.fr i
  simp only [St.slot] at this
  simpa [Array.getElem?_setIfInBounds_ne e] using this
theorem Rel.know [Tabs] {s : St} (h : Rel P X lo N w0 s a w μ) {d : Nat} {v : AV} (hv : RelV P w lo μ (SS X μ) v (a.tmps.getD d undef)) : Rel P X lo N w0 { s with fr := (d, v) :: s.fr } a w μ := by
 refine ⟨h.mem, fun i => ?_, h.bel, h.df, h.sz⟩
 simp only [St.slot, look]
 by_cases e : d = i
 ·subst e
  rw [wam]
  exact hv
 ·rw [wak e]
  exact h.fr i
def slA (sl : Nat → AV) (u : LU) (i : Nat) : AV :=
 match u.d with
 | some p => if p.1 = i then p.2 else (match u.und with
  | some b => if b = i then .undef else sl i
  | none => sl i)
 | none => sl i
def gA (g : Nat → Option Ob) (u : LU) (i : Nat) : Option Ob :=
 match look u.objs i with
 | some x => some x
 | none => g i
theorem wos [Tabs] (s : St) (u : LU) : (s.app u).slot = slA s.slot u := by
 funext i
 obtain ⟨d, und, objs⟩ := u
 cases d with
 | none => rfl
 | some p =>
  simp only [St.app, St.slot, look, slA]
  by_cases e : p.1 = i
  ·subst e; rw [wam]; simp
  ·rw [wak e, if_neg e]
   cases und with
   | none => rfl
   | some b =>
    simp only [look]
    by_cases e' : b = i
    ·subst e'; rw [wam]; simp
    ·rw [wak e', if_neg e']
theorem wakw [Tabs] (s : St) (u : LU) : (s.app u).g = gA s.g u := by
 funext i
 simp only [St.app, St.g, wec, gA]
 cases look u.objs i <;> rfl
theorem wot {a : Act} {d : Nat} {x : Value} (hd : d < a.tmps.size) (i : Nat) : (a.put (some d) x).tmps.getD i undef = if d = i then x else a.tmps.getD i undef := by
 simp only [Act.put]
 by_cases e : d = i
 ·subst e; simp [hd]
 ·rw [if_neg e]; simp [Array.getElem?_setIfInBounds_ne e]
theorem RelF.upd [Tabs] {sl : Nat → AV} (h : RelF P X lo N w0 sl g a w μ) {u : LU} {w' : World} {μ' : Nat → Option MV} (hn : (u.objs.map (·.1)).Nodup) (hu : u.und = none) (hq : NxU P X lo g μ w u.objs [] w' μ') {dst : Option Nat} (hd : dst = u.d.map (·.1)) (hdN : ∀ d, dst = some d → N.has d) {x : Value}
  (hv : ∀ p, u.d = some p → RelV P w' lo μ' (SS X μ') p.2 x) : RelF P X lo N w0 (slA sl u) (gA g u) (a.put dst x) w' μ' := by
 refine ⟨hq.mem _ (fun p hp => ?_) fun o mv _ ho => ?_, fun i => ?_, h.bel.trans hq.kept, ?_, ?_⟩
 ·rw [gA, wjh hn hp]
 ·rw [gA]
  cases hl : look u.objs o with
  | none => simp only; cases g o <;> rfl
  | some y => exact absurd rfl (ho _ (wbs hl))
 ·have hold := hq.step h.mem.hlo (h.fr i)
  rw [slA, hu]
  cases hud : u.d with
  | none =>
   rw [hud] at hd
   simp only [Option.map_none] at hd
   subst hd
   exact hold
  | some p =>
   rw [hud] at hd
   simp only [Option.map_some] at hd
   subst hd
   have hlt : p.1 < a.tmps.size := by rw [h.sz.n]; exact (hdN _ rfl).2
   rw [wot hlt]
   simp only
   split
   ·exact hv p hud
   ·exact hold
 ·cases dst <;> exact h.df
 ·cases dst
  ·exact h.sz
  ·exact h.sz.put (hdN _ rfl)
theorem wxj : ∀ (ks : List Nat) (s : St), (s.kills ks).fr = s.fr.map fun q => (q.1, wadq ks q.2)
 | [], s => by simp [St.kills, wadq]
 | p :: ks, s => by
  have := wxj ks (s.kill p)
  simp only [St.kills, List.foldl_cons] at this ⊢
  rw [this]
  simp [St.kill, wadq]
theorem wxk : ∀ (ks : List Nat) (s : St), (s.kills ks).ob = s.ob.map fun q => (q.1, wis ks q.2)
 | [], s => by simp [St.kills, wis]
 | p :: ks, s => by
  have := wxk ks (s.kill p)
  simp only [St.kills, List.foldl_cons] at this ⊢
  rw [this]
  simp [St.kill, wis]
theorem wabf (ks : List Nat) (s : St) (i : Nat) : (s.kills ks).slot i = ((look s.fr i).map (wadq ks)).getD .undef := by
 unfold St.slot
 rw [wxj, wao]
theorem watd (ks : List Nat) (s : St) (i : Nat) : (s.kills ks).g i = (s.g i).map (wis ks) := by
 unfold St.g
 rw [wxk, wao]
theorem Rel.updK [Tabs] {s : St} (h : Rel P X lo N w0 s a w μ) {u : LU} {ks : List Nat} {w' : World} {μ' : Nat → Option MV} (hn : (u.objs.map (·.1)).Nodup) (hu : u.und = none) (hq : NxU P X lo s.g μ w u.objs ks w' μ') {dst : Option Nat} (hd : dst = u.d.map (·.1)) (hdN : ∀ d, dst = some d → N.has d) {x : Value}
  (hv : ∀ p, u.d = some p → RelV P w' lo μ' (SS X μ') p.2 x) : Rel P X lo N w0 ((s.kills ks).app u) (a.put dst x) w' μ' := by
 refine ⟨hq.mem _ (fun p hp => ?_) fun o mv _ ho => ?_, fun i => ?_, h.bel.trans hq.kept, ?_, ?_⟩
 ·rw [wakw, gA, wjh hn hp]
 ·rw [wakw, gA]
  cases hl : look u.objs o with
  | none => exact watd ks s o
  | some y => exact absurd rfl (ho _ (wbs hl))
 ·have hold : RelV P w' lo μ' (SS X μ') ((s.kills ks).slot i) (a.tmps.getD i undef) := by
   rw [wabf]
   have := h.fr i
   simp only [St.slot] at this
   cases hl : look s.fr i with
   | none => exact .undef
   | some v => rw [hl] at this; exact RelV.kill h.mem.hlo hq.data hq.kept.block hq.hs this
  rw [wos, slA, hu]
  cases hud : u.d with
  | none =>
   rw [hud] at hd
   simp only [Option.map_none] at hd
   subst hd
   exact hold
  | some p =>
   rw [hud] at hd
   simp only [Option.map_some] at hd
   subst hd
   have hlt : p.1 < a.tmps.size := by rw [h.sz.n]; exact (hdN _ rfl).2
   rw [wot hlt]
   simp only
   split
   ·exact hv p hud
   ·exact hold
 ·cases dst <;> exact h.df
 ·cases dst
  ·exact h.sz
  ·exact h.sz.put (hdN _ rfl)
theorem Rel.upd [Tabs] {s : St} (h : Rel P X lo N w0 s a w μ) {u : LU} {w' : World} {μ' : Nat → Option MV} (hn : (u.objs.map (·.1)).Nodup) (hu : u.und = none) (hq : NxU P X lo s.g μ w u.objs [] w' μ') {dst : Option Nat} (hd : dst = u.d.map (·.1)) (hdN : ∀ d, dst = some d → N.has d) {x : Value}
  (hv : ∀ p, u.d = some p → RelV P w' lo μ' (SS X μ') p.2 x) : Rel P X lo N w0 (s.app u) (a.put dst x) w' μ' := by
 have := RelF.upd h hn hu hq hd hdN hv
 rw [← wos, ← wakw] at this
 exact this
theorem wul {o : Nat} {v : AV} (h : clL o v = true) : wna o .undef v = v := by
 cases v with
 | arr p => simp only [clL, Bool.not_eq_true'] at h; simp [wna, h]
 | elt p i s => simp only [clL, Bool.not_eq_true'] at h; simp [wna, h]
 | fld p i s k => simp only [clL, Bool.not_eq_true'] at h; simp [wna, h]
 | row p i => simp only [clL, Bool.not_eq_true'] at h; simp [wna, h]
 | relt p i n s => simp only [clL, Bool.not_eq_true'] at h; simp [wna, h]
 | suf p i s => simp only [clL, Bool.not_eq_true'] at h; simp [wna, h]
 | pre p i => simp only [clL, Bool.not_eq_true'] at h; simp [wna, h]
 | box p k => simp only [clL, Bool.not_eq_true'] at h; simp [wna, h]
 | fn f caps =>
  cases caps with
  | nil => rfl
  | cons c caps => simp [clL] at h
 | dat t v => rfl
 | nilsl => rfl
 | undef => rfl
 | clo ts r p => rfl
 | _ => simp [clL] at h
theorem wet {F : AV → AV} {cs : List AV} (h : ∀ c ∈ cs, F c = c) : cs.map F = cs := by
 induction cs with
 | nil => rfl
 | cons c cs ih => rw [List.map_cons, h c List.mem_cons_self, ih fun c hc => h c (List.mem_cons_of_mem _ hc)]
theorem wady [Tabs] {o : Nat} {v : AV} (h : clC o v = true) : frzC o .undef v = v := by
 cases v with
 | ptr cs =>
  simp only [clC, List.all_eq_true] at h
  simp only [frzC]
  rw [wet fun c hc => wul (h c hc)]
 | _ => simp only [clC] at h; simpa only [frzC] using wul h
theorem wum [Tabs] {o : Nat} {v : AV} (h : cl1 o v = true) : frz1 o .undef v = v := by
 cases v with
 | agg cs =>
  simp only [cl1, List.all_eq_true] at h
  simp only [frz1]
  rw [wet fun c hc => wul (h c hc)]
 | fn f caps =>
  simp only [cl1, List.all_eq_true] at h
  simp only [frz1]
  rw [wet fun c hc => wady (h c hc)]
 | bnd f fs => simp [cl1, clC, clL] at h
 | _ => simp only [cl1] at h; simpa only [frz1] using wady h
theorem wakx [Tabs] {o : Nat} {x : Ob} (h : clOb o x = true) : wcm o .undef x = x := by
 cases x with
 | arr e t l => rfl
 | txt e l => rfl
 | deep e t l => rfl
 | perm k e e2 t ix l => rfl
 | spent => rfl
 | rows e e2 t l hh =>
  cases hh with
  | none => rfl
  | some q =>
   obtain ⟨i, k⟩ := q
   cases k with
   | none => rfl
   | some d =>
    simp only [clOb, Bool.not_eq_true'] at h
    simp [wcm, unl, h]
 | cells cs =>
  simp only [clOb, List.all_eq_true] at h
  simp only [wcm]
  rw [wet fun c hc => wum (h c hc)]
end
end Go.Proofs.Ytnagpmhaddfgmaa
