/-
 Calls; all operations that write nothing.
-/
import Derived.Test.YtnagpmhaddfgmaaB8
namespace Go.Proofs.Ytnagpmhaddfgmaa
open Go.RowKit (Below)
def RelR (P : Program) (w : World) (lo : Nat → Prop) (μ : Nat → Option MV) (S : Nat → Prop) (vs : List AV) (x : Value) : Prop :=
 (∃ v, vs = [v] ∧ RelV P w lo μ S v x) ∨ (vs.length ≠ 1 ∧ RelV P w lo μ S (.tup vs) x)
def old (w : World) (μi : Nat → Option MV) (b : Nat) : Prop := b < w.heap.size ∧ ∀ o mv, μi o = some mv → b ∉ mv.rs
def wqv [Tabs] (P : Program) (X : Nat → Prop) (lo : Nat → Prop) (w w' : World) (μi : Nat → Option MV) (res : List AV × List (Nat × Ob)) (x : Value) : Prop :=
 Kept lo w w' ∧ ∃ μ, Mem P X lo (look res.2) μ w' ∧ (∀ o mv, μ o = some mv → ∃ p ∈ res.2, p.1 = o) ∧ (∀ p ∈ res.2, 64 ≤ p.1 → ∃ mv rs hs, μi p.1 = some mv ∧ μ p.1 = some ⟨mv.v, rs, hs⟩) ∧ RelR P w' lo μ (SS X μ) res.1 x
def wamo [Tabs] (P : Program) (f : Nat) (args : List AV) (ins : List (Nat × Ob)) (res : List AV × List (Nat × Ob)) : Prop :=
 ∀ (w : World) (X : Nat → Prop) (μi : Nat → Option MV) (vals : Array Value), (∀ b, X b → old w μi b) → Mem P X (old w μi) (look ins) μi w → (∀ p ∈ ins, ∃ mv, μi p.1 = some mv) → args.length = vals.size →
  (∀ j v, nth args j = some v → RelV P w (old w μi) μi (SS X μi) v (vals.getD j undef)) → CallR P f vals w (fun x w' => wqv P X (old w μi) w w' μi res x)
def wfe [Tabs] (P : Program) (E : Env) : Prop := ∀ f args ins cr, E.call f args ins = some cr → ∀ r, cr.x = some r → wamo P f args ins (cr.emb r)
section
variable {P : Program} {tt : Nat → TD} {w : World} {lo : Nat → Prop} {μ : Nat → Option MV} {S : Nat → Prop} {X : Nat → Prop} {g : Nat → Option Ob} {o : Oper} {a : Act} {E : Env}
theorem Rep.plain {S' : Nat → Prop} {w' : World} : ∀ {t : Ty} {v : t.I} {cs : List Value}, wcx t = false → Rep S w t v cs → Rep S' w' t v cs
 | .int _, _, _, _, h => h
 | .bool, _, _, _, h => h
 | .str, _, _, _, h => h
 | .seq _, _, _, d, _ => by simp [wcx] at d
 | .hdr, _, _, d, _ => by simp [wcx] at d
 | .slice _, _, _, d, _ => by simp [wcx] at d
 | .pair a b, v, cs, d, h => by
  simp only [wcx, Bool.or_eq_false_iff] at d
  obtain ⟨c1, c2, e, h1, h2⟩ := h
  exact ⟨c1, c2, e, h1.plain d.1, h2.plain d.2⟩
theorem RepL.plain [Tabs] {S' : Nat → Prop} {w' : World} {t : Ty} (d : wcx t = false) : ∀ {l : List t.I} {cs : List Value}, RepL S w t l cs → RepL S' w' t l cs
 | [], _, h => h
 | _ :: _, _, ⟨c, r, e, h1, h2⟩ => ⟨c, r, e, h1.plain d, h2.plain d⟩
theorem Mem.asDat [Tabs] (hm : Mem P X lo g μ w) {o : Nat} {mv : MV} {e : Nat} {t : Ty} {l : List t.I} (h : μ o = some mv) (hg : g o = some (.arr e t l)) {S' : Nat → Prop} (hS : ∀ b, b < w.heap.size → SS X μ b → S' b)
  (hR : ∀ b, b ∈ mv.rs → S' b) : ∃ a c, mv.v = .slice a l.length c ∧ Rep S' w (.slice t) l [mv.v] := by
 obtain ⟨y, hy, hob⟩ := hm.ob _ _ h
 rw [hg] at hy
 cases hy
 obtain ⟨⟨hhs, hrs⟩, hnl, xs, hown, hrep⟩ := hob
 have hrep' := hrep.step (S' := S') (w' := w) fun b hlt hb => ⟨hS b hlt hb, rfl⟩
 rcases hown.2 with ⟨e1, h0⟩ | ⟨gb, cap, cur, e1, h1, h2, h3, _⟩
 ·have : l = [] := List.eq_nil_of_length_eq_zero h0
  subst this
  rw [e1]
  exact ⟨_, _, rfl, Rep.nil⟩
 ·rw [e1]
  refine ⟨_, _, rfl, Rep.slice_of h3 (hR gb (by rw [hrs, e1]; simp [wu])) hrep' fun j u hu => ?_⟩
  rw [e1] at hown
  have := hown.cells (g := gb) rfl j u hu
  rw [Addr.add_lit] at this
  exact this
theorem Mem.asDatF [Tabs] (hm : Mem P X lo g μ w) {o : Nat} {mv : MV} {e : Nat} {t : Ty} {l : List t.I} (h : μ o = some mv) (hg : g o = some (.arr e t l)) (hd : wcx t = false) {S' : Nat → Prop} (hR : ∀ b, b ∈ mv.rs → S' b) : ∃ a c, mv.v = .slice a l.length c ∧ Rep S' w (.slice t) l [mv.v] := by
 obtain ⟨y, hy, hob⟩ := hm.ob _ _ h
 rw [hg] at hy
 cases hy
 obtain ⟨⟨hhs, hrs⟩, hnl, xs, hown, hrep⟩ := hob
 have hrep' : RepL S' w t l xs := hrep.plain hd
 rcases hown.2 with ⟨e1, h0⟩ | ⟨gb, cap, cur, e1, h1, h2, h3, _⟩
 ·have : l = [] := List.eq_nil_of_length_eq_zero h0
  subst this
  rw [e1]
  exact ⟨_, _, rfl, Rep.nil⟩
 ·rw [e1]
  refine ⟨_, _, rfl, Rep.slice_of h3 (hR gb (by rw [hrs, e1]; simp [wu])) hrep' fun j u hu => ?_⟩
  rw [e1] at hown
  have := hown.cells (g := gb) rfl j u hu
  rw [Addr.add_lit] at this
  exact this
theorem Mem.asDeep [Tabs] (hm : Mem P X lo g μ w) {o : Nat} {mv : MV} {e : Nat} {t : Ty} {l : List t.I} (h : μ o = some mv) (hg : g o = some (.deep e t l)) {S' : Nat → Prop} (hR : ∀ b, b ∈ mv.rs → S' b) : ∃ a c, mv.v = .slice a l.length c ∧ Rep S' w (.slice t) l [mv.v] := by
 obtain ⟨y, hy, hob⟩ := hm.ob _ _ h
 rw [hg] at hy
 cases hy
 have hob : DeepOK w lo e t l mv := hob
 obtain ⟨xs, hown, hrep⟩ := hob.rep
 have hrep' := hrep.step (S' := S') (w' := w) fun b hlt hb => ⟨hR b hb.1.1, rfl⟩
 rcases hown.2 with ⟨e1, h0⟩ | ⟨gb, cap, cur, e1, h1, h2, h3, _⟩
 ·have : l = [] := List.eq_nil_of_length_eq_zero h0
  subst this
  rw [e1]
  exact ⟨_, _, rfl, Rep.nil⟩
 ·rw [e1]
  refine ⟨_, _, rfl, Rep.slice_of h3 (hR gb (hob.top gb (by rw [e1]; simp [wu]))) hrep' fun j u hu => ?_⟩
  rw [e1] at hown
  have := hown.cells (g := gb) rfl j u hu
  rw [Addr.add_lit] at this
  exact this
theorem Mem.rowsRep [Tabs] (hm : Mem P X lo g μ w) {o : Nat} {mv : MV} {e e2 : Nat} {t : Ty} {l : List (List t.I)} (h : μ o = some mv) (hg : g o = some (.rows e e2 t l none)) {S' : Nat → Prop} (hS : ∀ b, b < w.heap.size → SS X μ b → S' b)
  (hR : ∀ b, b ∈ mv.rs → wu mv.v ≠ some b → S' b) : RowsOK w lo (SS X μ) e e2 t l (wcf none) mv mv.hs ∧ RepL S' w (.slice t) l mv.hs := by
 obtain ⟨y, hy, hob⟩ := hm.ob _ _ h
 rw [hg] at hy
 cases hy
 obtain ⟨hr, _⟩ := hob
 refine ⟨hr, ?_⟩
 have hin : ∀ j, wcf none j := fun j i k hk => by cases hk
 have hlen := hr.len
 generalize mv.hs = hs at hr hlen
 have key : ∀ (hs : List Value) (l : List (List t.I)), hs.length = l.length → (∀ (j : Nat) (x : Value) (r : List t.I), hs[j]? = some x → l[j]? = some r → Rep S' w (.slice t) r [x]) → RepL S' w (.slice t) l hs := by
  intro hs
  induction hs with
  | nil =>
   intro l hl _
   have : l = [] := List.eq_nil_of_length_eq_zero (by simpa using hl.symm)
   subst this
   rfl
  | cons x hs ih =>
   intro l hl hrep
   cases l with
   | nil => simp at hl
   | cons r l => exact ⟨[x], hs, rfl, hrep 0 x r rfl rfl, ih l (by simpa using hl) fun j y q hy hq => hrep (j + 1) y q (by simpa using hy) (by simpa using hq)⟩
 refine key hs l hlen fun j x r hx hl => ?_
 obtain ⟨k1, xs, hown, hrep⟩ := hr.row j x r (hin j) hx hl
 have hrep' := hrep.step (S' := S') (w' := w) fun b hlt hb => ⟨hS b hlt hb, rfl⟩
 rcases hown.2 with ⟨e1, h0⟩ | ⟨gb, cap, cur, e1, h1, h2, h3, _⟩
 ·have : r = [] := List.eq_nil_of_length_eq_zero h0
  subst this
  rw [e1]
  exact Rep.nil
 ·have hk := k1 gb (by rw [e1]; simp [wu])
  rw [e1]
  refine Rep.slice_of h3 (hR gb hk.1 hk.2) hrep' fun j u hu => ?_
  rw [e1] at hown
  have := hown.cells (g := gb) rfl j u hu
  rw [Addr.add_lit] at this
  exact this
theorem Mem.asRows [Tabs] (hm : Mem P X lo g μ w) {o : Nat} {mv : MV} {e e2 : Nat} {t : Ty} {l : List (List t.I)} (h : μ o = some mv) (hg : g o = some (.rows e e2 t l none)) {S' : Nat → Prop} (hS : ∀ b, b < w.heap.size → SS X μ b → S' b)
  (hR : ∀ b, b ∈ mv.rs → S' b) : ∃ a c, mv.v = .slice a l.length c ∧ Rep S' w (.slice (.slice t)) l [mv.v] := by
 obtain ⟨y, hy, hob⟩ := hm.ob _ _ h
 rw [hg] at hy
 cases hy
 obtain ⟨hr, _⟩ := hob
 have hin : ∀ j, wcf none j := fun j i k hk => by cases hk
 have hlen := hr.len
 generalize mv.hs = hs at hr hlen
 -- the rows, as data
 have hrows : RepL S' w (.slice t) l hs := by
  have key : ∀ (hs : List Value) (l : List (List t.I)), hs.length = l.length → (∀ (j : Nat) (x : Value) (r : List t.I), hs[j]? = some x → l[j]? = some r → Rep S' w (.slice t) r [x]) → RepL S' w (.slice t) l hs := by
   intro hs
   induction hs with
   | nil =>
    intro l hl _
    have : l = [] := List.eq_nil_of_length_eq_zero (by simpa using hl.symm)
    subst this
    rfl
   | cons x hs ih =>
    intro l hl hrep
    cases l with
    | nil => simp at hl
    | cons r l => exact ⟨[x], hs, rfl, hrep 0 x r rfl rfl, ih l (by simpa using hl) fun j y q hy hq => hrep (j + 1) y q (by simpa using hy) (by simpa using hq)⟩
  refine key hs l hlen fun j x r hx hl => ?_
  obtain ⟨k1, xs, hown, hrep⟩ := hr.row j x r (hin j) hx hl
  have hrep' := hrep.step (S' := S') (w' := w) fun b hlt hb => ⟨hS b hlt hb, rfl⟩
  rcases hown.2 with ⟨e1, h0⟩ | ⟨gb, cap, cur, e1, h1, h2, h3, _⟩
  ·have : r = [] := List.eq_nil_of_length_eq_zero h0
   subst this
   rw [e1]
   exact Rep.nil
  ·rw [e1]
   refine Rep.slice_of h3 (hR gb (k1 gb (by rw [e1]; simp [wu])).1) hrep' fun j u hu => ?_
   rw [e1] at hown
   have := hown.cells (g := gb) rfl j u hu
   rw [Addr.add_lit] at this
   exact this
 have hown := hr.own
 rcases hown.2 with ⟨e1, h0⟩ | ⟨gb, cap, cur, e1, h1, h2, h3, _⟩
 ·have : l = [] := List.eq_nil_of_length_eq_zero h0
  subst this
  rw [e1]
  exact ⟨_, _, rfl, Rep.nil⟩
 ·rw [e1]
  refine ⟨_, _, rfl, Rep.slice_of h3 (hR gb (hr.top gb (by rw [e1]; simp [wu]))) hrows fun j u hu => ?_⟩
  rw [e1] at hown
  have := hown.cells (g := gb) rfl j u hu
  rw [Addr.add_lit] at this
  exact this
theorem Mem.asRowsF [Tabs] (hm : Mem P X lo g μ w) {o : Nat} {mv : MV} {e e2 : Nat} {t : Ty} {l : List (List t.I)} (h : μ o = some mv) (hg : g o = some (.rows e e2 t l none)) (hd : wcx t = false) {S' : Nat → Prop} (hR : ∀ b, b ∈ mv.rs → S' b) : ∃ a c, mv.v = .slice a l.length c ∧ Rep S' w (.slice (.slice t)) l [mv.v] := by
 obtain ⟨y, hy, hob⟩ := hm.ob _ _ h
 rw [hg] at hy
 cases hy
 obtain ⟨hr, _⟩ := hob
 have hin : ∀ j, wcf none j := fun j i k hk => by cases hk
 have hlen := hr.len
 generalize mv.hs = hs at hr hlen
 -- the rows, as data
 have hrows : RepL S' w (.slice t) l hs := by
  have key : ∀ (hs : List Value) (l : List (List t.I)), hs.length = l.length → (∀ (j : Nat) (x : Value) (r : List t.I), hs[j]? = some x → l[j]? = some r → Rep S' w (.slice t) r [x]) → RepL S' w (.slice t) l hs := by
   intro hs
   induction hs with
   | nil =>
    intro l hl _
    have : l = [] := List.eq_nil_of_length_eq_zero (by simpa using hl.symm)
    subst this
    rfl
   | cons x hs ih =>
    intro l hl hrep
    cases l with
    | nil => simp at hl
    | cons r l => exact ⟨[x], hs, rfl, hrep 0 x r rfl rfl, ih l (by simpa using hl) fun j y q hy hq => hrep (j + 1) y q (by simpa using hy) (by simpa using hq)⟩
  refine key hs l hlen fun j x r hx hl => ?_
  obtain ⟨k1, xs, hown, hrep⟩ := hr.row j x r (hin j) hx hl
  have hrep' : RepL S' w t r xs := hrep.plain hd
  rcases hown.2 with ⟨e1, h0⟩ | ⟨gb, cap, cur, e1, h1, h2, h3, _⟩
  ·have : r = [] := List.eq_nil_of_length_eq_zero h0
   subst this
   rw [e1]
   exact Rep.nil
  ·rw [e1]
   refine Rep.slice_of h3 (hR gb (k1 gb (by rw [e1]; simp [wu])).1) hrep' fun j u hu => ?_
   rw [e1] at hown
   have := hown.cells (g := gb) rfl j u hu
   rw [Addr.add_lit] at this
   exact this
 have hown := hr.own
 rcases hown.2 with ⟨e1, h0⟩ | ⟨gb, cap, cur, e1, h1, h2, h3, _⟩
 ·have : l = [] := List.eq_nil_of_length_eq_zero h0
  subst this
  rw [e1]
  exact ⟨_, _, rfl, Rep.nil⟩
 ·rw [e1]
  refine ⟨_, _, rfl, Rep.slice_of h3 (hR gb (hr.top gb (by rw [e1]; simp [wu]))) hrows fun j u hu => ?_⟩
  rw [e1] at hown
  have := hown.cells (g := gb) rfl j u hu
  rw [Addr.add_lit] at this
  exact this
theorem Mem.asPerm [Tabs] (hm : Mem P X lo g μ w) {o : Nat} {mv : MV} {e e2 : Nat} {t : Ty} {ix : List Nat} {l : List (List t.I)} (h : μ o = some mv) {k : Bool} (hg : g o = some (.perm k e e2 t ix l)) {S' : Nat → Prop} (hS : ∀ b, b < w.heap.size → SS X μ b → S' b)
  (hR : ∀ b, b ∈ mv.rs → S' b) : ∃ a c, mv.v = .slice a (wgc ix l).length c ∧ Rep S' w (.slice (.slice t)) (wgc ix l) [mv.v] := by
 obtain ⟨y, hy, hob⟩ := hm.ob _ _ h
 rw [hg] at hy
 cases hy
 have hp : PermOK w lo (SS X μ) e e2 t ix l mv := hob
 have hlen := hp.len
 have hrow : ∀ i, Rep S' w (.slice t) (l.getD i []) [mv.hs.getD i (.slice none 0 0)] := fun i => by
  by_cases hi : i < l.length
  ·have hx : mv.hs[i]? = some (mv.hs.getD i (.slice none 0 0)) := by
    rw [List.getD_eq_getElem?_getD, List.getElem?_eq_getElem (by omega)]; rfl
   have hl : l[i]? = some (l.getD i []) := by simp [List.getD_eq_getElem?_getD, hi]
   generalize mv.hs.getD i (.slice none 0 0) = x at hx
   generalize l.getD i [] = r at hl
   obtain ⟨k1, xs, hown, hrep⟩ := hp.row i x r hx hl
   have hrep' := hrep.step (S' := S') (w' := w) fun b hlt hb => ⟨hS b hlt hb, rfl⟩
   rcases hown.2 with ⟨e1, h0⟩ | ⟨gb, cap, cur, e1, h1, h2, h3, _⟩
   ·have : r = [] := List.eq_nil_of_length_eq_zero h0
    subst this
    rw [e1]
    exact Rep.nil
   ·rw [e1]
    refine Rep.slice_of h3 (hR gb (k1 gb (by rw [e1]; simp [wu])).1) hrep' fun j u hu => ?_
    rw [e1] at hown
    have := hown.cells (g := gb) rfl j u hu
    rw [Addr.add_lit] at this
    exact this
  ·have e1 : l.getD i [] = [] := by rw [List.getD_eq_getElem?_getD, List.getElem?_eq_none (by omega)]; rfl
   have e2 : mv.hs.getD i (.slice none 0 0) = .slice none 0 0 := by rw [List.getD_eq_getElem?_getD, List.getElem?_eq_none (by omega)]; rfl
   rw [e1, e2]
   exact Rep.nil
 have hrows : ∀ ix : List Nat, RepL S' w (.slice t) (wgc ix l) (ix.map fun i => mv.hs.getD i (.slice none 0 0)) := fun ix => by
  induction ix with
  | nil => rfl
  | cons i ix ih => exact ⟨[_], _, rfl, hrow i, ih⟩
 have hown := hp.own
 have hln : (wgc ix l).length = ix.length := by simp [wgc]
 rcases hown.2 with ⟨e1, h0⟩ | ⟨gb, cap, cur, e1, h1, h2, h3, _⟩
 ·have : ix = [] := List.eq_nil_of_length_eq_zero h0
  subst this
  rw [e1]
  exact ⟨_, _, rfl, Rep.nil⟩
 ·rw [e1]
  refine ⟨_, _, by rw [hln], ?_⟩
  rw [← hln]
  refine Rep.slice_of (by rw [hln]; exact h3) (hR gb (hp.top gb (by rw [e1]; simp [wu]))) (hrows ix) fun j u hu => ?_
  rw [e1] at hown
  have := hown.cells (g := gb) rfl j u hu
  rw [Addr.add_lit] at this
  exact this
structure LendOK (X : Nat → Prop) (lo : Nat → Prop) (μ : Nat → Option MV) (w : World) (ρ : List Nat) (lo' : Nat → Prop) (μi : Nat → Option MV) : Prop where
 mi : ∀ o i mv, wcw ρ o 64 = some i → μ o = some mv → μi i = some mv
 le : ∀ b, lo b → lo' b
 rest : ∀ o mv b, μ o = some mv → wcw ρ o 64 = none → b ∈ mv.rs → lo' b
 dat : ∀ b, b < w.heap.size → SS X μ b → lo' b
variable {ρ : List Nat} {lo' : Nat → Prop} {μi : Nat → Option MV}
theorem wgy [Tabs] (hm : Mem P X lo g μ w) (hL : LendOK X lo μ w ρ lo' μi) {S' Sv : Nat → Prop} (hS : ∀ b, b < w.heap.size → SS X μ b → S' b) (hSv : ∀ b, b < w.heap.size → Sv b → S' b) {v : AV} {x : Value}
  (hR : wey ρ v = false ∨ ∀ o mv b, μ o = some mv → wcw ρ o 64 = none → b ∈ mv.rs → S' b) (h : RelV P w lo μ Sv v x) : RelV P w lo' μi S' (wqo ρ g v) x := by
 cases h with
 | dat ht h => exact .dat ht (h.step fun b hlt hb => ⟨hSv b hlt hb, rfl⟩)
 | nilsl => exact .nilsl
 | @arr _ o a n c rs _ h =>
  simp only [wqo]
  split
  next i hi => exact .arr (hL.mi o i _ hi h)
  next hi =>
   split
   next e t l hg =>
    have hR' := hR.resolve_left (by simp [wey, hi])
    obtain ⟨a', c', e', hr⟩ := hm.asDat h hg hS (fun b hb => hR' o _ b h hi hb)
    exact .dat rfl hr
   next e t l hg =>
    have hR' := hR.resolve_left (by simp [wey, hi])
    obtain ⟨a', c', e', hr⟩ := hm.asDeep h hg (fun b hb => hR' o _ b h hi hb)
    exact .dat rfl hr
   next hg =>
    have hR' := hR.resolve_left (by simp [wey, hi])
    obtain ⟨a', c', e', hr⟩ := hm.asRows h hg hS (fun b hb => hR' o _ b h hi hb)
    exact .dat rfl hr
   next hg =>
    have hR' := hR.resolve_left (by simp [wey, hi])
    obtain ⟨a', c', e', hr⟩ := hm.asPerm h hg hS (fun b hb => hR' o _ b h hi hb)
    exact .dat rfl hr
   next => exact .undef
 | @row _ o i v0 rs hds a m c h hx =>
  simp only [wqo]
  split
  next => exact .undef
  next hi =>
   split
   next e e2 t l hg =>
    have hR' := hR.resolve_left (by simp [wey])
    obtain ⟨y, hy, hob⟩ := hm.ob _ _ h
    rw [hg] at hy
    cases hy
    obtain ⟨hrw, _⟩ := hob
    obtain ⟨hil, xs, hown, hrep⟩ := hm.rowAt h hx hg
    obtain ⟨k1, _⟩ := hrw.row i _ (l.getD i []) (fun j k hk => by cases hk) hx (by simp [List.getD_eq_getElem?_getD, hil])
    have hrep' := hrep.step (S' := S') (w' := w) fun b hlt hb => ⟨hS b hlt hb, rfl⟩
    refine .dat rfl ?_
    rcases hown.2 with ⟨e1, h0⟩ | ⟨gb, cap, cur, e1, h1, h2, h3, _⟩
    ·have : l.getD i [] = [] := List.eq_nil_of_length_eq_zero h0
     rw [e1, this]
     exact Rep.nil
    ·rw [e1]
     refine Rep.slice_of h3 (hR' o _ gb h hi (k1 gb (by rw [e1]; simp [wu])).1) hrep' fun j u hu => ?_
     rw [e1] at hown
     have := hown.cells (g := gb) rfl j u hu
     rw [Addr.add_lit] at this
     exact this
   next kp e e2 t ix l hg =>
    have hR' := hR.resolve_left (by simp [wey])
    obtain ⟨hil, k1, xs, hown, hrep⟩ := hm.rowAtP h hx hg
    have hrep' := hrep.step (S' := S') (w' := w) fun b hlt hb => ⟨hS b hlt hb, rfl⟩
    refine .dat rfl ?_
    rcases hown.2 with ⟨e1, h0⟩ | ⟨gb, cap, cur, e1, h1, h2, h3, _⟩
    ·have : l.getD i [] = [] := List.eq_nil_of_length_eq_zero h0
     rw [e1, this]
     exact Rep.nil
    ·rw [e1]
     refine Rep.slice_of h3 (hR' o _ gb h hi (k1 gb (by rw [e1]; simp [wu]))) hrep' fun j u hu => ?_
     rw [e1] at hown
     have := hown.cells (g := gb) rfl j u hu
     rw [Addr.add_lit] at this
     exact this
   next => exact .undef
 | clo h => exact .clo (h.step hL.le fun b _ => rfl)
 | @fn _ f caps xs hl h =>
  cases caps with
  | nil => exact .fn hl fun j v hv => by simp [nth] at hv
  | cons c caps => exact .undef
 | _ => exact .undef
theorem wvo [Tabs] (hm : Mem P X lo g μ w) (hL : LendOK X lo μ w ρ lo' μi) {S' : Nat → Prop} (hS : ∀ b, b < w.heap.size → SS X μ b → S' b) {v : AV} {x : Value} (hR : wyy ρ v = false ∨ ∀ o mv b, μ o = some mv → wcw ρ o 64 = none → b ∈ mv.rs → S' b)
  (h : RelV P w lo μ (SS X μ) v x) : RelV P w lo' μi S' (ext1 ρ g v) x := by
 have h0 := h
 cases h with
 | @agg _ vs xs hl h =>
  refine .agg (by simpa using hl) fun j v hv => ?_
  rw [wo, List.getElem?_map] at hv
  cases hj : vs[j]? with
  | none => rw [hj] at hv; cases hv
  | some u =>
   rw [hj] at hv
   simp only [Option.map_some, Option.some.injEq] at hv
   subst hv
   refine wgy hm hL hS hS (hR.imp (fun e => ?_) id) (h j u (by rw [wo]; exact hj))
   simp only [wyy, List.any_eq_false] at e
   simpa using e u (List.mem_of_getElem? hj)
 | _ => exact wgy hm hL hS hS (by simpa only [wyy] using hR) h0
theorem wpi [Tabs] (hm : Mem P X lo g μ w) (hL : LendOK X lo μ w ρ lo' μi) {S' Sv : Nat → Prop} (hS : ∀ b, b < w.heap.size → SS X μ b → S' b) {p : Bool} (hSv : p = true → (∀ b, b < w.heap.size → Sv b → S' b) ∧ (∀ b, lo b → S' b) ∧ ∀ b, lo' b → S' b) {v : AV} {x : Value}
  (hR : wes ρ g v = false ∨ ∀ o mv b, μ o = some mv → wcw ρ o 64 = none → b ∈ mv.rs → S' b) (h : RelV P w lo μ Sv v x) : RelV P w lo' μi S' (extC ρ g p v) x := by
 cases h with
 | @box _ o b k rs hds h =>
  simp only [extC]
  split
  next i hi => exact .box (hL.mi o i _ hi h)
  next hi =>
  split
  next cs hg =>
   split
   next hk =>
    have hc := hm.cells (k := k) h hg
    have hbm : b ∈ (⟨.pointer (some ⟨b, 0, none⟩), rs, hds⟩ : MV).rs := by
     obtain ⟨y, hy, hob⟩ := hm.ob _ _ h
     rw [hg] at hy
     cases hy
     obtain ⟨b', vs, e, he, _⟩ := hob
     cases he
     simp
    have hex : ∀ j, ∃ x, ∀ v, nth (cs.drop k) j = some v → w.cell? ⟨b, k + j, none⟩ = some x ∧ RelV P w lo μ (SS X μ) v x := fun j => by
     cases hj : nth (cs.drop k) j with
     | none => exact ⟨undef, fun v hv => by cases hv⟩
     | some v => obtain ⟨x, h1, h2⟩ := hc j v hj; exact ⟨x, fun v' hv' => by cases hv'; exact ⟨h1, h2⟩⟩
    have hnth : ∀ j u, nth ((cs.map (wqo ρ g)).drop k) j = some u → ∃ v, nth (cs.drop k) j = some v ∧ u = wqo ρ g v := fun j u hu => by
     rw [wo, List.getElem?_drop, List.getElem?_map] at hu
     cases hj : cs[k + j]? with
     | none => rw [hj] at hu; cases hu
     | some v => rw [hj] at hu; simp at hu; exact ⟨v, by rw [wo, List.getElem?_drop]; exact hj, hu.symm⟩
    refine .ptr (fun j => (hex j).choose) ?_ (.inr (hL.rest o _ b h hi hbm)) (fun j u hu => ?_) fun j u hu => ?_
    ·intro e
     have := congrArg List.length e
     simp at this
     omega
    ·obtain ⟨v, h1, _⟩ := hnth j u hu
     exact ((hex j).choose_spec v h1).1
    ·obtain ⟨v, h1, rfl⟩ := hnth j u hu
     refine wgy hm hL hS hS (hR.imp (fun e => ?_) id) ((hex j).choose_spec v h1).2
     simp only [wes, hi, hg, List.any_eq_false] at e
     have hmem : v ∈ cs := by
      rw [wo, List.getElem?_drop] at h1
      exact List.mem_of_getElem? h1
     simpa using e v hmem
   next => exact .undef
  next => exact .undef
 | @ptr _ cs b k xs hne hb hx h =>
  cases p with
  | false => exact .undef
  | true =>
   obtain ⟨hall, hlo, hlo'⟩ := hSv rfl
   have hlt : b < w.heap.size := by
    cases cs with
    | nil => exact absurd rfl hne
    | cons c cs => exact block_lt_of_cell (hx 0 c rfl)
   refine .ptr xs (by simpa using hne) (.inl (hb.elim (hall b hlt) (hlo b))) (fun j u hu => ?_) fun j u hu => ?_
   ·rw [wo, List.getElem?_map] at hu
    cases hj : cs[j]? with
    | none => rw [hj] at hu; cases hu
    | some v => exact hx j v (by rw [wo]; exact hj)
   ·rw [wo, List.getElem?_map] at hu
    cases hj : cs[j]? with
    | none => rw [hj] at hu; cases hu
    | some v =>
     rw [hj] at hu
     simp at hu
     subst hu
     exact wgy hm hL hS hall (.inr fun o mv b ho hi hb => hlo' b (hL.rest o mv b ho hi hb)) (h j v (by rw [wo]; exact hj))
 | _ => exact .undef
theorem wabv [Tabs] (hm : Mem P X lo g μ w) (hL : LendOK X lo μ w ρ lo' μi) {S' Sv : Nat → Prop} (hS : ∀ b, b < w.heap.size → SS X μ b → S' b) (hSv : ∀ b, b < w.heap.size → Sv b → S' b) {v : AV} {x : Value}
  (hR : wey ρ v = false ∨ ∀ o mv b, μ o = some mv → wcw ρ o 64 = none → b ∈ mv.rs → S' b) (h : RelV P w lo μ Sv v x) : RelV P w lo' μi S' (wnu ρ g v) x := by
 have h0 := h
 cases h with
 | @fn _ f caps xs hl h =>
  refine .fn (by simpa using hl) fun j u hu => ?_
  rw [wo, List.getElem?_map] at hu
  cases hj : caps[j]? with
  | none => rw [hj] at hu; cases hu
  | some c =>
   rw [hj] at hu
   simp only [Option.map_some, Option.some.injEq] at hu
   subst hu
   exact wpi (S' := fun b => S' b ∨ lo' b) (Sv := fun b => Sv b ∨ lo b) hm hL (fun b hlt hs => .inr (hL.dat b hlt hs)) (fun _ => ⟨fun b hlt hs => hs.imp (hSv b hlt) (hL.le b), fun b h => .inr (hL.le b h), fun b h => .inr h⟩) (.inr fun o mv b ho hi hb => .inr (hL.rest o mv b ho hi hb)) (h j c (by rw [wo]; exact hj))
 | _ => exact wgy hm hL hS hSv hR h0
theorem wqw [Tabs] (hm : Mem P X lo g μ w) (hL : LendOK X lo μ w ρ lo' μi) {S' Sv : Nat → Prop} (hS : ∀ b, b < w.heap.size → SS X μ b → S' b) {p : Bool} (hSv : p = true → (∀ b, b < w.heap.size → Sv b → S' b) ∧ (∀ b, lo b → S' b) ∧ ∀ b, lo' b → S' b) {v : AV} {x : Value}
  (hR : wes ρ g v = false ∨ ∀ o mv b, μ o = some mv → wcw ρ o 64 = none → b ∈ mv.rs → S' b) (h : RelV P w lo μ Sv v x) : RelV P w lo' μi S' (wkh ρ g p v) x := by
 cases h with
 | @box _ o b k rs hds h =>
  simp only [wkh]
  split
  next i hi => exact .box (hL.mi o i _ hi h)
  next hi =>
  split
  next cs hg =>
   split
   next hk =>
    have hc := hm.cells (k := k) h hg
    have hbm : b ∈ (⟨.pointer (some ⟨b, 0, none⟩), rs, hds⟩ : MV).rs := by
     obtain ⟨y, hy, hob⟩ := hm.ob _ _ h
     rw [hg] at hy
     cases hy
     obtain ⟨b', vs, e, he, _⟩ := hob
     cases he
     simp
    have hex : ∀ j, ∃ x, ∀ v, nth (cs.drop k) j = some v → w.cell? ⟨b, k + j, none⟩ = some x ∧ RelV P w lo μ (SS X μ) v x := fun j => by
     cases hj : nth (cs.drop k) j with
     | none => exact ⟨undef, fun v hv => by cases hv⟩
     | some v => obtain ⟨x, h1, h2⟩ := hc j v hj; exact ⟨x, fun v' hv' => by cases hv'; exact ⟨h1, h2⟩⟩
    have hnth : ∀ j u, nth ((cs.map (wnu ρ g)).drop k) j = some u → ∃ v, nth (cs.drop k) j = some v ∧ u = wnu ρ g v := fun j u hu => by
     rw [wo, List.getElem?_drop, List.getElem?_map] at hu
     cases hj : cs[k + j]? with
     | none => rw [hj] at hu; cases hu
     | some v => rw [hj] at hu; simp at hu; exact ⟨v, by rw [wo, List.getElem?_drop]; exact hj, hu.symm⟩
    refine .ptr (fun j => (hex j).choose) ?_ (.inr (hL.rest o _ b h hi hbm)) (fun j u hu => ?_) fun j u hu => ?_
    ·intro e
     have := congrArg List.length e
     simp at this
     omega
    ·obtain ⟨v, h1, _⟩ := hnth j u hu
     exact ((hex j).choose_spec v h1).1
    ·obtain ⟨v, h1, rfl⟩ := hnth j u hu
     refine wabv hm hL hS hS (hR.imp (fun e => ?_) id) ((hex j).choose_spec v h1).2
     simp only [wes, hi, hg, List.any_eq_false] at e
     have hmem : v ∈ cs := by
      rw [wo, List.getElem?_drop] at h1
      exact List.mem_of_getElem? h1
     simpa using e v hmem
   next => exact .undef
  next => exact .undef
 | @ptr _ cs b k xs hne hb hx h => exact wpi hm hL hS hSv (.inl rfl) (.ptr xs hne hb hx h)
 | _ => exact .undef
theorem wahr [Tabs] (hm : Mem P X lo g μ w) (hL : LendOK X lo μ w ρ lo' μi) {S0 : Nat → Prop} (p : Bool) {v : AV} {x : Value} (h : RelV P w lo μ (fun b => SS X μ b ∨ lo b) v x) : RelV P w lo' μi (fun b => S0 b ∨ lo' b) (extC ρ g p v) x :=
 wpi hm hL (fun b hlt hs => .inr (hL.dat b hlt hs)) (fun _ => ⟨fun b hlt hs => .inr (hs.elim (hL.dat b hlt) (hL.le b)), fun b h => .inr (hL.le b h), fun b h => .inr h⟩) (.inr fun o mv b ho hi hb => .inr (hL.rest o mv b ho hi hb)) h
theorem wabw [Tabs] (hm : Mem P X lo g μ w) (hL : LendOK X lo μ w ρ lo' μi) {S0 : Nat → Prop} (p : Bool) {v : AV} {x : Value} (h : RelV P w lo μ (fun b => SS X μ b ∨ lo b) v x) : RelV P w lo' μi (fun b => S0 b ∨ lo' b) (wkh ρ g p v) x :=
 wqw hm hL (fun b hlt hs => .inr (hL.dat b hlt hs)) (fun _ => ⟨fun b hlt hs => .inr (hs.elim (hL.dat b hlt) (hL.le b)), fun b h => .inr (hL.le b h), fun b h => .inr h⟩) (.inr fun o mv b ho hi hb => .inr (hL.rest o mv b ho hi hb)) h
theorem wvp {S' Sv : Nat → Prop} {μi : Nat → Option MV} {lo' : Nat → Prop} (hSv : ∀ b, b < w.heap.size → Sv b → S' b) {v : AV} {x : Value} (h : RelV P w lo μ Sv v x) : RelV P w lo' μi S' (purL v) x := by
 cases h with
 | dat ht h => exact .dat ht (h.step fun b hlt hb => ⟨hSv b hlt hb, rfl⟩)
 | nilsl => exact .nilsl
 | _ => exact .undef
theorem wpj {S' Sv : Nat → Prop} {μi : Nat → Option MV} {lo' : Nat → Prop} (hSv : ∀ b, b < w.heap.size → Sv b → S' b) {v : AV} {x : Value} (h : RelV P w lo μ Sv v x) : RelV P w lo' μi S' (pur1 v) x := by
 have h0 := h
 cases h with
 | @agg _ vs xs hl h =>
  refine .agg (by simpa using hl) fun j u hu => ?_
  rw [wo, List.getElem?_map] at hu
  cases hj : vs[j]? with
  | none => rw [hj] at hu; cases hu
  | some c =>
   rw [hj] at hu
   simp only [Option.map_some, Option.some.injEq] at hu
   subst hu
   exact wvp hSv (h j c (by rw [wo]; exact hj))
 | _ => exact wvp hSv h0
theorem wahs [Tabs] (hm : Mem P X lo g μ w) (hL : LendOK X lo μ w ρ lo' μi) {S' : Nat → Prop} (hS : ∀ b, b < w.heap.size → SS X μ b → S' b) {v : AV} {x : Value} (hR : wyy ρ v = false ∨ ∀ o mv b, μ o = some mv → wcw ρ o 64 = none → b ∈ mv.rs → S' b)
  (h : RelV P w lo μ (SS X μ) v x) : RelV P w lo' μi S' (extA ρ g v) x := by
 have h0 := h
 cases h with
 | @fn _ f caps xs hl h =>
  refine .fn (by simpa using hl) fun j v hv => ?_
  rw [wo, List.getElem?_map] at hv
  cases hj : caps[j]? with
  | none => rw [hj] at hv; cases hv
  | some u =>
   rw [hj] at hv
   simp only [Option.map_some, Option.some.injEq] at hv
   subst hv
   exact wabw hm hL true (h j u (by rw [wo]; exact hj))
 | @bnd _ f fs xs hl h =>
  refine .bnd (by simpa using hl) fun j v hv => ?_
  rw [wo, List.getElem?_map] at hv
  cases hj : fs[j]? with
  | none => rw [hj] at hv; cases hv
  | some u =>
   rw [hj] at hv
   simp only [Option.map_some, Option.some.injEq] at hv
   subst hv
   exact wpj hS (h j u (by rw [wo]; exact hj))
 | @box _ o b k rs _ h =>
  simp only [extA]
  split
  next i hi => exact .box (hL.mi o i _ hi h)
  next => exact .undef
 | _ => exact wvo hm hL hS hR h0
theorem waht [Tabs] (hm : Mem P X lo g μ w) (hL : LendOK X lo μ w ρ lo' μi) {S' : Nat → Prop} (hS : ∀ b, b < w.heap.size → SS X μ b → S' b) {v : AV} {x : Value} (h : RelV P w lo μ (SS X μ) v x) : RelV P w lo' μi S' (extL ρ g v) x := by
 cases h with
 | @fn _ f caps xs hl h =>
  refine .fn (by simpa using hl) fun j v hv => ?_
  rw [wo, List.getElem?_map] at hv
  cases hj : caps[j]? with
  | none => rw [hj] at hv; cases hv
  | some u =>
   rw [hj] at hv
   simp only [Option.map_some, Option.some.injEq] at hv
   subst hv
   exact wahr hm hL false (h j u (by rw [wo]; exact hj))
 | @box _ o b k rs _ h =>
  simp only [extL]
  split
  next i hi => exact .box (hL.mi o i _ hi h)
  next => exact .undef
 | @arr _ o a n c rs _ h =>
  simp only [extL]
  split
  next i hi => exact .arr (hL.mi o i _ hi h)
  next => exact .undef
 | dat ht h => exact .dat ht (h.step fun b hlt hb => ⟨hS b hlt hb, rfl⟩)
 | nilsl => exact .nilsl
 | clo h => exact .clo (h.step hL.le fun b _ => rfl)
 | _ => exact .undef
end
end Go.Proofs.Ytnagpmhaddfgmaa
