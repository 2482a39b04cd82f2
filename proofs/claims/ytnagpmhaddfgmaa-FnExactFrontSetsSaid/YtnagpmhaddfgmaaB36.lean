/-
 A row is appended to rows that are owned.
-/
import Derived.Test.YtnagpmhaddfgmaaB34
namespace Go.Proofs.Ytnagpmhaddfgmaa
open Go.RowKit (Below)
section
variable {P : Program} {tt : Nat → TD} {w : World} {lo : Nat → Prop} {N : Par} {μ : Nat → Option MV} {S : Nat → Prop} {X : Nat → Prop} {g : Nat → Option Ob} {a : Act} {E : Env} {w0 : World}
theorem wfv [Tabs] {s : St} (h : Rel P X lo N w0 s a w μ) {d e e2 : Nat} {t : Ty} (hg : s.g d = none) :
  Rel P X lo N w0 { fr := s.fr, ob := (d, .rows e e2 t [] none) :: s.ob } a w (again μ d ⟨.slice none 0 0, [], []⟩) := by
 have hμd : μ d = none := by
  cases hm : μ d with
  | none => rfl
  | some mv => obtain ⟨y, hy, _⟩ := h.mem.ob d mv hm; rw [hg] at hy; cases hy
 have hS : ∀ b, b < w.heap.size → SS X μ b → SS X (again μ d ⟨.slice none 0 0, [], []⟩) b := fun b _ hs => ⟨hs.1, fun q mv hq hb => by
  rcases wag hq with ⟨_, rfl⟩ | ⟨_, hq⟩
  ·cases hb
  ·exact hs.2 q mv hq hb⟩
 have hμ : ∀ q mv, μ q = some mv → again μ d ⟨.slice none 0 0, [], []⟩ q = some mv := fun q mv hq => wdg (fun e => by rw [e, hμd] at hq; cases hq) hq
 refine ⟨⟨h.mem.hX, h.mem.hlo, fun q mv hq => ?_, fun p q mv1 mv2 b h1 h2 h3 h4 => ?_, h.mem.tab⟩, fun j => (h.fr j).step hμ h.mem.hlo (fun b hb hs => ⟨hS b hb hs, rfl⟩) fun _ _ => rfl, h.bel, h.df, h.sz⟩
 ·rcases wag hq with ⟨rfl, rfl⟩ | ⟨hne, hq⟩
  ·refine ⟨.rows e e2 t [] none, by simp [St.g, look], ⟨World.ownsRow_nil _ 0 e 1, fun b hb => (by simp [wu] at hb), fun b hb => (by cases hb), fun x hx => (by cases hx), fun j x r _ hx => (by simp at hx), fun j k x y b _ _ hx => (by simp at hx)⟩, fun i d hd => by cases hd⟩
  ·obtain ⟨y, hy, hyo⟩ := h.mem.ob q mv hq
   refine ⟨y, ?_, hyo.step h.mem.hlo hμ (fun b hb hs => ⟨hS b hb hs, rfl⟩) (fun _ _ => rfl) fun _ _ => rfl⟩
   simp only [St.g, look, wal (Ne.symm hne)]
   exact hy
 ·rcases wag h1 with ⟨_, rfl⟩ | ⟨_, k1⟩
  ·cases h3
  ·rcases wag h2 with ⟨_, rfl⟩ | ⟨_, k2⟩
   ·cases h4
   ·exact h.mem.dis p q mv1 mv2 b k1 k2 h3 h4
theorem wre [Tabs] (hT : waj P tt) {s : St} (h : Rel P X lo N w0 s a w μ) {d o q p ty rt e e2 eq e3 b : Nat} {te t t' : Ty} {l : List (List t.I)} {l' : List (List t'.I)} (hdN : N.has d) (hty : tt ty = .sl e te b) (hte : te.size = 1) (hb0 : 0 < b)
  (hgo : s.g o = some (.rows e e2 t l none)) (hgq : s.g q = some (.rows eq e3 t' l' (some (0, some p)))) (hl' : l'.length = 1) (hoq : o ≠ q) (hop : o ≠ p) (hpq : p ≠ q) (hle : (l.length + 1) * b ≤ 140737488355328) {va x : Value} (ha : RelV P w lo μ (SS X μ) (.arr o) va) (hx : RelV P w lo μ (SS X μ) (.arr q) x) :
  ∃ v' w' μ', (Builtin.append_ #[ty, ty] rt #[va, x]).run P w = .ok v' w' ∧ Rel P X lo N w0 (appRow s d o q p e e2 t l) (a.put (some d) v') w' μ' := by
 have hd := hT ty
 rw [hty] at hd
 obtain ⟨hu, ⟨i, z, hi, hs, hby, hz, hzz⟩, _⟩ := hd
 have hzc : z.cells.size = te.size := by simpa using wbm hzz
 cases ha with
 | @arr _ _ a0 n0 c0 rs hds hμ =>
 cases hx with
 | @arr _ _ a1 n1 c1 rq hq1 hμq =>
 obtain ⟨y, hy, hyo⟩ := h.mem.ob _ _ hμ
 rw [hgo] at hy
 cases hy
 obtain ⟨hr, _⟩ := hyo
 obtain ⟨y, hy, hyo⟩ := h.mem.ob _ _ hμq
 rw [hgq] at hy
 cases hy
 obtain ⟨hrq, hkq⟩ := hyo
 obtain ⟨x0, rp, hp0, k1, k2⟩ := hkq 0 p rfl
 have hlq := hrq.len
 rw [hl'] at hlq
 simp only at hlq k1
 have hq1e : hq1 = [x0] := by
  match hq1, hlq with
  | [y], _ => simp at k1; rw [k1]
 have hx0 : x0.oneCell' = true := by
  obtain ⟨a2, n2, c2, rfl⟩ := hrq.slc x0 (by rw [hq1e]; simp)
  rfl
 have hown := hr.own
 have hownq := hrq.own
 simp only at hown hownq
 rw [hl', hq1e] at hownq
 rcases hownq.2 with ⟨_, e0⟩ | ⟨bq, capq, curq, evq, _, hhq, _, _, _, _⟩
 ·cases e0
 cases evq
 rw [← hte] at hown
 obtain ⟨v', w', m1, m2, m3, m4, m5, m6, m7, m8, av, nv, cv, hv'⟩ := wcm (rt := rt) (c := c1) (ax := some ⟨bq, 0, none⟩) (m := 1) hu hi hs hby hz hzc hown (news := [x0]) (by simp [hte]) (fun e => by cases e)
  (fun ad e j u hu => by cases e; exact hownq.cells (g := bq) rfl j u hu) (fun u hu => by simp at hu; subst hu; exact hx0) hle hb0
 rw [hte] at m2 hown
 -- the rows q are forgotten
 have h1 : Rel P X lo N w0 (s.swap q .undef []) a w (without μ q) := h.swap fun mv _ => .undef
 have hμ1 : without μ q o = some ⟨.slice a0 n0 c0, rs, hds⟩ := weg hoq hμ
 have hlen := hr.len
 simp only at hlen
 have hrootv : ∀ k, wu v' = some k → k ∈ rs ∨ w.heap.size ≤ k := fun k hk => (m8 k hk).imp (fun h => hr.top k h) id
 have hkept : Kept lo w w' := ⟨m3, m4, m5, m6, fun k hk => m7 k (h.mem.hlo k hk) fun e => (hr.low k (hr.top k e)).1 hk⟩
 have hrsI : ∀ k, k ∈ (wu v').toList ++ rs → k ∈ rs ∨ w.heap.size ≤ k := fun k hk => by
  rcases List.mem_append.1 hk with hk | hk
  ·exact hrootv k (by simpa using hk)
  ·exact .inl hk
 have hdata : ∀ k, k < w.heap.size → SS X (without μ q) k → SS X (again (without μ q) o ⟨v', (wu v').toList ++ rs, hds ++ [x0]⟩) k ∧ w'.heap[k]? = w.heap[k]? := fun k hk hS => ⟨⟨hS.1, fun p' mv hp hkm => by
  rcases wag hp with ⟨rfl, rfl⟩ | ⟨_, hp⟩
  ·rcases hrsI k hkm with h' | h'
   ·exact hS.2 _ _ hμ1 h'
   ·omega
  ·exact hS.2 p' mv hp hkm⟩, m7 k hk fun e => hS.2 o _ hμ1 (hr.top k e)⟩
 have hrowb : ∀ {j : Nat} {y : Value} {r : List t.I}, hds[j]? = some y → l[j]? = some r → ∀ k, wu y = some k → k ∈ rs ∧ wu (.slice a0 n0 c0) ≠ some k := fun {j y r} hy hq k hk => (hr.row j y r (fun i k hk => by cases hk) hy hq).1 k hk
 have hnx : NxA P X lo (without μ q) w o (.rows e e2 t (l ++ [[]]) (some (l.length, some p))) w' ⟨v', (wu v').toList ++ rs, hds ++ [x0]⟩ := by
  refine ⟨hkept, hdata, ⟨⟨?_, fun k hk => List.mem_append_left _ (by simp [show wu v' = some k from hk]), fun k hk => ?_, fun y hy => ?_, fun j y r hj hy hq => ?_, fun j k y z kb hj hk hy hz h3 h4 => ?_⟩, fun i' d' hd' => ?_⟩, fun k hk => ?_, fun k hk hn => ?_⟩
  ·rw [List.length_append]
   exact m2
  ·rcases hrsI k hk with h' | h'
   ·exact ⟨(hr.low k h').1, Nat.lt_of_lt_of_le (hr.low k h').2 m6⟩
   ·refine ⟨fun hl => by have := h.mem.hlo k hl; omega, ?_⟩
    have hk' : wu v' = some k := by
     rcases List.mem_append.1 hk with hk | hk
     ·simpa using hk
     ·have := (hr.low k hk).2; omega
    rcases m2.2 with ⟨e1, _⟩ | ⟨gb, cap, cur, e1, _, hh, _⟩
    ·rw [e1] at hk'; simp [wu] at hk'
    ·rw [e1] at hk'
     simp only [wu, Option.some.injEq] at hk'
     subst hk'
     exact (Array.getElem?_eq_some_iff.1 hh).1
  ·rcases List.mem_append.1 hy with hy | hy
   ·exact hr.slc y hy
   ·simp at hy
    subst hy
    exact hrq.slc y (by rw [hq1e]; simp)
  ·have hjl : j ≠ l.length := hj _ _ rfl
   have hj' : j < l.length := by
    have := (List.getElem?_eq_some_iff.1 hq).1
    simp at this
    omega
   rw [List.getElem?_append_left (by omega)] at hy hq
   obtain ⟨z1, ys, z2, z3⟩ := hr.row j y r (fun i k hk => by cases hk) hy hq
   refine ⟨fun k hk => ⟨List.mem_append_right _ (z1 k hk).1, fun hk2 => ?_⟩, ys, waf z2 fun k hk => m7 k (hr.low k (z1 k hk).1).2 (z1 k hk).2, z3.step fun k hk hs => hdata k hk (wef hs)⟩
   rcases m8 k hk2 with h' | h'
   ·exact (z1 k hk).2 h'
   ·have := (hr.low k (z1 k hk).1).2; omega
  ·have hb : ∀ {j : Nat} {y : Value}, wcf (some (l.length, some p)) j → (hds ++ [x0])[j]? = some y → j < hds.length := fun {j y} hj hy => by
    have := (List.getElem?_eq_some_iff.1 hy).1
    have := hj l.length (some p) rfl
    simp at *
    omega
   have hbj := hb hj hy
   have hbk := hb hk hz
   simp only at hy hz
   rw [List.getElem?_append_left hbj] at hy
   rw [List.getElem?_append_left hbk] at hz
   exact hr.apart j k y z kb (fun i k hk => by cases hk) (fun i k hk => by cases hk) hy hz h3 h4
  ·cases hd'
   refine ⟨x0, rp, hp0, ?_, wdg (Ne.symm hop) (weg hpq k2)⟩
   simp only
   rw [← hlen, List.getElem?_append_right (Nat.le_refl _)]
   simp
  ·rcases hrsI k hk with h' | h'
   ·exact .inl ⟨_, hμ1, h'⟩
   ·exact .inr h'
  ·exact m7 k hk fun e => hn _ hμ1 (hr.top k e)
 have h2 := h1.appd hnx
 have h3 := h2.put (d := d) hdN (v := .arr o) (x := v') (by rw [hv']; exact .arr (rs := (wu v').toList ++ rs) (hs := hds ++ [x0]) (by rw [wao, hv']))
 obtain ⟨μ', h4⟩ := h3.backR ⟨_, wao⟩ p
 exact ⟨v', w', μ', m1, h4⟩
theorem Rel.give [Tabs] {s : St} (h : Rel P X lo N w0 s a w μ) {o q e e2 : Nat} {t : Ty} {l : List (List t.I)} (hoq : o ≠ q) (hgo : s.g o = some (.rows e e2 t l none)) : Rel P X lo N w0 (s.swap q .undef []) a w (given μ o q) := by
 have hS : ∀ b, b < w.heap.size → SS X μ b → SS X (given μ o q) b := fun b _ hs => ⟨hs.1, fun p mv hp hb => by
  obtain ⟨p0, mv0, h1, h2, _⟩ := wct hp hb
  exact hs.2 p0 mv0 h1 h2⟩
 have hμ : ∀ p mv, p ≠ q → μ p = some mv → ∃ rs hs, given μ o q p = some ⟨mv.v, rs, hs⟩ ∧ Ext mv.hs hs := fun p mv hne hp => by
  unfold given
  rw [if_neg hne]
  split
  next e => subst e; rw [hp]; exact ⟨_, _, rfl, Ext.refl _⟩
  next => exact ⟨mv.rs, mv.hs, hp, Ext.refl _⟩
 refine ⟨⟨h.mem.hX, h.mem.hlo, fun p mv hp => ?_, fun p p' mv mv' b h1 h2 h3 h4 => ?_, h.mem.tab⟩, fun i => ?_, h.bel, h.df, h.sz⟩
 ·obtain ⟨hne, hp'⟩ := wbu hp
  have look' : ∀ {x : Ob}, s.g p = some x → (s.swap q .undef []).g p = some (wcy q .undef x) := fun {x} hx => by
   simp only [St.g, St.swap, List.nil_append, wap]
   rw [wau q s.ob p hne]
   simp only [St.g] at hx
   rw [hx]
   rfl
  rcases hp' with ⟨rfl, mv0, h0, rfl⟩ | ⟨hpo, h0⟩
  ·obtain ⟨x, hx, hob⟩ := h.mem.ob p mv0 h0
   rw [hgo] at hx
   cases hx
   obtain ⟨hr, _⟩ := hob
   refine ⟨.rows e e2 t l none, look' hgo, ⟨hr.own, fun b hb => List.mem_append_left _ (hr.top b hb), fun b hb => ?_, hr.slc, fun j y r hj hy hq => ?_, hr.apart⟩, fun i d hd => by cases hd⟩
   ·rcases List.mem_append.1 hb with hb | hb
    ·exact hr.low b hb
    ·cases hq : μ q with
     | none => rw [hq] at hb; simp at hb
     | some mvq =>
      rw [hq] at hb
      have hb : b ∈ mvq.rs := by simpa using hb
      exact h.mem.lt hq hb
   ·obtain ⟨z1, ys, z2, z3⟩ := hr.row j y r hj hy hq
    exact ⟨fun b hb => ⟨List.mem_append_left _ (z1 b hb).1, (z1 b hb).2⟩, ys, z2, z3.step fun b hb hs => ⟨hS b hb hs, rfl⟩⟩
  ·obtain ⟨x, hx, hob⟩ := h.mem.ob p mv h0
   exact ⟨wcy q .undef x, look' hx, wee h.mem.hlo hμ (fun _ _ => .undef) hS hob⟩
 ·obtain ⟨p0, mv0, a1, a2, a3⟩ := wct h1 h3
  obtain ⟨p1, mv1, b1, b2, b3⟩ := wct h2 h4
  have hpp := h.mem.dis p0 p1 mv0 mv1 b a1 b1 a2 b2
  have n1 := (wbu h1).1
  have n2 := (wbu h2).1
  rcases a3 with rfl | ⟨e1, e2⟩ <;> rcases b3 with rfl | ⟨f1, f2⟩
  ·exact hpp
  ·exact absurd (hpp.trans f1) n1
  ·exact absurd (hpp.symm.trans e1) n2
  ·rw [e2, f2]
 ·simp only [St.slot, St.swap, wap]
  have := wff (d := .undef) h.mem.hlo hμ (fun _ _ => .undef) hS (h.fr i)
  simp only [St.slot] at this
  cases hl : look s.fr i with
  | none => exact .undef
  | some v => rw [hl] at this; exact this
theorem wzq [Tabs] (hT : waj P tt) {s : St} (h : Rel P X lo N w0 s a w μ) {d o q ty rt e e2 b : Nat} {te t : Ty} {l l2 : List (List t.I)} (hdN : N.has d) (hty : tt ty = .sl e te b) (hte : te.size = 1) (hb0 : 0 < b)
  (hgo : s.g o = some (.rows e e2 t l none)) (hgq : s.g q = some (.rows e e2 t l2 none)) (hoq : o ≠ q) (hle : (l.length + l2.length) * b ≤ 140737488355328) {va x : Value} (ha : RelV P w lo μ (SS X μ) (.arr o) va) (hx : RelV P w lo μ (SS X μ) (.arr q) x) :
  ∃ v' w' μ', (Builtin.append_ #[ty, ty] rt #[va, x]).run P w = .ok v' w' ∧ Rel P X lo N w0 (wabj s d o q e e2 t (l ++ l2)) (a.put (some d) v') w' μ' := by
 have hd := hT ty
 rw [hty] at hd
 obtain ⟨hu, ⟨i, z, hi, hs, hby, hz, hzz⟩, _⟩ := hd
 have hzc : z.cells.size = te.size := by simpa using wbm hzz
 cases ha with
 | @arr _ _ a0 n0 c0 rs hds hμ =>
 cases hx with
 | @arr _ _ a1 n1 c1 rq hq1 hμq =>
 obtain ⟨y, hy, hyo⟩ := h.mem.ob _ _ hμ
 rw [hgo] at hy
 cases hy
 obtain ⟨hr, _⟩ := hyo
 obtain ⟨y, hy, hyo⟩ := h.mem.ob _ _ hμq
 rw [hgq] at hy
 cases hy
 obtain ⟨hrq, _⟩ := hyo
 have hlq := hrq.len
 have hlen := hr.len
 simp only at hlq hlen
 have hown := hr.own
 have hownq := hrq.own
 simp only at hown hownq
 rw [← hte] at hown
 have hnq : n1 = l2.length := by
  rcases hownq.2 with ⟨e0, e1⟩ | ⟨bq, capq, curq, evq, _⟩
  ·cases e0; exact e1.symm
  ·cases evq; rfl
 subst hnq
 have hone : ∀ u ∈ hq1, u.oneCell' = true := fun u hu => by
  obtain ⟨a2, n2, c2, rfl⟩ := hrq.slc u hu
  rfl
 obtain ⟨v', w', m1, m2, m3, m4, m5, m6, m7, m8, av, nv, cv, hv'⟩ := wcm (rt := rt) (c := c1) (ax := a1) (m := l2.length) hu hi hs hby hz hzc hown (news := hq1) (by rw [hte, hlq]; omega) (fun e => by
   subst e
   rcases hownq.2 with ⟨_, e1⟩ | ⟨bq, capq, curq, evq, _⟩
   ·exact e1
   ·cases evq)
  (fun ad e j u hu => by
   subst e
   rcases hownq.2 with ⟨e0, _⟩ | ⟨bq, capq, curq, evq, _⟩
   ·cases e0
   ·cases evq
    exact hownq.cells (g := bq) rfl j u hu) hone hle hb0
 rw [hte] at m2 hown
 -- the rows q go over
 have h1 := h.give (Ne.symm hoq) hgq
 have hμ1 : given μ q o q = some ⟨.slice a1 l2.length c1, rq ++ rs, hq1⟩ := by
  unfold given
  rw [if_neg (Ne.symm hoq), if_pos rfl, hμ, hμq]
  rfl
 have hdq : ∀ {k}, k ∈ rs → k ∈ rq → False := fun {k} k1 k2 => hoq (h.mem.dis o q _ _ k hμ hμq k1 k2)
 have hrootv : ∀ k, wu v' = some k → k ∈ rs ∨ w.heap.size ≤ k := fun k hk => (m8 k hk).imp (fun h => hr.top k h) id
 have hkept : Kept lo w w' := ⟨m3, m4, m5, m6, fun k hk => m7 k (h.mem.hlo k hk) fun e => (hr.low k (hr.top k e)).1 hk⟩
 have hrsI : ∀ k, k ∈ (wu v').toList ++ (rq ++ rs) → k ∈ rq ++ rs ∨ w.heap.size ≤ k := fun k hk => by
  rcases List.mem_append.1 hk with hk | hk
  ·exact (hrootv k (by simpa using hk)).imp (fun h => List.mem_append_right _ h) id
  ·exact .inl hk
 have hSg : ∀ k, SS X μ k → SS X (given μ q o) k := fun k hs => ⟨hs.1, fun p mv hp hb => by
  obtain ⟨p0, mv0, h1, h2, _⟩ := wct hp hb
  exact hs.2 p0 mv0 h1 h2⟩
 have hdata : ∀ k, k < w.heap.size → SS X (given μ q o) k → SS X (again (given μ q o) q ⟨v', (wu v').toList ++ (rq ++ rs), hds ++ hq1⟩) k ∧ w'.heap[k]? = w.heap[k]? := fun k hk hS => ⟨⟨hS.1, fun p' mv hp hkm => by
  rcases wag hp with ⟨rfl, rfl⟩ | ⟨_, hp⟩
  ·rcases hrsI k hkm with h' | h'
   ·exact hS.2 _ _ hμ1 h'
   ·omega
  ·exact hS.2 p' mv hp hkm⟩, m7 k hk fun e => hS.2 q _ hμ1 (List.mem_append_right _ (hr.top k e))⟩
 have hno : ∀ j, wcf none j := fun j i k hk => by cases hk
 have hnx : NxA P X lo (given μ q o) w q (.rows e e2 t (l ++ l2) none) w' ⟨v', (wu v').toList ++ (rq ++ rs), hds ++ hq1⟩ := by
  refine ⟨hkept, hdata, ⟨⟨?_, fun k hk => List.mem_append_left _ (by simp [show wu v' = some k from hk]), fun k hk => ?_, fun y hy => ?_, fun j y r hj hy hq => ?_, fun j k y z kb hj hk hy hz h3 h4 => ?_⟩, fun i' d' hd' => by cases hd'⟩, fun k hk => ?_, fun k hk hn => ?_⟩
  ·rw [List.length_append]
   exact m2
  ·rcases hrsI k hk with h' | h'
   ·rcases List.mem_append.1 h' with h' | h'
    ·exact ⟨(hrq.low k h').1, Nat.lt_of_lt_of_le (hrq.low k h').2 m6⟩
    ·exact ⟨(hr.low k h').1, Nat.lt_of_lt_of_le (hr.low k h').2 m6⟩
   ·refine ⟨fun hl => by have := h.mem.hlo k hl; omega, ?_⟩
    have hk' : wu v' = some k := by
     rcases List.mem_append.1 hk with hk | hk
     ·simpa using hk
     ·rcases List.mem_append.1 hk with hk | hk
      ·have := (hrq.low k hk).2; omega
      ·have := (hr.low k hk).2; omega
    rcases m2.2 with ⟨e1, _⟩ | ⟨gb, cap, cur, e1, _, hh, _⟩
    ·rw [e1] at hk'; simp [wu] at hk'
    ·rw [e1] at hk'
     simp only [wu, Option.some.injEq] at hk'
     subst hk'
     exact (Array.getElem?_eq_some_iff.1 hh).1
  ·rcases List.mem_append.1 hy with hy | hy
   ·exact hr.slc y hy
   ·exact hrq.slc y hy
  ·by_cases hj' : j < l.length
   ·simp only at hy
    rw [List.getElem?_append_left (by omega)] at hy hq
    obtain ⟨z1, ys, z2, z3⟩ := hr.row j y r (hno j) hy hq
    refine ⟨fun k hk => ⟨List.mem_append_right _ (List.mem_append_right _ (z1 k hk).1), fun hk2 => ?_⟩, ys, waf z2 fun k hk => m7 k (hr.low k (z1 k hk).1).2 (z1 k hk).2, z3.step fun k hk hs => hdata k hk (hSg k hs)⟩
    rcases m8 k hk2 with h' | h'
    ·exact (z1 k hk).2 h'
    ·have := (hr.low k (z1 k hk).1).2; omega
   ·simp only at hy
    rw [List.getElem?_append_right (by omega)] at hy hq
    rw [hlen] at hy
    obtain ⟨z1, ys, z2, z3⟩ := hrq.row (j - l.length) y r (hno _) hy hq
    have hva : ∀ k, k ∈ rq → wu (.slice a0 n0 c0) ≠ some k := fun k hk e => hdq (hr.top k e) hk
    refine ⟨fun k hk => ⟨List.mem_append_right _ (List.mem_append_left _ (z1 k hk).1), fun hk2 => ?_⟩, ys, waf z2 fun k hk => m7 k (hrq.low k (z1 k hk).1).2 (hva k (z1 k hk).1), z3.step fun k hk hs => hdata k hk (hSg k hs)⟩
    rcases hrootv k hk2 with h' | h'
    ·exact hdq h' (z1 k hk).1
    ·have := (hrq.low k (z1 k hk).1).2; omega
  ·simp only at hy hz
   have side : ∀ {j : Nat} {y : Value} {kb : Nat}, (hds ++ hq1)[j]? = some y → wu y = some kb → (j < l.length ∧ hds[j]? = some y ∧ kb ∈ rs) ∨ (l.length ≤ j ∧ hq1[j - l.length]? = some y ∧ kb ∈ rq) := fun {j y kb} hy h3 => by
    by_cases hj' : j < l.length
    ·rw [List.getElem?_append_left (by omega)] at hy
     obtain ⟨z1, _⟩ := hr.row j y (l[j]) (hno j) hy (by simp)
     exact .inl ⟨hj', hy, (z1 kb h3).1⟩
    ·rw [List.getElem?_append_right (by omega), hlen] at hy
     have hj2 : j - l.length < l2.length := by
      have := (List.getElem?_eq_some_iff.1 hy).1
      omega
     obtain ⟨z1, _⟩ := hrq.row (j - l.length) y (l2[j - l.length]) (hno _) hy (by simp)
     exact .inr ⟨by omega, hy, (z1 kb h3).1⟩
   rcases side hy h3 with ⟨s1, s2, s3⟩ | ⟨s1, s2, s3⟩ <;> rcases side hz h4 with ⟨t1, t2, t3⟩ | ⟨t1, t2, t3⟩
   ·exact hr.apart j k y z kb (hno j) (hno k) s2 t2 h3 h4
   ·exact (hdq s3 t3).elim
   ·exact (hdq t3 s3).elim
   ·have := hrq.apart _ _ y z kb (hno _) (hno _) s2 t2 h3 h4
    omega
  ·rcases hrsI k hk with h' | h'
   ·exact .inl ⟨_, hμ1, h'⟩
   ·exact .inr h'
  ·exact m7 k hk fun e => hn _ hμ1 (List.mem_append_right _ (hr.top k e))
 have h2 := h1.appd hnx
 have h3 := h2.put (d := d) hdN (v := .arr q) (x := v') (by rw [hv']; exact .arr (rs := (wu v').toList ++ (rq ++ rs)) (hs := hds ++ hq1) (by rw [wao, hv']))
 exact ⟨v', w', _, m1, h3⟩
theorem woe [Tabs] (hT : waj P tt) {s s' : St} (h : Rel P X lo N w0 s a w μ) {d ty ty' rt : Nat} (hdN : N.has d) {xv yv : AV} {r : Tr St} (hr : wpb tt ty ty' d xv yv s = some r) (hq : r.ev = some s') {va x : Value} (ha : RelV P w lo μ (SS X μ) xv va) (hx : RelV P w lo μ (SS X μ) yv x) :
  ty = ty' ∧ ∃ v' w' μ', (Builtin.append_ #[ty, ty] rt #[va, x]).run P w = .ok v' w' ∧ Rel P X lo N w0 s' (a.put (some d) v') w' μ' := by
 unfold wpb at hr
 split at hr
 ·rename_i q
  split at hr
  next eq e4 t' lq hh hgq =>
   split at hr
   next p =>
    split at hr
    next r0 =>
     simp only [Option.some.injEq] at hr
     subst hr
     split at hq
     next e te b o hty =>
       split at hq
       next e1 e2 t l hgo =>
         split at hq
         next hc =>
           obtain ⟨rfl, rfl, rfl, c4, c5, c6, c7, c8⟩ := hc
           obtain ⟨hle, hq⟩ := ev_g hq
           simp only [decide_eq_true_eq] at hle
           simp only [Tr.ev_l, Option.some.injEq] at hq
           subst hq
           exact ⟨rfl, wre hT h hdN hty c4 c5 hgo hgq rfl c6 c7 c8 hle ha hx⟩
         next => cases hq
       next => cases hq
     next e te b hty =>
       split at hq
       next e2 t b2 hte hgd =>
         split at hq
         next hc =>
           obtain ⟨rfl, rfl, c3, c4, c5, c6, c7⟩ := hc
           obtain ⟨hle, hq⟩ := ev_g hq
           simp only [decide_eq_true_eq] at hle
           simp only [Tr.ev_l, Option.some.injEq] at hq
           subst hq
           have h0 := wfv h (d := d) (e := eq) (e2 := e2) (t := t) hgd
           cases ha
           have hμd : μ d = none := by
             cases hm : μ d with
             | none => rfl
             | some mv => obtain ⟨y, hy, _⟩ := h.mem.ob d mv hm; rw [hgd] at hy; cases hy
           cases hx with
           | @arr _ _ a1 n1 c1 rq hq1 hμq =>
             have hqd : q ≠ d := Ne.symm c5
             refine ⟨rfl, wre hT h0 hdN hty c3 c4 (by simp [St.g, look]) (by simp only [St.g, look, wal c5]; exact hgq) rfl c5 c6 c7 hle (.arr (rs := []) (hs := []) wao) (.arr (wdg hqd hμq))⟩
         next => cases hq
       next => cases hq
     next => cases hq
    next => cases hr
   next =>
    split at hr
    next e te b o hty =>
      split at hr
      next e1 e2 t l hgo =>
        simp only [Option.some.injEq] at hr
        subst hr
        split at hq
        next l2 hcast =>
          obtain ⟨et, hl'⟩ := Ty.cast_spec hcast
          cases et
          have hl' : l2 = lq := hl'
          subst hl'
          split at hq
          next hc =>
            obtain ⟨rfl, rfl, rfl, rfl, c5, c6, c7⟩ := hc
            obtain ⟨hle, hq⟩ := ev_g hq
            simp only [decide_eq_true_eq] at hle
            simp only [Tr.ev_l, Option.some.injEq] at hq
            subst hq
            exact ⟨rfl, wzq hT h hdN hty c5 c6 hgo hgq c7 hle ha hx⟩
          next => cases hq
        next => cases hq
      next => cases hr
    next => cases hr
   next => cases hr
  next => cases hr
 ·cases hr
end
end Go.Proofs.Ytnagpmhaddfgmaa
