/-
  The laws of potentials and of proofs of plans.
-/
import Derived.Test.YtlmbhkmaflhagaaGreatP24
import Derived.Test.YtlmbhkmaflhagaaGreatP7
namespace Go.Proofs.YtlmbhkmaflhagaaGreat
def arePot (o c k : List Int) (rs : List (List (List Int))) (tb : List (List Int)) : Bool × Bool := bif seasonB o c k rs then (tabB o rs tb && safeB o c k rs tb, true) else (false, false)
theorem sp_ArePotentials_eq {o c k : List Int} {rs : List (List (List Int))} {tb : List (List Int)} (ho : Low1 o) (hc : Low1 c) (hk : Low1 k) (hr : Low3 rs) (ht : Low2 tb) : F_zbo o c k rs tb = some (arePot o c k rs tb) := by
  unfold F_zbo T_zbo arePot
  simp (disch := omega) only [EV, l10Good_eq ho hc hk hr]
  cases hs : seasonB o c k rs with
  | false => rfl
  | true =>
    have h := ssn_of hs
    simp (disch := omega) only [EV, l10Table_eq h ht]
    cases htb : tabB o rs tb with
    | false => rfl
    | true => simp (disch := omega) only [EV, l10Safe_eq h (setsOK h.n1 (by have := h.n5; omega)) (tab_of htb)]
theorem im_ArePotentials_eq {o c k : List Int} {rs : List (List (List Int))} {tb : List (List Int)} (ho : Low1 o) (hc : Low1 c) (hk : Low1 k) (hr : Low3 rs) (ht : Low2 tb) : F_zd o c k rs tb = some (arePot o c k rs tb) := by
  unfold F_zd T_zd arePot
  simp (disch := omega) only [EV, IsSeason_eq ho hc hk hr]
  cases hs : seasonB o c k rs with
  | false => rfl
  | true =>
    have h := ssn_of hs
    simp (disch := omega) only [EV, arePotentials_eq h (setsOK h.n1 (by have := h.n5; omega)) ht]
def planB (o : List Int) (rs : List (List (List Int))) (p : List (List Int)) : Bool := decide (p.length = rs.length) && (List.range rs.length).all fun r => mayB o rs r (p.getD r [])
theorem l10Plan_eq {o c k : List Int} {rs : List (List (List Int))} (h : Ssn o c k rs) {p : List (List Int)} (hp : Low2 p) : F_zbz o c k rs p = some (planB o rs p) := by
  have hl := hp.1
  have hR := h.R
  have h0 := iter_allR (f := fun v => (S_zbz_0 (p, (o, (c, (k, rs)))) v).ev) (n := min p.length rs.length) (mk := fun i => (i : Int)) (p := fun r => mayB o rs r (p.getD r [])) (yes := .inl ()) (no := .inr ()) (fun r hr _ => by
    have h1 : r < p.length := by omega
    have h2 : r < rs.length := by omega
    simp (disch := omega) only [EV, S_zbz_0, h1, h2, l10May_eq h h2 (hp.2 _ (getD_mem (d := []) h1))]
    cases mayB o rs r (p.getD r []) <;> rfl) (by
    by_cases h1 : min p.length rs.length < p.length
    · have h2 : ¬ min p.length rs.length < rs.length := by omega
      simp (disch := omega) only [EV, S_zbz_0, h1, h2]
    · simp (disch := omega) only [EV, S_zbz_0, h1])
  have h0' : L_zbz_0 (p, (o, (c, (k, rs)))) 0 = _ := h0
  unfold F_zbz T_zbz planB
  simp (disch := omega) only [EV, h0', int_eq]
  by_cases hq : p.length = rs.length
  · rw [hq, Nat.min_self, decide_eq_true (show rs.length = rs.length from rfl)]
    cases (List.range rs.length).all fun r => mayB o rs r (p.getD r []) <;> rfl
  · simp (disch := omega) only [EV, hq]
    cases (List.range (min p.length rs.length)).all fun r => mayB o rs r (p.getD r []) <;> rfl
theorem isPlan_eq {o c k : List Int} {rs : List (List (List Int))} (h : Ssn o c k rs) {p : List (List Int)} (hp : Low2 p) : F_zz o c k rs p = some (planB o rs p) := by
  have hl := hp.1
  have hR := h.R
  unfold F_zz T_zz planB
  by_cases hq : p.length = rs.length
  · have h0 := iter_allR (f := fun v => (S_zz_0 (p, ((p.length : Int), (o, (c, (k, rs))))) v).ev) (n := rs.length) (mk := fun i => (i : Int)) (p := fun r => mayB o rs r (p.getD r [])) (yes := .inl ()) (no := .inr ()) (fun r hr _ => by
      have h1 : r < p.length := by omega
      simp (disch := omega) only [EV, S_zz_0, h1, isPossible_eq h hr (hp.2 _ (getD_mem (d := []) h1))]
      cases mayB o rs r (p.getD r []) <;> rfl) (by
      have h1 : ¬ rs.length < p.length := by omega
      simp (disch := omega) only [EV, S_zz_0, h1])
    have h0' : L_zz_0 (p, ((p.length : Int), (o, (c, (k, rs))))) 0 = _ := h0
    have e : ((p.length : Int) != (rs.length : Int)) = false := by simp [hq]
    simp (disch := omega) only [EV, e, h0', decide_eq_true hq]
    cases (List.range rs.length).all fun r => mayB o rs r (p.getD r []) <;> rfl
  · simp (disch := omega) only [EV, int_ne, hq]
def mvStep (o c k : List Int) (rs : List (List (List Int))) (p : List (List Int)) (s : List Int × List Int) (r : Nat) : List Int × List Int := (p.getD r [], s.2 ++ [mv o c k rs r s.1 (p.getD r [])])
def movesOf (o c k : List Int) (rs : List (List (List Int))) (p : List (List Int)) : List Int := ((List.range p.length).foldl (mvStep o c k rs p) ([], [])).2
structure IsPl (o c k : List Int) (rs : List (List (List Int))) (p : List (List Int)) : Prop where
  len : p.length = rs.length
  may : ∀ r, r < rs.length → mayB o rs r (p.getD r []) = true
theorem isPl_of {o c k : List Int} {rs : List (List (List Int))} {p : List (List Int)} (h : planB o rs p = true) : IsPl o c k rs p := by
  simp only [planB, Bool.and_eq_true, decide_eq_true_eq, List.all_eq_true, List.mem_range] at h
  exact ⟨h.1, h.2⟩
def MI (n : Nat) (i : Nat) (s : List Int × List Int) : Prop := s.1 ∈ allSets n ∧ s.2.length = i ∧ ∀ x ∈ s.2, 0 ≤ x ∧ x ≤ 2178
theorem MI.step {o c k : List Int} {rs : List (List (List Int))} (h : Ssn o c k rs) (hS : SetsOK o.length) {p : List (List Int)} (hP : IsPl o c k rs p) {r : Nat} (hr : r < p.length) {s : List Int × List Int} (hI : MI o.length r s) : MI o.length (r + 1) (mvStep o c k rs p s r) ∧ p.getD r [] ∈ allSets o.length := by
  have hr' : r < rs.length := by rw [← hP.len]; exact hr
  have hm := hP.may r hr'
  simp only [mayB, Bool.and_eq_true] at hm
  have hmem := hS.mem _ hm.1
  refine ⟨⟨hmem, by simp [mvStep, hI.2.1], fun x hx => ?_⟩, hmem⟩
  simp only [mvStep, List.mem_append, List.mem_singleton] at hx
  rcases hx with hx | rfl
  · exact hI.2.2 x hx
  · exact mv_in h hS hr' s.1 hmem
theorem l10Moves_eq {o c k : List Int} {rs : List (List (List Int))} (h : Ssn o c k rs) (hS : SetsOK o.length) {p : List (List Int)} (hP : IsPl o c k rs p) : F_zby o c k rs p = some (movesOf o c k rs p) ∧ (movesOf o c k rs p).length = p.length ∧ ∀ x ∈ movesOf o c k rs p, 0 ≤ x ∧ x ≤ 2178 := by
  have hR := h.R
  have hl := hP.len
  have h0 := iter_fold (f := fun v => (S_zby_0 (p, (o, (c, (k, rs)))) v).ev) (n := p.length) (mk := fun i s => (s.1, ((i : Int), s.2))) (I := MI o.length) (g := mvStep o c k rs p) (fin := fun s => s.2) (s0 := ([], [])) ⟨List.mem_cons_self, rfl, fun x hx => by cases hx⟩
    (fun r s hr hI => by
      obtain ⟨h1, h2⟩ := hI.step h hS hP hr
      have hr' : r < rs.length := by omega
      have hg : (s.2.length + 1) * 8 ≤ 140737488355328 := by have := hI.2.1; omega
      refine ⟨?_, h1⟩
      simp (disch := omega) only [EV, S_zby_0, hr, l10Move_eq h hS hr' hI.1 h2 (hP.may r hr'), List.length_singleton, hg]
      rfl)
    (fun s _ => by simp (disch := omega) only [EV, S_zby_0, Nat.lt_irrefl])
  have h0' : L_zby_0 (p, (o, (c, (k, rs)))) ([], ((0 : Int), [])) = some (movesOf o c k rs p) := h0.1
  unfold F_zby T_zby
  simp (disch := omega) only [EV, h0']
  exact ⟨trivial, h0.2.2.1, h0.2.2.2⟩
theorem moves_eq {o c k : List Int} {rs : List (List (List Int))} (h : Ssn o c k rs) (hS : SetsOK o.length) {p : List (List Int)} (hP : IsPl o c k rs p) : F_zac o c k rs p = some (movesOf o c k rs p) := by
  have hR := h.R
  have hl := hP.len
  have h0 := iter_fold (f := fun v => (S_zac_0 (p, ((p.length : Int), (o, (c, (k, rs))))) v).ev) (n := p.length) (mk := fun i s => (s.1, ((i : Int), s.2))) (I := MI o.length) (g := mvStep o c k rs p) (fin := fun s => s.2) (s0 := ([], [])) ⟨List.mem_cons_self, rfl, fun x hx => by cases hx⟩
    (fun r s hr hI => by
      obtain ⟨h1, h2⟩ := hI.step h hS hP hr
      have hr' : r < rs.length := by omega
      have hg : (s.2.length + 1) * 8 ≤ 140737488355328 := by have := hI.2.1; omega
      refine ⟨?_, h1⟩
      simp (disch := omega) only [EV, S_zac_0, hr, move_eq h hS hr' hI.1 h2, List.length_singleton, hg]
      rfl)
    (fun s _ => by simp (disch := omega) only [EV, S_zac_0, Nat.lt_irrefl])
  have h0' : L_zac_0 (p, ((p.length : Int), (o, (c, (k, rs))))) ([], ((0 : Int), [])) = some (movesOf o c k rs p) := h0.1
  unfold F_zac T_zac
  simp (disch := omega) only [EV, h0']
theorem l10Sum_eq {l : List Int} (hl : l.length ≤ 5) (h : ∀ x ∈ l, 0 ≤ x ∧ x ≤ 2178) : F_zcc l = some (l.foldl (fun a x => a + x) 0) := by
  unfold F_zcc T_zcc
  have h0 := (iter_foldl (f := fun v => (S_zcc_0 l v).ev) l 0 (mk := fun i s => (s, (i : Int))) (I := fun i s => 0 ≤ s ∧ s ≤ 2178 * (i : Int)) (g := fun a x => a + x) (fin := fun s => s) (s0 := 0) (by omega)
    (fun i s hi hI => by
      have := h _ (getD_mem (d := 0) hi)
      exact ⟨by simp (disch := omega) only [EV, S_zcc_0, hi]; rfl, by omega, by omega⟩)
    (fun s _ => by simp (disch := omega) only [EV, S_zcc_0, Nat.lt_irrefl])).1
  have h0' : L_zcc_0 l ((0 : Int), (0 : Int)) = _ := h0
  simp (disch := omega) only [EV, h0']
def proofOf (o c k : List Int) (rs : List (List (List Int))) (p tb : List (List Int)) : Bool × Bool :=
  bif seasonB o c k rs && planB o rs p then (tabB o rs tb && (safeB o c k rs tb && (((tb.getD 0 []).getD 0 0) == (movesOf o c k rs p).foldl (fun a x => a + x) 0)), true) else (false, false)
theorem first_in {o : List Int} {rs : List (List (List Int))} {tb : List (List Int)} (h : Tab o rs tb) : 0 < tb.length ∧ 0 < (tb.getD 0 []).length := by
  have h1 := h.row 0 (by omega)
  have h2 := h.len
  have h3 : 0 < 2 ^ o.length := Nat.pos_of_ne_zero (by simp)
  omega
theorem sp_PlanProof_eq {o c k : List Int} {rs : List (List (List Int))} {p tb : List (List Int)} (ho : Low1 o) (hc : Low1 c) (hk : Low1 k) (hr : Low3 rs) (hp : Low2 p) (ht : Low2 tb) : F_zbr o c k rs p tb = some (proofOf o c k rs p tb) := by
  unfold F_zbr T_zbr proofOf
  simp (disch := omega) only [EV, l10Good_eq ho hc hk hr]
  cases hs : seasonB o c k rs with
  | false => rfl
  | true =>
    have h := ssn_of hs
    have h5 := h.n5
    have hS := setsOK h.n1 (by omega)
    simp (disch := omega) only [EV, l10Plan_eq h hp]
    cases hpl : planB o rs p with
    | false => rfl
    | true =>
      have hP := isPl_of (c := c) (k := k) hpl
      simp (disch := omega) only [EV, l10Table_eq h ht]
      cases htb : tabB o rs tb with
      | false => rfl
      | true =>
        have hT := tab_of htb
        obtain ⟨f1, f2⟩ := first_in hT
        obtain ⟨m1, m2, m3⟩ := l10Moves_eq h hS hP
        simp (disch := omega) only [EV, l10Safe_eq h hS hT]
        cases safeB o c k rs tb with
        | false => rfl
        | true => simp (disch := omega) only [EV, show inR (0 : Int) tb.length = true from inR_int (by omega) (by omega), show Int.toNat 0 = 0 from rfl, show inR (0 : Int) (tb.getD 0 []).length = true from inR_int (by omega) (by omega), m1, l10Sum_eq (by rw [m2, hP.len]; exact h.R) m3]
theorem im_PlanProof_eq {o c k : List Int} {rs : List (List (List Int))} {p tb : List (List Int)} (ho : Low1 o) (hc : Low1 c) (hk : Low1 k) (hr : Low3 rs) (hp : Low2 p) (ht : Low2 tb) : F_zs o c k rs p tb = some (proofOf o c k rs p tb) := by
  unfold F_zs T_zs F_zq T_zq F_zr T_zr F_zm T_zm proofOf
  have hs0 : F_zao [] = some 0 := by
    have := im_sum_eq (l := []) (B := 0) (by simp) (by simp) (fun a h => by cases h)
    exact this
  simp (disch := omega) only [EV, IsSeason_eq ho hc hk hr]
  cases hs : seasonB o c k rs with
  | false => simp (disch := omega) only [EV, hs0]
  | true =>
    have h := ssn_of hs
    have h5 := h.n5
    have hS := setsOK h.n1 (by omega)
    simp (disch := omega) only [EV, isPlan_eq h hp]
    cases hpl : planB o rs p with
    | false => simp (disch := omega) only [EV, hs0]
    | true =>
      have hP := isPl_of (c := c) (k := k) hpl
      obtain ⟨_, m2, m3⟩ := l10Moves_eq h hS hP
      have hR := h.R
      have hml : (movesOf o c k rs p).length ≤ 5 := by rw [m2, hP.len]; exact h.R
      simp (disch := omega) only [EV, moves_eq h hS hP, im_sum_eq (l := movesOf o c k rs p) (B := 2178) (by omega) (by omega) m3, arePotentials_eq h hS ht]
      cases htb : tabB o rs tb with
      | false => rfl
      | true =>
        have hT := tab_of htb
        obtain ⟨f1, f2⟩ := first_in hT
        cases safeB o c k rs tb with
        | false => rfl
        | true => simp (disch := omega) only [EV, show inR (0 : Int) tb.length = true from inR_int (by omega) (by omega), show Int.toNat 0 = 0 from rfl, show inR (0 : Int) (tb.getD 0 []).length = true from inR_int (by omega) (by omega)]
end Go.Proofs.YtlmbhkmaflhagaaGreat
