/-
  The laws of potentials and of proofs of plans.
-/
import Derived.Test.YtlmbhkmaflhagaaGreatP24
import Derived.Test.YtlmbhkmaflhagaaGreatP7
namespace Go.Proofs.YtlmbhkmaflhagaaGreat
def planB (o : List Int) (rs : List (List (List Int))) (p : List (List Int)) : Bool := decide (p.length = rs.length) && (List.range rs.length).all fun r => mayB o rs r (p.getD r [])
theorem l10Plan_eq {o c k : List Int} {rs : List (List (List Int))} (h : Ssn o c k rs) {p : List (List Int)} (hp : Low2 p) : F_zci o c k rs p = some (planB o rs p) := by
  have hl := hp.1
  have hR := h.R
  have h0 := iter_allR (f := fun v => (S_zci_0 (p, (o, (c, (k, rs)))) v).ev) (n := min p.length rs.length) (mk := fun i => (i : Int)) (p := fun r => mayB o rs r (p.getD r [])) (yes := .inl ()) (no := .inr ()) (fun r hr _ => by
    have h1 : r < p.length := by omega
    have h2 : r < rs.length := by omega
    simp (disch := omega) only [EV, S_zci_0, h1, h2, l10May_eq h h2 (hp.2 _ (getD_mem (d := []) h1))]
    cases mayB o rs r (p.getD r []) <;> rfl) (by
    by_cases h1 : min p.length rs.length < p.length
    · have h2 : ¬ min p.length rs.length < rs.length := by omega
      simp (disch := omega) only [EV, S_zci_0, h1, h2]
    · simp (disch := omega) only [EV, S_zci_0, h1])
  have h0' : L_zci_0 (p, (o, (c, (k, rs)))) 0 = _ := h0
  unfold F_zci T_zci planB
  simp (disch := omega) only [EV, h0', int_eq]
  by_cases hq : p.length = rs.length
  · rw [hq, Nat.min_self, decide_eq_true (show rs.length = rs.length from rfl)]
    cases (List.range rs.length).all fun r => mayB o rs r (p.getD r []) <;> rfl
  · simp (disch := omega) only [EV, hq]
    cases (List.range (min p.length rs.length)).all fun r => mayB o rs r (p.getD r []) <;> rfl
theorem isPlan_eq {o c k : List Int} {rs : List (List (List Int))} (h : Ssn o c k rs) {p : List (List Int)} (hp : Low2 p) : F_zx o c k rs p = some (planB o rs p) := by
  have hl := hp.1
  have hR := h.R
  unfold F_zx T_zx planB
  by_cases hq : p.length = rs.length
  · have h0 := iter_allR (f := fun v => (S_zx_0 (p, ((p.length : Int), (o, (c, (k, rs))))) v).ev) (n := rs.length) (mk := fun i => (i : Int)) (p := fun r => mayB o rs r (p.getD r [])) (yes := .inl ()) (no := .inr ()) (fun r hr _ => by
      have h1 : r < p.length := by omega
      simp (disch := omega) only [EV, S_zx_0, h1, isPossible_eq h hr (hp.2 _ (getD_mem (d := []) h1))]
      cases mayB o rs r (p.getD r []) <;> rfl) (by
      have h1 : ¬ rs.length < p.length := by omega
      simp (disch := omega) only [EV, S_zx_0, h1])
    have h0' : L_zx_0 (p, ((p.length : Int), (o, (c, (k, rs))))) 0 = _ := h0
    have e : ((p.length : Int) != (rs.length : Int)) = false := by simp [hq]
    simp (disch := omega) only [EV, e, h0', decide_eq_true hq]
    cases (List.range rs.length).all fun r => mayB o rs r (p.getD r []) <;> rfl
  · simp (disch := omega) only [EV, int_ne, hq]
def mvStep (o c k : List Int) (rs : List (List (List Int))) (p : List (List Int)) (s : List Int × List Int) (r : Nat) : List Int × List Int := (p.getD r [], s.2 ++ [mv o c k rs r s.1 (p.getD r [])])
def movesOf (o c k : List Int) (rs : List (List (List Int))) (p : List (List Int)) : List Int := ((List.range p.length).foldl (mvStep o c k rs p) ([], [])).2
structure IsPl (o c k : List Int) (rs : List (List (List Int))) (p : List (List Int)) : Prop where
  len : p.length = rs.length
  may : ∀ r, r < rs.length → mayB o rs r (p.getD r []) = true
theorem isPl_of {o c k : List Int} {rs : List (List (List Int))} {p : List (List Int)} (h : planB o rs p = true) : IsPl o c k rs p := by
  simp only [planB, Bool.and_eq_true, decide_eq_true_eq, List.all_eq_true, List.mem_range] at h
  exact ⟨h.1, h.2⟩
def MI (n : Nat) (i : Nat) (s : List Int × List Int) : Prop := s.1 ∈ allSets n ∧ s.2.length = i ∧ ∀ x ∈ s.2, 0 ≤ x ∧ x ≤ 2178
theorem MI.step {o c k : List Int} {rs : List (List (List Int))} (h : Ssn o c k rs) (hS : SetsOK o.length) {p : List (List Int)} (hP : IsPl o c k rs p) {r : Nat} (hr : r < p.length) {s : List Int × List Int} (hI : MI o.length r s) : MI o.length (r + 1) (mvStep o c k rs p s r) ∧ p.getD r [] ∈ allSets o.length := by
  have hr' : r < rs.length := by rw [← hP.len]; exact hr
  have hm := hP.may r hr'
  simp only [mayB, Bool.and_eq_true] at hm
  have hmem := hS.mem _ hm.1
  refine ⟨⟨hmem, by simp [mvStep, hI.2.1], fun x hx => ?_⟩, hmem⟩
  simp only [mvStep, List.mem_append, List.mem_singleton] at hx
  rcases hx with hx | rfl
  · exact hI.2.2 x hx
  · exact mv_in h hS hr' s.1 hmem
theorem l10Moves_eq {o c k : List Int} {rs : List (List (List Int))} (h : Ssn o c k rs) (hS : SetsOK o.length) {p : List (List Int)} (hP : IsPl o c k rs p) : F_zch o c k rs p = some (movesOf o c k rs p) ∧ (movesOf o c k rs p).length = p.length ∧ ∀ x ∈ movesOf o c k rs p, 0 ≤ x ∧ x ≤ 2178 := by
  have hR := h.R
  have hl := hP.len
  have h0 := iter_fold (f := fun v => (S_zch_0 (p, (o, (c, (k, rs)))) v).ev) (n := p.length) (mk := fun i s => (s.1, ((i : Int), s.2))) (I := MI o.length) (g := mvStep o c k rs p) (fin := fun s => s.2) (s0 := ([], [])) ⟨List.mem_cons_self, rfl, fun x hx => by cases hx⟩
    (fun r s hr hI => by
      obtain ⟨h1, h2⟩ := hI.step h hS hP hr
      have hr' : r < rs.length := by omega
      have hg : (s.2.length + 1) * 8 ≤ 140737488355328 := by have := hI.2.1; omega
      refine ⟨?_, h1⟩
      simp (disch := omega) only [EV, S_zch_0, hr, l10Move_eq h hS hr' hI.1 h2 (hP.may r hr'), List.length_singleton, hg]
      rfl)
    (fun s _ => by simp (disch := omega) only [EV, S_zch_0, Nat.lt_irrefl])
  have h0' : L_zch_0 (p, (o, (c, (k, rs)))) ([], ((0 : Int), [])) = some (movesOf o c k rs p) := h0.1
  unfold F_zch T_zch
  simp (disch := omega) only [EV, h0']
  exact ⟨trivial, h0.2.2.1, h0.2.2.2⟩
theorem moves_eq {o c k : List Int} {rs : List (List (List Int))} (h : Ssn o c k rs) (hS : SetsOK o.length) {p : List (List Int)} (hP : IsPl o c k rs p) : F_zaa o c k rs p = some (movesOf o c k rs p) := by
  have hR := h.R
  have hl := hP.len
  have h0 := iter_fold (f := fun v => (S_zaa_0 (p, ((p.length : Int), (o, (c, (k, rs))))) v).ev) (n := p.length) (mk := fun i s => (s.1, ((i : Int), s.2))) (I := MI o.length) (g := mvStep o c k rs p) (fin := fun s => s.2) (s0 := ([], [])) ⟨List.mem_cons_self, rfl, fun x hx => by cases hx⟩
    (fun r s hr hI => by
      obtain ⟨h1, h2⟩ := hI.step h hS hP hr
      have hr' : r < rs.length := by omega
      have hg : (s.2.length + 1) * 8 ≤ 140737488355328 := by have := hI.2.1; omega
      refine ⟨?_, h1⟩
      simp (disch := omega) only [EV, S_zaa_0, hr, move_eq h hS hr' hI.1 h2, List.length_singleton, hg]
      rfl)
    (fun s _ => by simp (disch := omega) only [EV, S_zaa_0, Nat.lt_irrefl])
  have h0' : L_zaa_0 (p, ((p.length : Int), (o, (c, (k, rs))))) ([], ((0 : Int), [])) = some (movesOf o c k rs p) := h0.1
  unfold F_zaa T_zaa
  simp (disch := omega) only [EV, h0']
theorem l10Sum_eq {l : List Int} (hl : l.length ≤ 5) (h : ∀ x ∈ l, 0 ≤ x ∧ x ≤ 2178) : F_zcl l = some (l.foldl (fun a x => a + x) 0) := by
  unfold F_zcl T_zcl
  have h0 := (iter_foldl (f := fun v => (S_zcl_0 l v).ev) l 0 (mk := fun i s => (s, (i : Int))) (I := fun i s => 0 ≤ s ∧ s ≤ 2178 * (i : Int)) (g := fun a x => a + x) (fin := fun s => s) (s0 := 0) (by omega)
    (fun i s hi hI => by
      have := h _ (getD_mem (d := 0) hi)
      exact ⟨by simp (disch := omega) only [EV, S_zcl_0, hi]; rfl, by omega, by omega⟩)
    (fun s _ => by simp (disch := omega) only [EV, S_zcl_0, Nat.lt_irrefl])).1
  have h0' : L_zcl_0 l ((0 : Int), (0 : Int)) = _ := h0
  simp (disch := omega) only [EV, h0']
end Go.Proofs.YtlmbhkmaflhagaaGreat
