/-
  The laws of least costs: the best plan's cost, the costs from each round on.
-/
import Derived.Test.YtlmbhkmaflhagaaP26
import Derived.Test.YtlmbhkmaflhagaaP7
namespace Go.Proofs.Ytlmbhkmaflhagaa

abbrev tL3 : Ty := .slice tLL
theorem fitS {x : List (List (List Int))} (h : Fit tL3 x) : Fit3 x := by
  have := maxLen_lt h.1
  exact ⟨by omega, fun r hr => fit2 (h.2 r hr)⟩
theorem sets_of {o c k : List Int} {rs : List (List (List Int))} (h : Ssn o c k rs) : SetsOK o.length := setsOK h.n1 (by have := h.n5; omega)
theorem row_low {n : Nat} (h7 : n ≤ 7) {M : Int} {row : List Int} (h : RowOK n M row) : Low1 row := by
  have h1 := h.len
  have h2 := pow_le h7
  unfold Low1
  omega
theorem futs_low {o c k : List Int} {rs : List (List (List Int))} (h : Ssn o c k rs) : Low2 (futs o c k rs) := by
  have hS := sets_of h
  have hF := futs_Fut h hS
  have hR := h.R
  have h5 := h.n5
  have hl := hF.len
  refine ⟨by omega, fun r hr => ?_⟩
  obtain ⟨j, hj, e⟩ := List.getElem_of_mem hr
  have := hF.ok j (by omega)
  rw [List.getD_eq_getElem?_getD, List.getElem?_eq_getElem hj, Option.getD_some, e] at this
  exact row_low (by omega) this

def bestCost (o c k : List Int) (rs : List (List (List Int))) : Int × Bool := bif seasonB o c k rs then (((futs o c k rs).getD 0 []).getD 0 0, true) else (0, false)
theorem sp_BestPlanCost_eq {o c k : List Int} {rs : List (List (List Int))} (ho : Low1 o) (hc : Low1 c) (hk : Low1 k) (hr : Low3 rs) : F_sp_BestPlanCost o c k rs = some (bestCost o c k rs) := by
  unfold F_sp_BestPlanCost T_sp_BestPlanCost bestCost
  simp (disch := omega) only [EV, l10Good_eq ho hc hk hr]
  cases hs : seasonB o c k rs with
  | false => rfl
  | true =>
    have h := ssn_of hs
    have hF := futs_Fut h (sets_of h)
    have hl := hF.len
    have h5 := h.n5
    have hp := pow_le (n := o.length) (by omega)
    have hl0 := (hF.ok 0 (by omega)).len
    simp (disch := omega) only [EV, (l10Future_eq h (sets_of h)).1, show inR (0 : Int) (futs o c k rs).length = true from inR_int (by omega) (by omega), show Int.toNat 0 = 0 from rfl, hl0, show inR (0 : Int) (2 ^ o.length) = true from inR_int (by omega) (by omega)]
theorem im_BestPlanCost_eq {o c k : List Int} {rs : List (List (List Int))} (ho : Low1 o) (hc : Low1 c) (hk : Low1 k) (hr : Low3 rs) : F_im_BestPlanCost o c k rs = some (bestCost o c k rs) := by
  unfold F_im_BestPlanCost T_im_BestPlanCost bestCost
  simp (disch := omega) only [EV, IsSeason_eq ho hc hk hr]
  cases hs : seasonB o c k rs with
  | false => rfl
  | true =>
    have h := ssn_of hs
    have hF := futs_Fut h (sets_of h)
    have hl := hF.len
    have h5 := h.n5
    have hp := pow_le (n := o.length) (by omega)
    have hl0 := (hF.ok 0 (by omega)).len
    simp (disch := omega) only [EV, future_eq h (sets_of h), show inR (0 : Int) (futs o c k rs).length = true from inR_int (by omega) (by omega), show Int.toNat 0 = 0 from rfl, show 0 < (futs o c k rs).length by omega, hl0, show inR (0 : Int) (2 ^ o.length) = true from inR_int (by omega) (by omega), show 0 < 2 ^ o.length by omega]
theorem law_BestPlanCost (o c k : List Int) (rs : List (List (List Int))) (ho : Fit tL o) (hc : Fit tL c) (hk : Fit tL k) (hr : Fit tL3 rs) : F_lw_FnExactBestPlanCost o c k rs = some true := by
  unfold F_lw_FnExactBestPlanCost T_lw_FnExactBestPlanCost
  obtain ⟨x, e1, b1, k1⟩ := szSeason_sz (fit1 ho) (fit1 hc) (fit1 hk) (fitS hr) (b := 1048576) (by omega) (by omega)
  simp (disch := omega) only [EV, e1]
  by_cases hx : x < 0
  · simp (disch := omega) only [EV, hx]
  · obtain ⟨h1, h2, h3, h4⟩ := k1 (by omega)
    simp (disch := omega) only [EV, hx, toSeason_eq h1 h2 h3 h4, sp_BestPlanCost_eq h1 h2 h3 h4, im_BestPlanCost_eq h1 h2 h3 h4, beq_self_eq_true, bne_self_eq_false, eqSeason_self h1 h2 h3 h4]
end Go.Proofs.Ytlmbhkmaflhagaa
