/-
  The laws of least costs: the best plan's cost, the costs from each round on.
-/
import Derived.Test.YtlmbhkmaflhagaaGreatP25
import Derived.Test.YtlmbhkmaflhagaaGreatP26
import Derived.Test.YtlmbhkmaflhagaaGreatP7
namespace Go.Proofs.YtlmbhkmaflhagaaGreat
theorem sets_of {o c k : List Int} {rs : List (List (List Int))} (h : Ssn o c k rs) : SetsOK o.length := setsOK h.n1 (by have := h.n5; omega)
theorem row_low {n : Nat} (h7 : n ≤ 7) {M : Int} {row : List Int} (h : RowOK n M row) : Low1 row := by
  have h1 := h.len
  have h2 := pow_le h7
  unfold Low1
  omega
theorem futs_low {o c k : List Int} {rs : List (List (List Int))} (h : Ssn o c k rs) : Low2 (futs o c k rs) := by
  have hS := sets_of h
  have hF := futs_Fut h hS
  have hR := h.R
  have h5 := h.n5
  have hl := hF.len
  refine ⟨by omega, fun r hr => ?_⟩
  obtain ⟨j, hj, e⟩ := List.getElem_of_mem hr
  have := hF.ok j (by omega)
  rw [List.getD_eq_getElem?_getD, List.getElem?_eq_getElem hj, Option.getD_some, e] at this
  exact row_low (by omega) this
def bestCost (o c k : List Int) (rs : List (List (List Int))) : Int × Bool := bif seasonB o c k rs then (((futs o c k rs).getD 0 []).getD 0 0, true) else (0, false)
theorem im_BestPlanCost_eq {o c k : List Int} {rs : List (List (List Int))} (ho : Low1 o) (hc : Low1 c) (hk : Low1 k) (hr : Low3 rs) : F_zf o c k rs = some (bestCost o c k rs) := by
  unfold F_zf T_zf bestCost
  simp (disch := omega) only [EV, IsSeason_eq ho hc hk hr]
  cases hs : seasonB o c k rs with
  | false => rfl
  | true =>
    have h := ssn_of hs
    have hF := futs_Fut h (sets_of h)
    have hl := hF.len
    have h5 := h.n5
    have hp := pow_le (n := o.length) (by omega)
    have hl0 := (hF.ok 0 (by omega)).len
    simp (disch := omega) only [EV, future_eq h (sets_of h), show inR (0 : Int) (futs o c k rs).length = true from inR_int (by omega) (by omega), show Int.toNat 0 = 0 from rfl, show 0 < (futs o c k rs).length by omega, hl0, show inR (0 : Int) (2 ^ o.length) = true from inR_int (by omega) (by omega), show 0 < 2 ^ o.length by omega]
def futOf (o c k : List Int) (rs : List (List (List Int))) : List (List Int) × Bool := bif seasonB o c k rs then (futs o c k rs, true) else ([], false)
theorem futOf_low (o c k : List Int) (rs : List (List (List Int))) : Low2 (futOf o c k rs).1 := by
  unfold futOf
  cases hs : seasonB o c k rs with
  | false => exact ⟨by simp, fun r hr => by simp at hr⟩
  | true => exact futs_low (ssn_of hs)
theorem sp_FutureCosts_eq {o c k : List Int} {rs : List (List (List Int))} (ho : Low1 o) (hc : Low1 c) (hk : Low1 k) (hr : Low3 rs) : F_zbq o c k rs = some ((futOf o c k rs).2, (futOf o c k rs).1) := by
  unfold F_zbq T_zbq futOf
  simp (disch := omega) only [EV, l10Good_eq ho hc hk hr]
  cases hs : seasonB o c k rs with
  | false => rfl
  | true =>
    have h := ssn_of hs
    simp (disch := omega) only [EV, (l10Future_eq h (sets_of h)).1]
theorem im_FutureCosts_eq {o c k : List Int} {rs : List (List (List Int))} (ho : Low1 o) (hc : Low1 c) (hk : Low1 k) (hr : Low3 rs) : F_zl o c k rs = some ((futOf o c k rs).2, (futOf o c k rs).1) := by
  unfold F_zl T_zl futOf
  simp (disch := omega) only [EV, IsSeason_eq ho hc hk hr]
  cases hs : seasonB o c k rs with
  | false => rfl
  | true =>
    have h := ssn_of hs
    simp (disch := omega) only [EV, future_eq h (sets_of h)]
end Go.Proofs.YtlmbhkmaflhagaaGreat
