/-
  The laws of least costs: the best plan's cost, the costs from each round on.
-/
import Derived.Test.YtlmbhkmaflhagaaGreatP25
import Derived.Test.YtlmbhkmaflhagaaGreatP26
import Derived.Test.YtlmbhkmaflhagaaGreatP7
namespace Go.Proofs.YtlmbhkmaflhagaaGreat
theorem sets_of {o c k : List Int} {rs : List (List (List Int))} (h : Ssn o c k rs) : SetsOK o.length := setsOK h.n1 (by have := h.n5; omega)
def bestCost (o c k : List Int) (rs : List (List (List Int))) : Int × Bool := bif seasonB o c k rs then (((futs o c k rs).getD 0 []).getD 0 0, true) else (0, false)
theorem sp_BestPlanCost_eq {o c k : List Int} {rs : List (List (List Int))} (ho : Low1 o) (hc : Low1 c) (hk : Low1 k) (hr : Low3 rs) : F_zbr o c k rs = some (bestCost o c k rs) := by
  unfold F_zbr T_zbr bestCost
  simp (disch := omega) only [EV, l10Good_eq ho hc hk hr]
  cases hs : seasonB o c k rs with
  | false => rfl
  | true =>
    have h := ssn_of hs
    have hF := futs_Fut h (sets_of h)
    have hl := hF.len
    have h5 := h.n5
    have hp := pow_le (n := o.length) (by omega)
    have hl0 := (hF.ok 0 (by omega)).len
    simp (disch := omega) only [EV, (l10Future_eq h (sets_of h)).1, show inR (0 : Int) (futs o c k rs).length = true from inR_int (by omega) (by omega), show Int.toNat 0 = 0 from rfl, hl0, show inR (0 : Int) (2 ^ o.length) = true from inR_int (by omega) (by omega)]
theorem im_BestPlanCost_eq {o c k : List Int} {rs : List (List (List Int))} (ho : Low1 o) (hc : Low1 c) (hk : Low1 k) (hr : Low3 rs) : F_ze o c k rs = some (bestCost o c k rs) := by
  unfold F_ze T_ze bestCost
  simp (disch := omega) only [EV, IsSeason_eq ho hc hk hr]
  cases hs : seasonB o c k rs with
  | false => rfl
  | true =>
    have h := ssn_of hs
    have hF := futs_Fut h (sets_of h)
    have hl := hF.len
    have h5 := h.n5
    have hp := pow_le (n := o.length) (by omega)
    have hl0 := (hF.ok 0 (by omega)).len
    simp (disch := omega) only [EV, future_eq h (sets_of h), show inR (0 : Int) (futs o c k rs).length = true from inR_int (by omega) (by omega), show Int.toNat 0 = 0 from rfl, show 0 < (futs o c k rs).length by omega, hl0, show inR (0 : Int) (2 ^ o.length) = true from inR_int (by omega) (by omega), show 0 < 2 ^ o.length by omega]
end Go.Proofs.YtlmbhkmaflhagaaGreat
