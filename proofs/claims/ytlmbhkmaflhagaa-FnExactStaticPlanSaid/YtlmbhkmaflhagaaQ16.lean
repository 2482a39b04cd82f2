/-
  The laws of least costs: the best plan's cost, the costs from each round on.
-/
import Derived.Test.YtlmbhkmaflhagaaP26
import Derived.Test.YtlmbhkmaflhagaaP7
namespace Go.Proofs.Ytlmbhkmaflhagaa
abbrev tL3 : Ty := .slice tLL
theorem fitS {x : List (List (List Int))} (h : Fit tL3 x) : Fit3 x := by
  have := maxLen_lt h.1
  exact ⟨by omega, fun r hr => fit2 (h.2 r hr)⟩
theorem sets_of {o c k : List Int} {rs : List (List (List Int))} (h : Ssn o c k rs) : SetsOK o.length := setsOK h.n1 (by have := h.n5; omega)
theorem row_low {n : Nat} (h7 : n ≤ 7) {M : Int} {row : List Int} (h : RowOK n M row) : Low1 row := by
  have h1 := h.len
  have h2 := pow_le h7
  unfold Low1
  omega
theorem futs_low {o c k : List Int} {rs : List (List (List Int))} (h : Ssn o c k rs) : Low2 (futs o c k rs) := by
  have hS := sets_of h
  have hF := futs_Fut h hS
  have hR := h.R
  have h5 := h.n5
  have hl := hF.len
  refine ⟨by omega, fun r hr => ?_⟩
  obtain ⟨j, hj, e⟩ := List.getElem_of_mem hr
  have := hF.ok j (by omega)
  rw [List.getD_eq_getElem?_getD, List.getElem?_eq_getElem hj, Option.getD_some, e] at this
  exact row_low (by omega) this
end Go.Proofs.Ytlmbhkmaflhagaa
