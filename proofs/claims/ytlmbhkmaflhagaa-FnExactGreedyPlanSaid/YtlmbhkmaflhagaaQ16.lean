/-
  The laws of least costs: the best plan's cost, the costs from each round on.
-/
import Derived.Test.YtlmbhkmaflhagaaP26
import Derived.Test.YtlmbhkmaflhagaaP7
namespace Go.Proofs.Ytlmbhkmaflhagaa
abbrev tL3 : Ty := .slice tLL
theorem fitS {x : List (List (List Int))} (h : Fit tL3 x) : Fit3 x := by
  have := maxLen_lt h.1
  exact ⟨by omega, fun r hr => fit2 (h.2 r hr)⟩
theorem sets_of {o c k : List Int} {rs : List (List (List Int))} (h : Ssn o c k rs) : SetsOK o.length := setsOK h.n1 (by have := h.n5; omega)
theorem row_low {n : Nat} (h7 : n ≤ 7) {M : Int} {row : List Int} (h : RowOK n M row) : Low1 row := by
  have h1 := h.len
  have h2 := pow_le h7
  unfold Low1
  omega
theorem futs_low {o c k : List Int} {rs : List (List (List Int))} (h : Ssn o c k rs) : Low2 (futs o c k rs) := by
  have hS := sets_of h
  have hF := futs_Fut h hS
  have hR := h.R
  have h5 := h.n5
  have hl := hF.len
  refine ⟨by omega, fun r hr => ?_⟩
  obtain ⟨j, hj, e⟩ := List.getElem_of_mem hr
  have := hF.ok j (by omega)
  rw [List.getD_eq_getElem?_getD, List.getElem?_eq_getElem hj, Option.getD_some, e] at this
  exact row_low (by omega) this
def futOf (o c k : List Int) (rs : List (List (List Int))) : List (List Int) × Bool := bif seasonB o c k rs then (futs o c k rs, true) else ([], false)
theorem futOf_low (o c k : List Int) (rs : List (List (List Int))) : Low2 (futOf o c k rs).1 := by
  unfold futOf
  cases hs : seasonB o c k rs with
  | false => exact ⟨by simp, fun r hr => by simp at hr⟩
  | true => exact futs_low (ssn_of hs)
theorem sp_FutureCosts_eq {o c k : List Int} {rs : List (List (List Int))} (ho : Low1 o) (hc : Low1 c) (hk : Low1 k) (hr : Low3 rs) : F_sp_FutureCosts o c k rs = some (futOf o c k rs) := by
  unfold F_sp_FutureCosts T_sp_FutureCosts futOf
  simp (disch := omega) only [EV, l10Good_eq ho hc hk hr]
  cases hs : seasonB o c k rs with
  | false => rfl
  | true =>
    have h := ssn_of hs
    simp (disch := omega) only [EV, (l10Future_eq h (sets_of h)).1]
theorem im_FutureCosts_eq {o c k : List Int} {rs : List (List (List Int))} (ho : Low1 o) (hc : Low1 c) (hk : Low1 k) (hr : Low3 rs) : F_im_FutureCosts o c k rs = some ((futOf o c k rs).2, (futOf o c k rs).1) := by
  unfold F_im_FutureCosts T_im_FutureCosts futOf
  simp (disch := omega) only [EV, IsSeason_eq ho hc hk hr]
  cases hs : seasonB o c k rs with
  | false => rfl
  | true =>
    have h := ssn_of hs
    simp (disch := omega) only [EV, future_eq h (sets_of h)]
theorem law_FutureCosts (o c k : List Int) (rs : List (List (List Int))) (ho : Fit tL o) (hc : Fit tL c) (hk : Fit tL k) (hr : Fit tL3 rs) : F_lw_FnExactFutureCosts o c k rs = some true := by
  unfold F_lw_FnExactFutureCosts T_lw_FnExactFutureCosts
  obtain ⟨x, e1, b1, k1⟩ := szSeason_sz (fit1 ho) (fit1 hc) (fit1 hk) (fitS hr) (b := 1048576) (by omega) (by omega)
  simp (disch := omega) only [EV, e1]
  by_cases hx : x < 0
  · simp (disch := omega) only [EV, hx]
  · obtain ⟨h1, h2, h3, h4⟩ := k1 (by omega)
    obtain ⟨y, em, hy⟩ := markSeason_eq h1 h2 h3 h4
    have hlow := futOf_low o c k rs
    generalize hp : futOf o c k rs = p at hlow
    have hb2 := tot_take hlow (k := 1) p.1.length
    rw [List.take_length] at hb2
    have hn2 : ¬ tot 1 p.1 < 0 := by omega
    have es := sp_FutureCosts_eq h1 h2 h3 h4
    have ei := im_FutureCosts_eq h1 h2 h3 h4
    rw [hp] at es ei
    simp (disch := omega) only [EV, hx, toSeason_eq h1 h2 h3 h4, es, ei, eqIntSS_eq hlow, beq_self_eq_true, bne_self_eq_false, eqSeason_self h1 h2 h3 h4, em, hy, markIntSS_eq hlow (k := 1) (by omega) (by omega), hn2, heldIntSS_eq hlow (k := 1) (by omega) (by omega)]
end Go.Proofs.Ytlmbhkmaflhagaa
