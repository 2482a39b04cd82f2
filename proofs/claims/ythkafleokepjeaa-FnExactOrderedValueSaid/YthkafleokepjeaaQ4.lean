/-
  The law of ordered values.
-/
import Derived.Test.YthkafleokepjeaaP10
import Derived.Test.YthkafleokepjeaaP7
namespace Go.Proofs.Ythkafleokepjeaa

theorem law_OrderedValue (o : List Int) (ds : List (List Int)) (s w : List Int) (ho : Fit tL o) (hd : Fit tLL ds) (_ : Fit tL s) (_ : Fit tL w) : F_lw_FnExactOrderedValue o ds s w = some true := by
  unfold F_lw_FnExactOrderedValue T_lw_FnExactOrderedValue
  obtain ⟨r, e1, _, k2⟩ := szField_sz (fit1 ho) (fit2 hd) (b := 1048576) (by omega) (by omega)
  by_cases hs : (1048576 : Int) < (s.length : Int)
  · simp (disch := omega) only [EV, hs]
  by_cases hw : (1048576 : Int) < (w.length : Int)
  · simp (disch := omega) only [EV, hs, hw]
  simp (disch := omega) only [EV, hs, hw, e1]
  by_cases hr : r < 0
  · simp (disch := omega) only [EV, hr]
  · obtain ⟨h1, h2⟩ := k2 (by omega)
    have h3 : Low1 s := by unfold Low1; omega
    have h4 : Low1 w := by unfold Low1; omega
    simp (disch := omega) only [EV, hr, toField_eq h1 h2, toIntS_eq h3, toIntS_eq h4, sp_OrderedValue_eq h1 h2 h3 h4, im_OrderedValue_eq h1 h2 h3 h4, eqField_eq h1 h2, eqIntS_eq h3, eqIntS_eq h4, beq_self_eq_true, bne_self_eq_false]
end Go.Proofs.Ythkafleokepjeaa
