/-
  The laws of totals and objectives.
-/
import Derived.Test.YthkafleokepjeaaP8
import Derived.Test.YthkafleokepjeaaP7
namespace Go.Proofs.Ythkafleokepjeaa

theorem law_AtlasTotal (o : List Int) (ds : List (List Int)) (s : List Int) (c : Int) (ho : Fit tL o) (hd : Fit tLL ds) (hs : Fit tL s) (_ : Fit tI c) : F_lw_FnExactAtlasTotal o ds s c = some true := by
  unfold F_lw_FnExactAtlasTotal T_lw_FnExactAtlasTotal
  obtain ⟨r, e1, _, k2⟩ := szAtlas_sz c (fit1 ho) (fit2 hd) (fit1 hs) (b := 1048576) (by omega) (by omega)
  simp (disch := omega) only [EV, e1]
  by_cases hr : r < 0
  · simp (disch := omega) only [EV, hr]
  · obtain ⟨h1, h2, h3⟩ := k2 (by omega)
    simp (disch := omega) only [EV, hr, toAtlas_eq h1 h2 h3, sp_AtlasTotal_eq h1 h2 h3, im_AtlasTotal_eq h1 h2 h3, eqAtlas_eq h1 h2 h3, beq_self_eq_true, bne_self_eq_false]
theorem law_ObjectiveOf (o : List Int) (ds : List (List Int)) (s : List Int) (c : Int) (ho : Fit tL o) (hd : Fit tLL ds) (_ : Fit tL s) (_ : Fit tI c) : F_lw_FnExactObjectiveOf o ds s c = some true := by
  unfold F_lw_FnExactObjectiveOf T_lw_FnExactObjectiveOf
  obtain ⟨r, e1, _, k2⟩ := szField_sz (fit1 ho) (fit2 hd) (b := 1048576) (by omega) (by omega)
  by_cases hs : (1048576 : Int) < (s.length : Int)
  · simp (disch := omega) only [EV, hs]
  simp (disch := omega) only [EV, hs, e1]
  by_cases hr : r < 0
  · simp (disch := omega) only [EV, hr]
  · obtain ⟨h1, h2⟩ := k2 (by omega)
    have h3 : Low1 s := by unfold Low1; omega
    simp (disch := omega) only [EV, hr, toField_eq h1 h2, toIntS_eq h3, sp_ObjectiveOf_eq h1 h2 h3, im_ObjectiveOf_eq h1 h2 h3, eqField_eq h1 h2, eqIntS_eq h3, beq_self_eq_true, bne_self_eq_false]
end Go.Proofs.Ythkafleokepjeaa
