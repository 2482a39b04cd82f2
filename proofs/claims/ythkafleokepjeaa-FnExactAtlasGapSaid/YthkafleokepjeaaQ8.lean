/-
  The law of the gap.
-/
import Derived.Test.YthkafleokepjeaaP16
import Derived.Test.YthkafleokepjeaaP7
namespace Go.Proofs.Ythkafleokepjeaa

theorem gap_both {o : List Int} {ds : List (List Int)} {s : List Int} (ho : Low1 o) (hd : Low2 ds) (hs : Low1 s) (c : Int) : ∃ v, F_sp_AtlasGap o ds s c = some v ∧ F_im_AtlasGap o ds s c = some v := by
  unfold F_sp_AtlasGap T_sp_AtlasGap F_im_AtlasGap T_im_AtlasGap
  simp (disch := omega) only [EV, sp_AtlasTotal_eq ho hd hs, im_AtlasTotal_eq ho hd hs]
  cases h : (totalOf o ds s c).2 with
  | false => exact ⟨_, rfl, rfl⟩
  | true =>
    have hf : Fld o ds := by
      unfold totalOf at h
      cases ha : atlasB o ds s c with
      | true => exact (atlasB_fld hs ha).1
      | false => rw [ha] at h; cases h
    obtain ⟨p, p1, p2, p3⟩ := ascent_both ho hd hf
    simp (disch := omega) only [EV, p2, p3, l3Sum_eq hf p1, sumP_eq hf p1]
    exact ⟨_, rfl, rfl⟩
theorem law_AtlasGap (o : List Int) (ds : List (List Int)) (s : List Int) (c : Int) (ho : Fit tL o) (hd : Fit tLL ds) (hs : Fit tL s) (_ : Fit tI c) : F_lw_FnExactAtlasGap o ds s c = some true := by
  unfold F_lw_FnExactAtlasGap T_lw_FnExactAtlasGap
  obtain ⟨r, e1, _, k2⟩ := szAtlas_sz c (fit1 ho) (fit2 hd) (fit1 hs) (b := 1048576) (by omega) (by omega)
  simp (disch := omega) only [EV, e1]
  by_cases hr : r < 0
  · simp (disch := omega) only [EV, hr]
  · obtain ⟨h1, h2, h3⟩ := k2 (by omega)
    obtain ⟨v, v1, v2⟩ := gap_both h1 h2 h3 c
    simp (disch := omega) only [EV, hr, toAtlas_eq h1 h2 h3, v1, v2, eqAtlas_eq h1 h2 h3, beq_self_eq_true, bne_self_eq_false]
end Go.Proofs.Ythkafleokepjeaa
