/-
  The laws of grounds, allocations, dispersions, atlases, the cost of hubs.
-/
import Derived.Test.YtafcpibodfbjnaaP5
import Derived.Test.YtafcpibodfbjnaaP6
import Derived.Test.YtafcpibodfbjnaaP7
namespace Go.Proofs.Ytafcpibodfbjnaa

theorem low1_of {l : List Int} (h : ¬ (1048576 : Int) < (l.length : Int)) : Low1 l := by unfold Low1; omega

theorem law_IsGround (x : List (List Int)) (hx : Fit tLL x) : F_lw_FnExactIsGround x = some true := by
  unfold F_lw_FnExactIsGround T_lw_FnExactIsGround
  obtain ⟨r, e1, _, k2⟩ := szIntSS_sz (fit2 hx) (b := 1048576) (by omega) (by omega)
  simp (disch := omega) only [EV, e1]
  by_cases hr : r < 0
  · simp (disch := omega) only [EV, hr]
  · have hl := k2 (by omega)
    simp (disch := omega) only [EV, hr, toIntSS_eq hl, sp_IsGround_eq hl, im_IsGround_eq hl, eqIntSS_eq hl, beq_self_eq_true]
theorem law_IsMetricGround (x : List (List Int)) (hx : Fit tLL x) : F_lw_FnExactIsMetricGround x = some true := by
  unfold F_lw_FnExactIsMetricGround T_lw_FnExactIsMetricGround
  obtain ⟨r, e1, _, k2⟩ := szIntSS_sz (fit2 hx) (b := 1048576) (by omega) (by omega)
  simp (disch := omega) only [EV, e1]
  by_cases hr : r < 0
  · simp (disch := omega) only [EV, hr]
  · have hl := k2 (by omega)
    simp (disch := omega) only [EV, hr, toIntSS_eq hl, sp_IsMetricGround_eq hl, im_IsMetricGround_eq hl, eqIntSS_eq hl, beq_self_eq_true]
theorem law_IsAllocation (x : List (List Int)) (h : List Int) (hx : Fit tLL x) (_ : Fit tL h) : F_lw_FnExactIsAllocation x h = some true := by
  unfold F_lw_FnExactIsAllocation T_lw_FnExactIsAllocation
  obtain ⟨r, e1, _, k2⟩ := szIntSS_sz (fit2 hx) (b := 1048576) (by omega) (by omega)
  by_cases hs : (1048576 : Int) < (h.length : Int)
  · simp (disch := omega) only [EV, hs]
  simp (disch := omega) only [EV, hs, e1]
  by_cases hr : r < 0
  · simp (disch := omega) only [EV, hr]
  · have hl := k2 (by omega)
    have hh := low1_of hs
    simp (disch := omega) only [EV, hr, toIntSS_eq hl, toIntS_eq hh, sp_IsAllocation_eq hl hh, im_IsAllocation_eq hl, eqIntSS_eq hl, eqIntS_eq hh, beq_self_eq_true]
theorem law_DispersionOf (x : List (List Int)) (h : List Int) (hx : Fit tLL x) (_ : Fit tL h) : F_lw_FnExactDispersionOf x h = some true := by
  unfold F_lw_FnExactDispersionOf T_lw_FnExactDispersionOf
  obtain ⟨r, e1, _, k2⟩ := szIntSS_sz (fit2 hx) (b := 1048576) (by omega) (by omega)
  by_cases hs : (1048576 : Int) < (h.length : Int)
  · simp (disch := omega) only [EV, hs]
  simp (disch := omega) only [EV, hs, e1]
  by_cases hr : r < 0
  · simp (disch := omega) only [EV, hr]
  · have hl := k2 (by omega)
    have hh := low1_of hs
    simp (disch := omega) only [EV, hr, toIntSS_eq hl, toIntS_eq hh, sp_DispersionOf_eq hl hh, im_DispersionOf_eq hl hh, eqIntSS_eq hl, eqIntS_eq hh, beq_self_eq_true, bne_self_eq_false]
theorem law_IsAtlas (o : List Int) (ds : List (List Int)) (s : List Int) (c : Int) (ho : Fit tL o) (hd : Fit tLL ds) (hs : Fit tL s) (_ : Fit tI c) : F_lw_FnExactIsAtlas o ds s c = some true := by
  unfold F_lw_FnExactIsAtlas T_lw_FnExactIsAtlas
  obtain ⟨r, e1, _, k2⟩ := szAtlas_sz c (fit1 ho) (fit2 hd) (fit1 hs) (b := 1048576) (by omega) (by omega)
  simp (disch := omega) only [EV, e1]
  by_cases hr : r < 0
  · simp (disch := omega) only [EV, hr]
  · obtain ⟨h1, h2, h3⟩ := k2 (by omega)
    simp (disch := omega) only [EV, hr, toAtlas_eq h1 h2 h3, sp_IsAtlas_eq h1 h2 h3, im_IsAtlas_eq h1 h2 h3, eqAtlas_eq h1 h2 h3, beq_self_eq_true]
theorem law_HubCost (x fl : List (List Int)) (h : List Int) (d : Int) (hx : Fit tLL x) (hf : Fit tLL fl) (_ : Fit tL h) (_ : Fit tI d) : F_lw_FnExactHubCost x fl h d = some true := by
  unfold F_lw_FnExactHubCost T_lw_FnExactHubCost
  obtain ⟨r, e1, k1, k2⟩ := szIntSS_sz (fit2 hx) (b := 1048576) (by omega) (by omega)
  by_cases hs : (1048576 : Int) < (h.length : Int)
  · simp (disch := omega) only [EV, hs]
  simp (disch := omega) only [EV, hs, e1]
  by_cases hr : r < 0
  · simp (disch := omega) only [EV, hr]
  · obtain ⟨r2, e2, k3, k4⟩ := szIntSS_sz (fit2 hf) (b := r) (by omega) (by omega)
    simp (disch := omega) only [EV, hr, e2]
    by_cases hr2 : r2 < 0
    · simp (disch := omega) only [EV, hr2]
    · have hl := k2 (by omega)
      have hl2 := k4 (by omega)
      have hh := low1_of hs
      simp (disch := omega) only [EV, hr2, toIntSS_eq hl, toIntSS_eq hl2, toIntS_eq hh, sp_HubCost_eq hl hl2 hh, im_HubCost_eq hl hl2, eqIntSS_eq hl, eqIntSS_eq hl2, eqIntS_eq hh, beq_self_eq_true, bne_self_eq_false]
end Go.Proofs.Ytafcpibodfbjnaa
