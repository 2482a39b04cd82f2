/-
  The laws of logs.
-/
import Derived.Test.YtakbhfnndcnopaaDoorP14
import Derived.Test.YtakbhfnndcnopaaDoorQ5
import Derived.Test.YtakbhfnndcnopaaDoorP6
namespace Go.Proofs.YtakbhfnndcnopaaDoor

theorem law_RecoverLog (s : List UInt8) (_ : Fit .str s) : F_lw_FnExactRecoverLog s = some true := by
  unfold F_lw_FnExactRecoverLog T_lw_FnExactRecoverLog
  by_cases hs : (1048576 : Int) < (s.length : Int)
  · simp (disch := omega) only [EV, hs]
  · obtain ⟨v, v1, v2⟩ := recover_both (s := s) (by unfold SLow; omega)
    simp (disch := omega) only [EV, hs, v1, v2, eqLog_self, beq_self_eq_true, bne_self_eq_false]
theorem law_IsValidLog (a b : List UInt8) (n : Int) (ha : Fit .str a) (hb : Fit .str b) (_ : Fit (.int .i64) n) : F_lw_FnExactIsValidLog a b n = some true := by
  unfold F_lw_FnExactIsValidLog T_lw_FnExactIsValidLog F_sp_IsValidLog T_sp_IsValidLog
  obtain ⟨x, e1, _, k2⟩ := szLog_sz n (fitS ha) (fitS hb) (b := 1048576) (by omega) (by omega)
  simp (disch := omega) only [EV, e1]
  by_cases hx : x < 0
  · simp (disch := omega) only [EV, hx]
  · obtain ⟨h1, h2⟩ := k2 (by omega)
    obtain ⟨v, v1, v2, _⟩ := valid_both h1 h2 n
    simp (disch := omega) only [EV, hx, toLog_eq, v1, v2, beq_self_eq_true]
theorem law_SyncLog (a b : List UInt8) (n : Int) (ha : Fit .str a) (hb : Fit .str b) (_ : Fit (.int .i64) n) : F_lw_FnExactSyncLog a b n = some true := by
  unfold F_lw_FnExactSyncLog T_lw_FnExactSyncLog
  obtain ⟨x, e1, _, k2⟩ := szLog_sz n (fitS ha) (fitS hb) (b := 1048576) (by omega) (by omega)
  simp (disch := omega) only [EV, e1]
  by_cases hx : x < 0
  · simp (disch := omega) only [EV, hx]
  · obtain ⟨h1, h2⟩ := k2 (by omega)
    obtain ⟨v, v1, v2⟩ := sync_both h1 h2 n
    simp (disch := omega) only [EV, hx, toLog_eq, v1, v2, eqLog_self, beq_self_eq_true]
theorem law_AppendRecord (a b : List UInt8) (n : Int) (c r : List UInt8) (ha : Fit .str a) (hb : Fit .str b) (_ : Fit (.int .i64) n) (hc : Fit .str c) (hr : Fit .str r) : F_lw_FnExactAppendRecord a b n c r = some true := by
  unfold F_lw_FnExactAppendRecord T_lw_FnExactAppendRecord
  obtain ⟨x, e1, k1, k2⟩ := szLog_sz n (fitS ha) (fitS hb) (b := 1048576) (by omega) (by omega)
  simp (disch := omega) only [EV, e1]
  by_cases hx : x < 0
  · simp (disch := omega) only [EV, hx]
  · obtain ⟨h1, h2⟩ := k2 (by omega)
    obtain ⟨y, e2, _, k4⟩ := szLogRecord_sz (fitS hc) (fitS hr) (b := x) (by omega) (by omega)
    simp (disch := omega) only [EV, hx, e2]
    by_cases hy : y < 0
    · simp (disch := omega) only [EV, hy]
    · obtain ⟨h3, h4⟩ := k4 (by omega)
      obtain ⟨v, v1, v2⟩ := append_both h1 h2 h3 h4 n
      simp (disch := omega) only [EV, hy, toLog_eq, toLogRecord_eq, v1, v2, eqLog_self, bne_self_eq_false]
theorem law_IsValidConsole (o : List Int) (ds : List (List Int)) (s : List Int) (k : Int) (a b : List UInt8) (n : Int) (ho : Fit tL o) (hd : Fit tLL ds) (hs : Fit tL s) (_ : Fit tI k) (ha : Fit .str a) (hb : Fit .str b) (_ : Fit tI n) : F_lw_FnExactIsValidConsole o ds s k a b n = some true := by
  unfold F_lw_FnExactIsValidConsole T_lw_FnExactIsValidConsole F_lw_szConsole T_lw_szConsole F_lw_toConsole T_lw_toConsole F_sp_IsValidConsole T_sp_IsValidConsole F_im_IsValidConsole T_im_IsValidConsole F_lw_eqConsole T_lw_eqConsole
  obtain ⟨x, e1, k1, k2⟩ := szAtlas_sz k (fit1 ho) (fit2 hd) (fit1 hs) (b := 1048576) (by omega) (by omega)
  simp (disch := omega) only [EV, e1]
  by_cases hx : x < 0
  · have hm : (-1 : Int) < 0 := by omega
    simp (disch := omega) only [EV, hx, hm]
  · obtain ⟨h1, h2, h3⟩ := k2 (by omega)
    obtain ⟨y, e2, _, k4⟩ := szLog_sz n (fitS ha) (fitS hb) (b := x) (by omega) (by omega)
    simp (disch := omega) only [EV, hx, e2]
    by_cases hy : y < 0
    · have hm : (-1 : Int) < 0 := by omega
      simp (disch := omega) only [EV, hy, hm]
    · obtain ⟨h4, h5⟩ := k4 (by omega)
      obtain ⟨v, v1, v2, _⟩ := valid_both h4 h5 n
      simp (disch := omega) only [EV, hy, toAtlas_eq h1 h2 h3, toLog_eq, l12Good_eq h1 h2 h3, im_IsAtlas_eq h1 h2 h3, v1, v2, eqAtlas_eq h1 h2 h3, eqLog_self, beq_self_eq_true]
      cases atlasB o ds s k <;> cases v <;> rfl
end Go.Proofs.YtakbhfnndcnopaaDoor
