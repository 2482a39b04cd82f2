/-
  The law of records.
-/
import Derived.Test.YtakbhfnndcnopaaP9
import Derived.Test.YtakbhfnndcnopaaP7
namespace Go.Proofs.Ytakbhfnndcnopaa

theorem fitS {s : List UInt8} (h : Fit .str s) : (s.length : Int) < 9223372036854775808 := maxLen_lt h

theorem law_IsValidRecord (c r : List UInt8) (hc : Fit .str c) (hr : Fit .str r) : F_lw_FnExactIsValidRecord c r = some true := by
  unfold F_lw_FnExactIsValidRecord T_lw_FnExactIsValidRecord F_sp_IsValidRecord T_sp_IsValidRecord
  obtain ⟨x, e1, _, k2⟩ := szLogRecord_sz (fitS hc) (fitS hr) (b := 1048576) (by omega) (by omega)
  simp (disch := omega) only [EV, e1]
  by_cases hx : x < 0
  · simp (disch := omega) only [EV, hx]
  · obtain ⟨h1, h2⟩ := k2 (by omega)
    simp (disch := omega) only [EV, hx, toLogRecord_eq, l12Record_eq h1 h2, im_IsValidRecord_eq h1 h2, beq_self_eq_true]
end Go.Proofs.Ytakbhfnndcnopaa
