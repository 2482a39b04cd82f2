/-
  The law of a record's encoding.
-/
import Derived.Test.YtakbhfnndcnopaaDoorP12
import Derived.Test.YtakbhfnndcnopaaDoorP7
namespace Go.Proofs.YtakbhfnndcnopaaDoor

theorem fitS {s : List UInt8} (h : Fit .str s) : (s.length : Int) < 9223372036854775808 := maxLen_lt h

theorem law_EncodeRecord (k : Int) (c r : List UInt8) (_ : Fit (.int .i64) k) (hc : Fit .str c) (hr : Fit .str r) : F_lw_FnExactEncodeRecord k c r = some true := by
  unfold F_lw_FnExactEncodeRecord T_lw_FnExactEncodeRecord
  obtain ⟨x, e1, _, k2⟩ := szLogRecord_sz (fitS hc) (fitS hr) (b := 1048576) (by omega) (by omega)
  simp (disch := omega) only [EV, e1]
  by_cases hx : x < 0
  · simp (disch := omega) only [EV, hx]
  · obtain ⟨h1, h2⟩ := k2 (by omega)
    simp (disch := omega) only [EV, hx, toLogRecord_eq, sp_EncodeRecord_eq h1 h2, im_EncodeRecord_eq h1 h2, beq_self_eq_true]
end Go.Proofs.YtakbhfnndcnopaaDoor
