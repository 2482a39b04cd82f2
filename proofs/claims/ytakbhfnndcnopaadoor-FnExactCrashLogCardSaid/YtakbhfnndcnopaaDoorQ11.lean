/-
  The law of crashes' bytes.
-/
import Derived.Test.YtakbhfnndcnopaaDoorP19
import Derived.Test.YtakbhfnndcnopaaDoorP7
namespace Go.Proofs.YtakbhfnndcnopaaDoor

theorem fitS {s : List UInt8} (h : Fit .str s) : (s.length : Int) < 9223372036854775808 := maxLen_lt h
theorem law_CrashLog (a b : List UInt8) (n k : Int) (torn : Bool) (ha : Fit .str a) (hb : Fit .str b) (_ : Fit (.int .i64) n) (_ : Fit (.int .i64) k) (_ : Fit .bool torn) : F_lw_FnExactCrashLog a b n k torn = some true := by
  unfold F_lw_FnExactCrashLog T_lw_FnExactCrashLog
  obtain ⟨x, e1, _, k2⟩ := szLog_sz n (fitS ha) (fitS hb) (b := 1048576) (by omega) (by omega)
  simp (disch := omega) only [EV, e1]
  by_cases hx : x < 0
  · simp (disch := omega) only [EV, hx]
  · obtain ⟨h1, h2⟩ := k2 (by omega)
    obtain ⟨v, v1, v2, _⟩ := crash_both h1 h2 n k torn
    simp (disch := omega) only [EV, hx, toLog_eq, v1, v2, beq_self_eq_true]
end Go.Proofs.YtakbhfnndcnopaaDoor
