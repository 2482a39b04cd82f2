/-
 Plain rules for rounds that count.
-/
import Derived.Test.YtnagpmhaddfgmaaB27
namespace Go.Proofs.Ytnagpmhaddfgmaa
theorem wrap64 {n : Int} (h1 : -9223372036854775808 ≤ n) (h2 : n < 9223372036854775808) : IntKind.wrap .i64 n = n := by
 unfold IntKind.wrap
 simp only [IntKind.bits, IntKind.signed]
 simp
 omega
end Go.Proofs.Ytnagpmhaddfgmaa
