/-
  Plain rules for rounds that count.
-/
import Derived.Test.YtbofjefpngpegaaB27
namespace Go.Proofs.Ytbofjefpngpegaa
theorem wrap64 {n : Int} (h1 : -9223372036854775808 ≤ n) (h2 : n < 9223372036854775808) : IntKind.wrap .i64 n = n := by
  unfold IntKind.wrap
  simp only [IntKind.bits, IntKind.signed]
  simp
  omega
theorem inR_nat {i n : Nat} (h : i < n) : inR (i : Int) n = true := by
  unfold inR
  simp
  omega
end Go.Proofs.Ytbofjefpngpegaa
