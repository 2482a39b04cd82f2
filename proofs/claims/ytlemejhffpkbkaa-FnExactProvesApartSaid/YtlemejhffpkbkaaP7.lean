/-
  What is known of arguments by their types alone, in the words of the plain laws.
-/
import Derived.Test.YtlemejhffpkbkaaPM
import Derived.Test.YtlemejhffpkbkaaB30
namespace Go.Proofs.Ytlemejhffpkbkaa
abbrev tI : Ty := .int .i64
abbrev tL : Ty := .slice tI
abbrev tLL : Ty := .slice tL
theorem maxLen_lt {n : Nat} (h : n ≤ maxLen) : (n : Int) < 9223372036854775808 := by
  unfold maxLen at h
  omega
theorem fit1 {l : List Int} (h : Fit tL l) : Fit1 l := by
  have := maxLen_lt h.1
  unfold Fit1
  omega
theorem fit2 {x : List (List Int)} (h : Fit tLL x) : Fit2 x := by
  have := maxLen_lt h.1
  exact ⟨by omega, fun r hr => fit1 (h.2 r hr)⟩
theorem fitI {n : Int} (h : Fit tI n) : -9223372036854775808 ≤ n ∧ n < 9223372036854775808 := by
  have h : (Lit.int .i64 n).wf = true := h
  simp only [Lit.wf, Bool.and_eq_true, decide_eq_true_eq] at h
  have h1 : IntKind.i64.min = -9223372036854775808 := rfl
  have h2 : IntKind.i64.max = 9223372036854775807 := rfl
  omega
end Go.Proofs.Ytlemejhffpkbkaa
