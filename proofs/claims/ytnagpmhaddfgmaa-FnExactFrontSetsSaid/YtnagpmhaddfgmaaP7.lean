/-
 What is known of arguments by their types alone, in the words of the plain laws.
-/
import Derived.Test.YtnagpmhaddfgmaaPM
import Derived.Test.YtnagpmhaddfgmaaB30
namespace Go.Proofs.Ytnagpmhaddfgmaa
abbrev tI : Ty := .int .i64
abbrev tL : Ty := .slice tI
abbrev tLL : Ty := .slice tL
theorem wsu {n : Nat} (h : n ≤ maxLen) : (n : Int) < 9223372036854775808 := by
 unfold maxLen at h
 omega
theorem fit1 {l : List Int} (h : Fit tL l) : Fit1 l := by
 have := wsu h.1
 unfold Fit1
 omega
theorem fit2 {x : List (List Int)} (h : Fit tLL x) : Fit2 x := by
 have := wsu h.1
 exact ⟨by omega, fun r hr => fit1 (h.2 r hr)⟩
end Go.Proofs.Ytnagpmhaddfgmaa
