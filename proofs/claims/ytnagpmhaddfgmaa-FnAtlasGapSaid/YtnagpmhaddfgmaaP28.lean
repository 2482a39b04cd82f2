/-
 Plain laws: sets that are left out, and the first best one, where headers are kept apart from rows.
-/
import Derived.Test.YtnagpmhaddfgmaaP27
import Derived.Test.YtnagpmhaddfgmaaPM
namespace Go.Proofs.Ytnagpmhaddfgmaa
theorem HG.at {x : List Nat × List (List Int)} (h : HG x) {i : Nat} (hi : i < x.1.length) : x.1.getD i 0 < x.2.length := h _ (getD_mem hi)
end Go.Proofs.Ytnagpmhaddfgmaa
