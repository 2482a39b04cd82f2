/-
 Plain laws: the sets of a size.
-/
import Derived.Test.YtnagpmhaddfgmaaP28
import Derived.Test.YtnagpmhaddfgmaaP8
namespace Go.Proofs.Ytnagpmhaddfgmaa
end Go.Proofs.Ytnagpmhaddfgmaa
