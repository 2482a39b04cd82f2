/-
 Plain laws: the sets of a size.
-/
import Derived.Test.YtnagpmhaddfgmaaGreatP28
import Derived.Test.YtnagpmhaddfgmaaGreatP8
namespace Go.Proofs.YtnagpmhaddfgmaaGreat
end Go.Proofs.YtnagpmhaddfgmaaGreat
