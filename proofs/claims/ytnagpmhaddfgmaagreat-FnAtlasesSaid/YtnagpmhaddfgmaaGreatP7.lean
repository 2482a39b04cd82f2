/-
 What is known of arguments by their types alone, in the words of the plain laws.
-/
import Derived.Test.YtnagpmhaddfgmaaGreatPM
import Derived.Test.YtnagpmhaddfgmaaGreatB30
namespace Go.Proofs.YtnagpmhaddfgmaaGreat
end Go.Proofs.YtnagpmhaddfgmaaGreat
