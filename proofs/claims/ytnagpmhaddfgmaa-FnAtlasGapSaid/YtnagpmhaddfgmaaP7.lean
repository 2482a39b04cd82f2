/-
 What is known of arguments by their types alone, in the words of the plain laws.
-/
import Derived.Test.YtnagpmhaddfgmaaPM
import Derived.Test.YtnagpmhaddfgmaaB30
namespace Go.Proofs.Ytnagpmhaddfgmaa
end Go.Proofs.Ytnagpmhaddfgmaa
