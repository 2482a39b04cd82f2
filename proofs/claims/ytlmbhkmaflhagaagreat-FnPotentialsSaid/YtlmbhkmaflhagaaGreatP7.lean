/-
  What is known of arguments by their types alone, in the words of the plain laws.
-/
import Derived.Test.YtlmbhkmaflhagaaGreatPM
import Derived.Test.YtlmbhkmaflhagaaGreatB30
namespace Go.Proofs.YtlmbhkmaflhagaaGreat
end Go.Proofs.YtlmbhkmaflhagaaGreat
