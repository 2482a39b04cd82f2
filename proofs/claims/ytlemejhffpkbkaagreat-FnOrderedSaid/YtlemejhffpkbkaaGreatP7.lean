/-
  What is known of arguments by their types alone, in the words of the plain laws.
-/
import Derived.Test.YtlemejhffpkbkaaGreatPM
import Derived.Test.YtlemejhffpkbkaaGreatB30
namespace Go.Proofs.YtlemejhffpkbkaaGreat
end Go.Proofs.YtlemejhffpkbkaaGreat
