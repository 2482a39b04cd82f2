/-
  What is known of arguments by their types alone, in the words of the plain laws.
-/
import Derived.Test.YtlmbhkmaflhagaaPM
import Derived.Test.YtlmbhkmaflhagaaB30
namespace Go.Proofs.Ytlmbhkmaflhagaa
end Go.Proofs.Ytlmbhkmaflhagaa
