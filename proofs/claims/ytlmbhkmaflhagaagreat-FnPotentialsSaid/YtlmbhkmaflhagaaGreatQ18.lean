/-
  The law of the best plan that keeps its set.
-/
import Derived.Test.YtlmbhkmaflhagaaGreatQ15
import Derived.Test.YtlmbhkmaflhagaaGreatQ17
namespace Go.Proofs.YtlmbhkmaflhagaaGreat
end Go.Proofs.YtlmbhkmaflhagaaGreat
