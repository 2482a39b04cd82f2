/-
  Plain laws: marks laid into a season.
-/
import Derived.Test.YtlmbhkmaflhagaaGreatP24
import Derived.Test.YtlmbhkmaflhagaaGreatPM
namespace Go.Proofs.YtlmbhkmaflhagaaGreat
end Go.Proofs.YtlmbhkmaflhagaaGreat
