/-
  Plain laws: all sets of n sites, as both sides list them: computed by the kernel for each n.
-/
import Derived.Test.YtlemejhffpkbkaaEM2
import Derived.Test.YtlemejhffpkbkaaP5
namespace Go.Proofs.Ytlemejhffpkbkaa
def HG (x : List Nat × List (List Int)) : Prop := ∀ i ∈ x.1, i < x.2.length
end Go.Proofs.Ytlemejhffpkbkaa
