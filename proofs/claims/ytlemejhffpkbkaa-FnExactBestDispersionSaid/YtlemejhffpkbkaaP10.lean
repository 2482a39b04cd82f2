/-
  Plain laws: small sorts; ordered values.
-/
import Derived.Test.YtlemejhffpkbkaaP8
namespace Go.Proofs.Ytlemejhffpkbkaa
def ins (x : Int) : List Int → List Int
  | [] => [x]
  | a :: l => if a ≤ x then a :: ins x l else x :: a :: l
end Go.Proofs.Ytlemejhffpkbkaa
