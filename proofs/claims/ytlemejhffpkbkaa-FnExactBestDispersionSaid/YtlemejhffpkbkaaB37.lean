/-
  slices.Clone at []int, by the shelf's contract: the copy is the caller's own.
-/
import Derived.Test.YtlemejhffpkbkaaB31
import Derived.Test.YtlemejhffpkbkaaProg
import Derived.Shelf.SlicesG.Clone
namespace Go.Proofs.Ytlemejhffpkbkaa
open Go.RowKit (Below)
open Go.Proofs.Try
end Go.Proofs.Ytlemejhffpkbkaa
