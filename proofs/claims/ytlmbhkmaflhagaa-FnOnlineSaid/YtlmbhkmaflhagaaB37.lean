/-
  slices.Clone at []int, by the shelf's contract: the copy is the caller's own.
-/
import Derived.Test.YtlmbhkmaflhagaaB31
import Derived.Test.YtlmbhkmaflhagaaProg
import Derived.Shelf.SlicesG.Clone
namespace Go.Proofs.Ytlmbhkmaflhagaa
open Go.RowKit (Below)
open Go.Proofs.Try
end Go.Proofs.Ytlmbhkmaflhagaa
