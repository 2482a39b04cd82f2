/-
  Contracts by hand: what a call hands back that owns nothing; functions without a body.
-/
import Derived.Test.YtlmbhkmaflhagaaB30
import Derived.Lib.Bytealg
namespace Go.Proofs.Ytlmbhkmaflhagaa
open Go.RowKit (Below)
end Go.Proofs.Ytlmbhkmaflhagaa
