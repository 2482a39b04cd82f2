/-
  Contracts by hand: what a call hands back that owns nothing; functions without a body.
-/
import Derived.Test.YtlemejhffpkbkaaGreatB30
import Derived.Lib.Bytealg
namespace Go.Proofs.YtlemejhffpkbkaaGreat
open Go.RowKit (Below)
end Go.Proofs.YtlemejhffpkbkaaGreat
