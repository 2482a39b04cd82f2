/-
  Contracts by hand: what a call hands back that owns nothing; functions without a body.
-/
import Derived.Test.YtlemejhffpkbkaaB30
import Derived.Lib.Bytealg
namespace Go.Proofs.Ytlemejhffpkbkaa
open Go.RowKit (Below)
end Go.Proofs.Ytlemejhffpkbkaa
