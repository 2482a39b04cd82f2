/-
 Contracts by hand: what a call hands back that owns nothing; functions without a body.
-/
import Derived.Test.YtnagpmhaddfgmaaB30
import Derived.Lib.Bytealg
namespace Go.Proofs.Ytnagpmhaddfgmaa
open Go.RowKit (Below)
end Go.Proofs.Ytnagpmhaddfgmaa
