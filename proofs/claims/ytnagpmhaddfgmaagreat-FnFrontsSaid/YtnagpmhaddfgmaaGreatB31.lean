/-
 Contracts by hand: what a call hands back that owns nothing; functions without a body.
-/
import Derived.Test.YtnagpmhaddfgmaaGreatB30
import Derived.Lib.Bytealg
namespace Go.Proofs.YtnagpmhaddfgmaaGreat
open Go.RowKit (Below)
end Go.Proofs.YtnagpmhaddfgmaaGreat
