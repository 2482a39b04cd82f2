/-
 Contracts by hand: what a call hands back that owns nothing; functions without a body.
-/
import Derived.Test.YtnagpmhaddfgmaaB30
import Derived.Lib.Bytealg
namespace Go.Proofs.Ytnagpmhaddfgmaa
open Go.RowKit (Below)
theorem wamv {P : Program} {w : World} {lo : Nat → Prop} {μ : Nat → Option MV} {S : Nat → Prop} {k : IntKind} {n : Int} {x : Value} (h : RelV P w lo μ S (.dat (.int k) n) x) : x = .int k n := by
 cases h with | dat _ hr => simpa [Rep] using hr
end Go.Proofs.Ytnagpmhaddfgmaa
