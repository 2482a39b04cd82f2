/-
 Contracts by hand: what a call hands back that owns nothing; functions without a body.
-/
import Derived.Test.YtnagpmhaddfgmaaGreatB30
import Derived.Lib.Bytealg
namespace Go.Proofs.YtnagpmhaddfgmaaGreat
open Go.RowKit (Below)
theorem args1 {R : AV → Value → Prop} {v : AV} {vals : Array Value} (h1 : List.length [v] = vals.size) (h2 : ∀ j u, nth [v] j = some u → R u (vals.getD j undef)) : ∃ x, vals = #[x] ∧ R v x := by
 have : vals.size = 1 := by simpa using h1.symm
 obtain ⟨x, rfl⟩ := Array.size_eq_one_iff.1 this
 exact ⟨x, rfl, h2 0 v rfl⟩
theorem int_of {P : Program} {w : World} {lo : Nat → Prop} {μ : Nat → Option MV} {S : Nat → Prop} {k : IntKind} {n : Int} {x : Value} (h : RelV P w lo μ S (.dat (.int k) n) x) : x = .int k n := by
 cases h with | dat _ hr => simpa [Rep] using hr
end Go.Proofs.YtnagpmhaddfgmaaGreat
