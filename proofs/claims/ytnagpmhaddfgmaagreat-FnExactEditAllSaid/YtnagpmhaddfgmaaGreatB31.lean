/-
 Contracts by hand: what a call hands back that owns nothing; functions without a body.
-/
import Derived.Test.YtnagpmhaddfgmaaGreatB30
import Derived.Lib.Bytealg
namespace Go.Proofs.YtnagpmhaddfgmaaGreat
open Go.RowKit (Below)
theorem args1 {R : AV → Value → Prop} {v : AV} {vals : Array Value} (h1 : List.length [v] = vals.size) (h2 : ∀ j u, nth [v] j = some u → R u (vals.getD j undef)) : ∃ x, vals = #[x] ∧ R v x := by
 have : vals.size = 1 := by simpa using h1.symm
 obtain ⟨x, rfl⟩ := Array.size_eq_one_iff.1 this
 exact ⟨x, rfl, h2 0 v rfl⟩
theorem args2 {R : AV → Value → Prop} {v u : AV} {vals : Array Value} (h1 : List.length [v, u] = vals.size) (h2 : ∀ j z, nth [v, u] j = some z → R z (vals.getD j undef)) : ∃ x y, vals = #[x, y] ∧ R v x ∧ R u y := by
 have : vals.size = 2 := by simpa using h1.symm
 refine ⟨vals.getD 0 undef, vals.getD 1 undef, ?_, h2 0 v rfl, h2 1 u rfl⟩
 apply Array.ext
 ·simpa using this
 ·intro i hi hi2
  have : i = 0 ∨ i = 1 := by simp at hi2; omega
  rcases this with rfl | rfl <;> simp [Array.getD, hi]
theorem int_of {P : Program} {w : World} {lo : Nat → Prop} {μ : Nat → Option MV} {S : Nat → Prop} {k : IntKind} {n : Int} {x : Value} (h : RelV P w lo μ S (.dat (.int k) n) x) : x = .int k n := by
 cases h with | dat _ hr => simpa [Rep] using hr
end Go.Proofs.YtnagpmhaddfgmaaGreat
