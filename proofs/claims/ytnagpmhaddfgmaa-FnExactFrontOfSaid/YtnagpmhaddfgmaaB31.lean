/-
 Contracts by hand: what a call hands back that owns nothing; functions without a body.
-/
import Derived.Test.YtnagpmhaddfgmaaB30
import Derived.Lib.Bytealg
namespace Go.Proofs.Ytnagpmhaddfgmaa
open Go.RowKit (Below)
theorem watt [Tabs] {P : Program} {X lo : Nat → Prop} {w w' : World} {μi : Nat → Option MV} {t : Ty} {v : t.I} {x : Value} (ht : t.size = 1) (hr : ∀ S, Rep S w' t v [x]) (hk : Kept lo w w') (hX : ∀ b, X b → lo b) (hlo : ∀ b, lo b → b < w.heap.size)
  (htab : TabsOK w lo) : wadn P X lo w w' μi ([.dat t v], []) x :=
 ⟨hk, fun _ => none, ⟨hX, fun b hb => Nat.lt_of_lt_of_le (hlo b hb) hk.size, fun o mv h => (by cases h), fun o p mv mv' b h => (by cases h), htab.step hk.block⟩, fun o mv h => (by cases h), fun p hp => (by cases hp), .inl ⟨_, rfl, .dat ht (hr _)⟩⟩
theorem wbll {R : AV → Value → Prop} {v u : AV} {vals : Array Value} (h1 : List.length [v, u] = vals.size) (h2 : ∀ j z, nth [v, u] j = some z → R z (vals.getD j undef)) : ∃ x y, vals = #[x, y] ∧ R v x ∧ R u y := by
 have : vals.size = 2 := by simpa using h1.symm
 refine ⟨vals.getD 0 undef, vals.getD 1 undef, ?_, h2 0 v rfl, h2 1 u rfl⟩
 apply Array.ext
 ·simpa using this
 ·intro i hi hi2
  have : i = 0 ∨ i = 1 := by simp at hi2; omega
  rcases this with rfl | rfl <;> simp [Array.getD, hi]
theorem warl {P : Program} {w : World} {lo : Nat → Prop} {μ : Nat → Option MV} {S : Nat → Prop} {k : IntKind} {n : Int} {x : Value} (h : RelV P w lo μ S (.dat (.int k) n) x) : x = .int k n := by
 cases h with | dat _ hr => simpa [Rep] using hr
end Go.Proofs.Ytnagpmhaddfgmaa
