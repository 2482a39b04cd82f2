/-
 Plain laws: the cursor from which inputs are drawn.
-/
import Derived.Test.YtnagpmhaddfgmaaGreatPM
import Derived.Test.YtnagpmhaddfgmaaGreatP7
namespace Go.Proofs.YtnagpmhaddfgmaaGreat
open Go
def CK (B : Int) (l : List Int) (i : Int) : Prop := (∀ x ∈ l, 0 ≤ x ∧ x ≤ 255) ∧ l.length ≤ 100000 ∧ 0 ≤ i ∧ i ≤ B
theorem CK.mono {B B' : Int} {l : List Int} {i : Int} (h : CK B l i) (hb : B ≤ B') : CK B' l i := ⟨h.1, h.2.1, h.2.2.1, by have := h.2.2.2; omega⟩
theorem iter_cnt {V R : Type} {f : V → Option (V ⊕ R)} {n : Nat} (P : Nat → V → Prop) (Q : R → Prop) (hs : ∀ k v, k < n → P k v → ∃ v', f v = some (.inl v') ∧ P (k + 1) v') (he : ∀ v, P n v → ∃ r, f v = some (.inr r) ∧ Q r) {v : V} (h0 : P 0 v) : ∃ r, iter f v = some r ∧ Q r := by
 have key : ∀ m k v, k + m = n → P k v → ∃ r, iter f v = some r ∧ Q r := by
  intro m
  induction m with
  | zero =>
   intro k v hk hp
   have : k = n := by omega
   subst this
   obtain ⟨r, h1, h2⟩ := he v hp
   exact ⟨r, by rw [iter_eq, h1], h2⟩
  | succ m ih =>
   intro k v hk hp
   obtain ⟨v', h1, h2⟩ := hs k v (by omega) hp
   obtain ⟨r, h3, h4⟩ := ih (k + 1) v' (by omega) h2
   exact ⟨r, by rw [iter_eq, h1]; exact h3, h4⟩
 exact key n 0 v (by omega) h0
theorem room8 (l : List Int) (x : Int) (h : l.length ≤ 1000000) : (l.length + List.length ([x] : List Int)) * 8 ≤ 140737488355328 := by simp; omega
theorem room24 {α : Type} (l : List α) (h : l.length ≤ 1000000) : (l.length + 1) * 24 ≤ 140737488355328 := by omega
theorem set_end {α : Type} (l : List (List α)) (x : List α) : List.set (l ++ [[]]) l.length x = l ++ [x] := by
 rw [List.set_append_right _ _ (Nat.le_refl _)]
 simp
end Go.Proofs.YtnagpmhaddfgmaaGreat
