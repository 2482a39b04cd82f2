/-
  Plain rules for rounds that count.
-/
import Derived.Test.YtlemejhffpkbkaaB27
namespace Go.Proofs.Ytlemejhffpkbkaa
theorem wrap64 {n : Int} (h1 : -9223372036854775808 ≤ n) (h2 : n < 9223372036854775808) : IntKind.wrap .i64 n = n := by
  unfold IntKind.wrap
  simp only [IntKind.bits, IntKind.signed]
  simp
  omega
def forN {S R : Type} (g : Nat → S → Option (S ⊕ R)) (fin : S → R) : Nat → Nat → S → Option R
  | 0, _, s => some (fin s)
  | k + 1, i, s => match g i s with
    | some (.inl s') => forN g fin k (i + 1) s'
    | some (.inr r) => some r
    | none => none
theorem iter_forN {V R S : Type} {f : V → Option (V ⊕ R)} {mk : Nat → S → V} {n : Nat} {g : Nat → S → Option (S ⊕ R)} {fin : S → R}
    (h : ∀ i s, i < n → f (mk i s) = match g i s with
      | some (.inl s') => some (.inl (mk (i + 1) s'))
      | some (.inr r) => some (.inr r)
      | none => none) (hend : ∀ s, f (mk n s) = some (.inr (fin s))) : ∀ (k i : Nat) (s : S), i + k = n → iter f (mk i s) = forN g fin k i s
  | 0, i, s, hk => by
    have : i = n := by omega
    subst this
    rw [iter_eq, hend]
    rfl
  | k + 1, i, s, hk => by
    rw [iter_eq, h i s (by omega)]
    simp only [forN]
    cases hg : g i s with
    | none => rfl
    | some x =>
      cases x with
      | inl s' => exact iter_forN h hend k (i + 1) s' (by omega)
      | inr r => rfl
theorem iter_scan {R : Type} {f : Int → Option (Int ⊕ R)} {n : Nat} {stop : Nat → Option R} {fin : R} (hn : (n : Int) < 9223372036854775808)
    (h : ∀ i : Nat, i < n → (∀ j, j < i → stop j = none) → f (i : Int) = some (match stop i with
      | some r => .inr r
      | none => .inl (IntKind.wrap .i64 ((i : Int) + 1)))) (hend : f (n : Int) = some (.inr fin)) : iter f 0 = some (((List.range n).findSome? stop).getD fin) := by
  have key : ∀ (k i : Nat), i + k = n → (∀ j, j < i → stop j = none) → iter f (i : Int) = some (((List.range' i k).findSome? stop).getD fin) := by
    intro k
    induction k with
    | zero =>
      intro i hk _
      have : i = n := by omega
      subst this
      rw [iter_eq, hend]
      rfl
    | succ k ih =>
      intro i hk hj
      rw [iter_eq, h i (by omega) hj, List.range'_succ, List.findSome?_cons]
      cases hs : stop i with
      | some r => rfl
      | none =>
        simp only
        rw [wrap64 (by omega) (by omega), show ((i : Int) + 1) = ((i + 1 : Nat) : Int) by simp]
        exact ih (i + 1) (by omega) fun j hj' => by
          by_cases e : j = i
          · rw [e]; exact hs
          · exact hj j (by omega)
  have := key n 0 (by omega) fun j hj => absurd hj (Nat.not_lt_zero _)
  rw [List.range_eq_range']
  exact this
theorem iter_all {f : Int → Option (Int ⊕ (Unit ⊕ Unit))} {n : Nat} {p : Nat → Bool} (hn : (n : Int) < 9223372036854775808)
    (h : ∀ i : Nat, i < n → (∀ j, j < i → p j = true) → f (i : Int) = some (match p i with
      | true => .inl (IntKind.wrap .i64 ((i : Int) + 1))
      | false => .inr (.inr ()))) (hend : f (n : Int) = some (.inr (.inl ()))) : iter f 0 = some (match (List.range n).all p with
      | true => .inl ()
      | false => .inr ()) := by
  have key : ∀ (k i : Nat), i + k = n → (∀ j, j < i → p j = true) → iter f (i : Int) = some (match (List.range' i k).all p with
      | true => .inl ()
      | false => .inr ()) := by
    intro k
    induction k with
    | zero =>
      intro i hk _
      have : i = n := by omega
      subst this
      rw [iter_eq, hend]
      rfl
    | succ k ih =>
      intro i hk hj
      rw [iter_eq, h i (by omega) hj, List.range'_succ, List.all_cons]
      cases hs : p i with
      | false => rfl
      | true =>
        simp only [Bool.true_and]
        rw [wrap64 (by omega) (by omega), show ((i : Int) + 1) = ((i + 1 : Nat) : Int) by simp]
        exact ih (i + 1) (by omega) fun j hj' => by
          by_cases e : j = i
          · rw [e]; exact hs
          · exact hj j (by omega)
  have := key n 0 (by omega) fun j hj => absurd hj (Nat.not_lt_zero _)
  rw [List.range_eq_range']
  exact this
theorem inR_nat {i n : Nat} (h : i < n) : inR (i : Int) n = true := by
  unfold inR
  simp
  omega
theorem toNat_nat (i : Nat) : Int.toNat (i : Int) = i := rfl
end Go.Proofs.Ytlemejhffpkbkaa
