/-
  Plain laws: the sets of a size.
-/
import Derived.Test.YtbofjefpngpegaaP28
import Derived.Test.YtbofjefpngpegaaP8
namespace Go.Proofs.Ytbofjefpngpegaa
theorem setP_places {n : Nat} (h7 : n ≤ 7) (hS : SetsP n) {s : List Int} (hs : s ∈ setsOf n) : Places s n ∧ 0 < s.length ∧ Low1 s := by
  obtain ⟨h1, h2, h3⟩ := hS.rising s hs
  have hl : Low1 s := by unfold Low1; omega
  exact ⟨Places.of hl h1, h2, hl⟩
def ofSz (n : Nat) (k : Int) : List (List Int) := (setsOf n).filter fun s => decide ((s.length : Int) = k)
def chkNE (n : Nat) : Bool := (List.range n).all fun k => (setsOf n).any fun s => Nat.beq s.length (k + 1)
theorem chkNE_all : ∀ n : Nat, n ≤ 7 → chkNE n = true
  | 0, _ => by kernel_rfl
  | 1, _ => by kernel_rfl
  | 2, _ => by kernel_rfl
  | 3, _ => by kernel_rfl
  | 4, _ => by kernel_rfl
  | 5, _ => by kernel_rfl
  | 6, _ => by kernel_rfl
  | 7, _ => by kernel_rfl
  | n + 8, h => by omega
theorem ofSz_ne {n : Nat} (h7 : n ≤ 7) {k : Int} (h1 : 1 ≤ k) (hk : k ≤ (n : Int)) : ofSz n k ≠ [] := by
  have h := chkNE_all n h7
  unfold chkNE at h
  have h2 := List.all_eq_true.1 h (k.toNat - 1) (List.mem_range.2 (by omega))
  obtain ⟨s, hs, e⟩ := List.any_eq_true.1 h2
  have e2 := Nat.eq_of_beq_eq_true e
  intro h3
  have h4 : s ∈ ofSz n k := List.mem_filter.2 ⟨hs, by simp; omega⟩
  rw [h3] at h4
  cases h4
theorem ofSz_mem {n : Nat} {k : Int} {s : List Int} : s ∈ ofSz n k ↔ s ∈ setsOf n ∧ (s.length : Int) = k := by
  unfold ofSz
  rw [List.mem_filter, decide_eq_true_eq]
end Go.Proofs.Ytbofjefpngpegaa
