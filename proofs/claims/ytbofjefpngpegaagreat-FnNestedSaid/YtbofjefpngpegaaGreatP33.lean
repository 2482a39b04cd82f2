/-
  Plain laws: the sets of a size.
-/
import Derived.Test.YtbofjefpngpegaaGreatP28
import Derived.Test.YtbofjefpngpegaaGreatP8
namespace Go.Proofs.YtbofjefpngpegaaGreat
theorem weo {n : Nat} (h7 : n ≤ 7) (hS : SetsP n) {s : List Int} (hs : s ∈ wau n) : Places s n ∧ 0 < s.length ∧ wdu s := by
  obtain ⟨h1, h2, h3⟩ := hS.rising s hs
  have hl : wdu s := by unfold wdu; omega
  exact ⟨Places.of hl h1, h2, hl⟩
def wwk (n : Nat) (k : Int) : List (List Int) := (wau n).filter fun s => decide ((s.length : Int) = k)
def wcbc (n : Nat) : Bool := (List.range n).all fun k => (wau n).any fun s => Nat.beq s.length (k + 1)
theorem wapb : ∀ n : Nat, n ≤ 7 → wcbc n = true
  | 0, _ => by kernel_rfl
  | 1, _ => by kernel_rfl
  | 2, _ => by kernel_rfl
  | 3, _ => by kernel_rfl
  | 4, _ => by kernel_rfl
  | 5, _ => by kernel_rfl
  | 6, _ => by kernel_rfl
  | 7, _ => by kernel_rfl
  | n + 8, h => by omega
theorem wtm {n : Nat} (h7 : n ≤ 7) {k : Int} (h1 : 1 ≤ k) (hk : k ≤ (n : Int)) : wwk n k ≠ [] := by
  have h := wapb n h7
  unfold wcbc at h
  have h2 := List.all_eq_true.1 h (k.toNat - 1) (List.mem_range.2 (by omega))
  obtain ⟨s, hs, e⟩ := List.any_eq_true.1 h2
  have e2 := Nat.eq_of_beq_eq_true e
  intro h3
  have h4 : s ∈ wwk n k := List.mem_filter.2 ⟨hs, by simp; omega⟩
  rw [h3] at h4
  cases h4
theorem wtn {n : Nat} {k : Int} {s : List Int} : s ∈ wwk n k ↔ s ∈ wau n ∧ (s.length : Int) = k := by
  unfold wwk
  rw [List.mem_filter, decide_eq_true_eq]
end Go.Proofs.YtbofjefpngpegaaGreat
