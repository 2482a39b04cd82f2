/-
 Plain laws: all sets of n sites, as both sides list them: computed by the kernel for each n.
-/
import Derived.Test.YtnagpmhaddfgmaaGreatC1
import Derived.Test.YtnagpmhaddfgmaaGreatP8
namespace Go.Proofs.YtnagpmhaddfgmaaGreat
def HG (x : List Nat × List (List Int)) : Prop := ∀ i ∈ x.1, i < x.2.length
def setsOf : Nat → List (List Int)
 | 1 => [[0]]
 | 2 => [[0], [1], [0, 1]]
 | 3 => [[0], [1], [2], [0, 1], [0, 2], [1, 2], [0, 1, 2]]
 | 4 => [[0], [1], [2], [3], [0, 1], [0, 2], [0, 3], [1, 2], [1, 3], [2, 3], [0, 1, 2], [0, 1, 3], [0, 2, 3], [1, 2, 3], [0, 1, 2, 3]]
 | 5 => [[0], [1], [2], [3], [4], [0, 1], [0, 2], [0, 3], [0, 4], [1, 2], [1, 3], [1, 4], [2, 3], [2, 4], [3, 4], [0, 1, 2], [0, 1, 3], [0, 1, 4], [0, 2, 3], [0, 2, 4], [0, 3, 4], [1, 2, 3], [1, 2, 4], [1, 3, 4], [2, 3, 4], [0, 1, 2, 3], [0, 1, 2, 4], [0, 1, 3, 4], [0, 2, 3, 4], [1, 2, 3, 4], [0, 1, 2, 3, 4]]
 | 6 => [[0], [1], [2], [3], [4], [5], [0, 1], [0, 2], [0, 3], [0, 4], [0, 5], [1, 2], [1, 3], [1, 4], [1, 5], [2, 3], [2, 4], [2, 5], [3, 4], [3, 5], [4, 5], [0, 1, 2], [0, 1, 3], [0, 1, 4], [0, 1, 5], [0, 2, 3], [0, 2, 4], [0, 2, 5], [0, 3, 4], [0, 3, 5], [0, 4, 5], [1, 2, 3], [1, 2, 4], [1, 2, 5], [1, 3, 4], [1, 3, 5], [1, 4, 5], [2, 3, 4], [2, 3, 5], [2, 4, 5], [3, 4, 5], [0, 1, 2, 3], [0, 1, 2, 4], [0, 1, 2, 5], [0, 1, 3, 4], [0, 1, 3, 5], [0, 1, 4, 5], [0, 2, 3, 4], [0, 2, 3, 5], [0, 2, 4, 5], [0, 3, 4, 5], [1, 2, 3, 4], [1, 2, 3, 5], [1, 2, 4, 5], [1, 3, 4, 5], [2, 3, 4, 5], [0, 1, 2, 3, 4], [0, 1, 2, 3, 5], [0, 1, 2, 4, 5], [0, 1, 3, 4, 5], [0, 2, 3, 4, 5], [1, 2, 3, 4, 5], [0, 1, 2, 3, 4, 5]]
 | 7 => [[0], [1], [2], [3], [4], [5], [6], [0, 1], [0, 2], [0, 3], [0, 4], [0, 5], [0, 6], [1, 2], [1, 3], [1, 4], [1, 5], [1, 6], [2, 3], [2, 4], [2, 5], [2, 6], [3, 4], [3, 5], [3, 6], [4, 5], [4, 6], [5, 6], [0, 1, 2], [0, 1, 3], [0, 1, 4], [0, 1, 5], [0, 1, 6], [0, 2, 3], [0, 2, 4], [0, 2, 5], [0, 2, 6], [0, 3, 4], [0, 3, 5], [0, 3, 6], [0, 4, 5], [0, 4, 6], [0, 5, 6], [1, 2, 3], [1, 2, 4], [1, 2, 5], [1, 2, 6], [1, 3, 4], [1, 3, 5], [1, 3, 6], [1, 4, 5], [1, 4, 6], [1, 5, 6], [2, 3, 4], [2, 3, 5], [2, 3, 6], [2, 4, 5], [2, 4, 6], [2, 5, 6], [3, 4, 5], [3, 4, 6], [3, 5, 6], [4, 5, 6], [0, 1, 2, 3], [0, 1, 2, 4], [0, 1, 2, 5], [0, 1, 2, 6], [0, 1, 3, 4], [0, 1, 3, 5], [0, 1, 3, 6], [0, 1, 4, 5], [0, 1, 4, 6], [0, 1, 5, 6], [0, 2, 3, 4], [0, 2, 3, 5], [0, 2, 3, 6], [0, 2, 4, 5], [0, 2, 4, 6], [0, 2, 5, 6], [0, 3, 4, 5], [0, 3, 4, 6], [0, 3, 5, 6], [0, 4, 5, 6], [1, 2, 3, 4], [1, 2, 3, 5], [1, 2, 3, 6], [1, 2, 4, 5], [1, 2, 4, 6], [1, 2, 5, 6], [1, 3, 4, 5], [1, 3, 4, 6], [1, 3, 5, 6], [1, 4, 5, 6], [2, 3, 4, 5], [2, 3, 4, 6], [2, 3, 5, 6], [2, 4, 5, 6], [3, 4, 5, 6], [0, 1, 2, 3, 4], [0, 1, 2, 3, 5], [0, 1, 2, 3, 6], [0, 1, 2, 4, 5], [0, 1, 2, 4, 6], [0, 1, 2, 5, 6], [0, 1, 3, 4, 5], [0, 1, 3, 4, 6], [0, 1, 3, 5, 6], [0, 1, 4, 5, 6], [0, 2, 3, 4, 5], [0, 2, 3, 4, 6], [0, 2, 3, 5, 6], [0, 2, 4, 5, 6], [0, 3, 4, 5, 6], [1, 2, 3, 4, 5], [1, 2, 3, 4, 6], [1, 2, 3, 5, 6], [1, 2, 4, 5, 6], [1, 3, 4, 5, 6], [2, 3, 4, 5, 6], [0, 1, 2, 3, 4, 5], [0, 1, 2, 3, 4, 6], [0, 1, 2, 3, 5, 6], [0, 1, 2, 4, 5, 6], [0, 1, 3, 4, 5, 6], [0, 2, 3, 4, 5, 6], [1, 2, 3, 4, 5, 6], [0, 1, 2, 3, 4, 5, 6]]
 | _ => []
noncomputable def chkI (n : Nat) : Bool := match wiz (n : Int) with
 | some x => x.1.all (fun i => Nat.blt i x.2.length) && (permL x.1 x.2 == setsOf n)
 | none => false
noncomputable def chkS (n : Nat) : Bool := wlb (n : Int) == some (setsOf n)
def chkR (n : Nat) : Bool := (setsOf n).all (fun s => risingB s 0 ((n : Int) - 1) && Nat.blt 0 s.length && Nat.ble s.length 7) && Nat.beq ((setsOf n).length + 1) (2 ^ n)
theorem chkR_1 : chkR 1 = true := by kernel_rfl
theorem chkR_2 : chkR 2 = true := by kernel_rfl
theorem chkR_3 : chkR 3 = true := by kernel_rfl
theorem chkR_4 : chkR 4 = true := by kernel_rfl
theorem chkR_5 : chkR 5 = true := by kernel_rfl
theorem chkR_6 : chkR 6 = true := by kernel_rfl
theorem chkR_7 : chkR 7 = true := by kernel_rfl
theorem chk_all : ∀ n : Nat, 1 ≤ n → n ≤ 7 → chkR n = true
 | 1, _, _ => chkR_1
 | 2, _, _ => chkR_2
 | 3, _, _ => chkR_3
 | 4, _, _ => chkR_4
 | 5, _, _ => chkR_5
 | 6, _, _ => chkR_6
 | 7, _, _ => chkR_7
 | 0, h, _ => by omega
 | n + 8, _, h => by omega
theorem chkS_1 : chkS 1 = true := by kernel_rfl
theorem chkS_2 : chkS 2 = true := by kernel_rfl
theorem chkS_3 : chkS 3 = true := by kernel_rfl
theorem chkS_4 : chkS 4 = true := by kernel_rfl
theorem chkS_5 : chkS 5 = true := by kernel_rfl
theorem chkS_6 : chkS 6 = true := by kernel_rfl
theorem chkS_7 : chkS 7 = true := by kernel_rfl
theorem chk_sp : ∀ n : Nat, 1 ≤ n → n ≤ 7 → chkS n = true
 | 1, _, _ => chkS_1
 | 2, _, _ => chkS_2
 | 3, _, _ => chkS_3
 | 4, _, _ => chkS_4
 | 5, _, _ => chkS_5
 | 6, _, _ => chkS_6
 | 7, _, _ => chkS_7
 | 0, h, _ => by omega
 | n + 8, _, h => by omega
theorem chkI_1 : chkI 1 = true := by kernel_rfl
theorem chkI_2 : chkI 2 = true := by kernel_rfl
theorem chkI_3 : chkI 3 = true := by kernel_rfl
theorem chkI_4 : chkI 4 = true := by kernel_rfl
theorem chkI_5 : chkI 5 = true := by kernel_rfl
theorem chkI_6 : chkI 6 = true := by kernel_rfl
theorem chkI_7 : chkI 7 = true := by kernel_rfl
theorem chk_im : ∀ n : Nat, 1 ≤ n → n ≤ 7 → chkI n = true
 | 1, _, _ => chkI_1
 | 2, _, _ => chkI_2
 | 3, _, _ => chkI_3
 | 4, _, _ => chkI_4
 | 5, _, _ => chkI_5
 | 6, _, _ => chkI_6
 | 7, _, _ => chkI_7
 | 0, h, _ => by omega
 | n + 8, _, h => by omega
structure SetsP (n : Nat) : Prop where
 im : ∃ x, wiz (n : Int) = some x ∧ HG x ∧ permL x.1 x.2 = setsOf n
 sp : wlb (n : Int) = some (setsOf n)
 len : (setsOf n).length + 1 = 2 ^ n
 rising : ∀ s ∈ setsOf n, risingB s 0 ((n : Int) - 1) = true ∧ 0 < s.length ∧ s.length ≤ 7
theorem setsP {n : Nat} (h1 : 1 ≤ n) (h2 : n ≤ 7) : SetsP n := by
 have c3 := chk_all n h1 h2
 simp only [chkR, Bool.and_eq_true, List.all_eq_true] at c3
 have hr : ∀ s ∈ setsOf n, risingB s 0 ((n : Int) - 1) = true ∧ 0 < s.length ∧ s.length ≤ 7 := fun s hs => ⟨(c3.1 s hs).1.1, by simpa using (c3.1 s hs).1.2, by simpa using (c3.1 s hs).2⟩
 have c2 := chk_sp n h1 h2
 simp only [chkS, beq_iff_eq] at c2
 have hsp := c2
 have c1 := chk_im n h1 h2
 have hi : ∃ x, wiz (n : Int) = some x ∧ HG x ∧ permL x.1 x.2 = setsOf n := by
  unfold chkI at c1
  split at c1
  next x hx =>
   simp only [Bool.and_eq_true, List.all_eq_true, beq_iff_eq] at c1
   exact ⟨x, hx, fun i hi => by simpa using c1.1 i hi, c1.2⟩
  next => cases c1
 exact ⟨hi, hsp, Nat.eq_of_beq_eq_true c3.2, hr⟩
theorem pow2_le {n : Nat} (h : n ≤ 7) : 2 ^ n ≤ 2 ^ 7 := Nat.pow_le_pow_right (by omega) h
theorem setsP_len {n : Nat} (hS : SetsP n) (h : n ≤ 7) : (setsOf n).length ≤ 128 := by
 have h1 := hS.len
 have h2 := pow2_le h
 have h3 : 2 ^ 7 ≤ 128 := by decide
 omega
end Go.Proofs.YtnagpmhaddfgmaaGreat
