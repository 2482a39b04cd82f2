/-
 Plain laws: all sets of n sites, as both sides list them: computed by the kernel for each n.
-/
import Derived.Test.YtnagpmhaddfgmaaEM2
import Derived.Test.YtnagpmhaddfgmaaP8
namespace Go.Proofs.Ytnagpmhaddfgmaa
def HG (x : List Nat × List (List Int)) : Prop := ∀ i ∈ x.1, i < x.2.length
def wdt : Nat → List (List Int)
 | 1 => [[0]]
 | 2 => [[0], [1], [0, 1]]
 | 3 => [[0], [1], [2], [0, 1], [0, 2], [1, 2], [0, 1, 2]]
 | 4 => [[0], [1], [2], [3], [0, 1], [0, 2], [0, 3], [1, 2], [1, 3], [2, 3], [0, 1, 2], [0, 1, 3], [0, 2, 3], [1, 2, 3], [0, 1, 2, 3]]
 | 5 => [[0], [1], [2], [3], [4], [0, 1], [0, 2], [0, 3], [0, 4], [1, 2], [1, 3], [1, 4], [2, 3], [2, 4], [3, 4], [0, 1, 2], [0, 1, 3], [0, 1, 4], [0, 2, 3], [0, 2, 4], [0, 3, 4], [1, 2, 3], [1, 2, 4], [1, 3, 4], [2, 3, 4], [0, 1, 2, 3], [0, 1, 2, 4], [0, 1, 3, 4], [0, 2, 3, 4], [1, 2, 3, 4], [0, 1, 2, 3, 4]]
 | 6 => [[0], [1], [2], [3], [4], [5], [0, 1], [0, 2], [0, 3], [0, 4], [0, 5], [1, 2], [1, 3], [1, 4], [1, 5], [2, 3], [2, 4], [2, 5], [3, 4], [3, 5], [4, 5], [0, 1, 2], [0, 1, 3], [0, 1, 4], [0, 1, 5], [0, 2, 3], [0, 2, 4], [0, 2, 5], [0, 3, 4], [0, 3, 5], [0, 4, 5], [1, 2, 3], [1, 2, 4], [1, 2, 5], [1, 3, 4], [1, 3, 5], [1, 4, 5], [2, 3, 4], [2, 3, 5], [2, 4, 5], [3, 4, 5], [0, 1, 2, 3], [0, 1, 2, 4], [0, 1, 2, 5], [0, 1, 3, 4], [0, 1, 3, 5], [0, 1, 4, 5], [0, 2, 3, 4], [0, 2, 3, 5], [0, 2, 4, 5], [0, 3, 4, 5], [1, 2, 3, 4], [1, 2, 3, 5], [1, 2, 4, 5], [1, 3, 4, 5], [2, 3, 4, 5], [0, 1, 2, 3, 4], [0, 1, 2, 3, 5], [0, 1, 2, 4, 5], [0, 1, 3, 4, 5], [0, 2, 3, 4, 5], [1, 2, 3, 4, 5], [0, 1, 2, 3, 4, 5]]
 | 7 => [[0], [1], [2], [3], [4], [5], [6], [0, 1], [0, 2], [0, 3], [0, 4], [0, 5], [0, 6], [1, 2], [1, 3], [1, 4], [1, 5], [1, 6], [2, 3], [2, 4], [2, 5], [2, 6], [3, 4], [3, 5], [3, 6], [4, 5], [4, 6], [5, 6], [0, 1, 2], [0, 1, 3], [0, 1, 4], [0, 1, 5], [0, 1, 6], [0, 2, 3], [0, 2, 4], [0, 2, 5], [0, 2, 6], [0, 3, 4], [0, 3, 5], [0, 3, 6], [0, 4, 5], [0, 4, 6], [0, 5, 6], [1, 2, 3], [1, 2, 4], [1, 2, 5], [1, 2, 6], [1, 3, 4], [1, 3, 5], [1, 3, 6], [1, 4, 5], [1, 4, 6], [1, 5, 6], [2, 3, 4], [2, 3, 5], [2, 3, 6], [2, 4, 5], [2, 4, 6], [2, 5, 6], [3, 4, 5], [3, 4, 6], [3, 5, 6], [4, 5, 6], [0, 1, 2, 3], [0, 1, 2, 4], [0, 1, 2, 5], [0, 1, 2, 6], [0, 1, 3, 4], [0, 1, 3, 5], [0, 1, 3, 6], [0, 1, 4, 5], [0, 1, 4, 6], [0, 1, 5, 6], [0, 2, 3, 4], [0, 2, 3, 5], [0, 2, 3, 6], [0, 2, 4, 5], [0, 2, 4, 6], [0, 2, 5, 6], [0, 3, 4, 5], [0, 3, 4, 6], [0, 3, 5, 6], [0, 4, 5, 6], [1, 2, 3, 4], [1, 2, 3, 5], [1, 2, 3, 6], [1, 2, 4, 5], [1, 2, 4, 6], [1, 2, 5, 6], [1, 3, 4, 5], [1, 3, 4, 6], [1, 3, 5, 6], [1, 4, 5, 6], [2, 3, 4, 5], [2, 3, 4, 6], [2, 3, 5, 6], [2, 4, 5, 6], [3, 4, 5, 6], [0, 1, 2, 3, 4], [0, 1, 2, 3, 5], [0, 1, 2, 3, 6], [0, 1, 2, 4, 5], [0, 1, 2, 4, 6], [0, 1, 2, 5, 6], [0, 1, 3, 4, 5], [0, 1, 3, 4, 6], [0, 1, 3, 5, 6], [0, 1, 4, 5, 6], [0, 2, 3, 4, 5], [0, 2, 3, 4, 6], [0, 2, 3, 5, 6], [0, 2, 4, 5, 6], [0, 3, 4, 5, 6], [1, 2, 3, 4, 5], [1, 2, 3, 4, 6], [1, 2, 3, 5, 6], [1, 2, 4, 5, 6], [1, 3, 4, 5, 6], [2, 3, 4, 5, 6], [0, 1, 2, 3, 4, 5], [0, 1, 2, 3, 4, 6], [0, 1, 2, 3, 5, 6], [0, 1, 2, 4, 5, 6], [0, 1, 3, 4, 5, 6], [0, 2, 3, 4, 5, 6], [1, 2, 3, 4, 5, 6], [0, 1, 2, 3, 4, 5, 6]]
 | _ => []
noncomputable def chkS (n : Nat) : Bool := waiy (n : Int) == some (wdt n)
def chkR (n : Nat) : Bool := (wdt n).all (fun s => wbn s 0 ((n : Int) - 1) && Nat.blt 0 s.length && Nat.ble s.length 7) && Nat.beq ((wdt n).length + 1) (2 ^ n)
theorem wbgj : chkS 1 = true := by kernel_rfl
theorem wbgk : chkR 1 = true := by kernel_rfl
theorem wbgl : chkS 2 = true := by kernel_rfl
theorem wbgm : chkR 2 = true := by kernel_rfl
theorem wbgn : chkS 3 = true := by kernel_rfl
theorem wbgo : chkR 3 = true := by kernel_rfl
theorem wbgp : chkS 4 = true := by kernel_rfl
theorem wbgq : chkR 4 = true := by kernel_rfl
theorem wbgr : chkS 5 = true := by kernel_rfl
theorem wbgs : chkR 5 = true := by kernel_rfl
theorem wbgt : chkS 6 = true := by kernel_rfl
theorem wbgu : chkR 6 = true := by kernel_rfl
theorem wbgv : chkS 7 = true := by kernel_rfl
theorem wbgw : chkR 7 = true := by kernel_rfl
theorem wbbu : ∀ n : Nat, 1 ≤ n → n ≤ 7 → chkS n = true ∧ chkR n = true
 | 1, _, _ => ⟨wbgj, wbgk⟩
 | 2, _, _ => ⟨wbgl, wbgm⟩
 | 3, _, _ => ⟨wbgn, wbgo⟩
 | 4, _, _ => ⟨wbgp, wbgq⟩
 | 5, _, _ => ⟨wbgr, wbgs⟩
 | 6, _, _ => ⟨wbgt, wbgu⟩
 | 7, _, _ => ⟨wbgv, wbgw⟩
 | 0, h, _ => by omega
 | n + 8, _, h => by omega
structure SetsP (n : Nat) : Prop where
 sp : wagu (n : Int) = some (wdt n)
 len : (wdt n).length + 1 = 2 ^ n
 rising : ∀ s ∈ wdt n, wbn s 0 ((n : Int) - 1) = true ∧ 0 < s.length ∧ s.length ≤ 7
theorem wbbv {n : Nat} (h1 : 1 ≤ n) (h2 : n ≤ 7) : SetsP n := by
 obtain ⟨c2, c3⟩ := wbbu n h1 h2
 simp only [chkS, beq_iff_eq] at c2
 simp only [chkR, Bool.and_eq_true, List.all_eq_true] at c3
 exact ⟨wbgi _ _ c2, Nat.eq_of_beq_eq_true c3.2, fun s hs => ⟨(c3.1 s hs).1.1, by simpa using (c3.1 s hs).1.2, by simpa using (c3.1 s hs).2⟩⟩
theorem wbbw {n : Nat} (h : n ≤ 7) : 2 ^ n ≤ 2 ^ 7 := Nat.pow_le_pow_right (by omega) h
theorem waiz {n : Nat} (hS : SetsP n) (h : n ≤ 7) : (wdt n).length ≤ 128 := by
 have h1 := hS.len
 have h2 := wbbw h
 have h3 : 2 ^ 7 ≤ 128 := by decide
 omega
end Go.Proofs.Ytnagpmhaddfgmaa
