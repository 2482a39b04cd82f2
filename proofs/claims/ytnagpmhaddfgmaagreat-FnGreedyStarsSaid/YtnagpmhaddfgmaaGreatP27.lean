/-
 Plain laws: all sets of n sites, as both sides list them: computed by the kernel for each n.
-/
import Derived.Test.YtnagpmhaddfgmaaGreatEM2
import Derived.Test.YtnagpmhaddfgmaaGreatP8
namespace Go.Proofs.YtnagpmhaddfgmaaGreat
def HG (x : List Nat × List (List Int)) : Prop := ∀ i ∈ x.1, i < x.2.length
def wdu : Nat → List (List Int)
 | 1 => [[0]]
 | 2 => [[0], [1], [0, 1]]
 | 3 => [[0], [1], [2], [0, 1], [0, 2], [1, 2], [0, 1, 2]]
 | 4 => [[0], [1], [2], [3], [0, 1], [0, 2], [0, 3], [1, 2], [1, 3], [2, 3], [0, 1, 2], [0, 1, 3], [0, 2, 3], [1, 2, 3], [0, 1, 2, 3]]
 | 5 => [[0], [1], [2], [3], [4], [0, 1], [0, 2], [0, 3], [0, 4], [1, 2], [1, 3], [1, 4], [2, 3], [2, 4], [3, 4], [0, 1, 2], [0, 1, 3], [0, 1, 4], [0, 2, 3], [0, 2, 4], [0, 3, 4], [1, 2, 3], [1, 2, 4], [1, 3, 4], [2, 3, 4], [0, 1, 2, 3], [0, 1, 2, 4], [0, 1, 3, 4], [0, 2, 3, 4], [1, 2, 3, 4], [0, 1, 2, 3, 4]]
 | 6 => [[0], [1], [2], [3], [4], [5], [0, 1], [0, 2], [0, 3], [0, 4], [0, 5], [1, 2], [1, 3], [1, 4], [1, 5], [2, 3], [2, 4], [2, 5], [3, 4], [3, 5], [4, 5], [0, 1, 2], [0, 1, 3], [0, 1, 4], [0, 1, 5], [0, 2, 3], [0, 2, 4], [0, 2, 5], [0, 3, 4], [0, 3, 5], [0, 4, 5], [1, 2, 3], [1, 2, 4], [1, 2, 5], [1, 3, 4], [1, 3, 5], [1, 4, 5], [2, 3, 4], [2, 3, 5], [2, 4, 5], [3, 4, 5], [0, 1, 2, 3], [0, 1, 2, 4], [0, 1, 2, 5], [0, 1, 3, 4], [0, 1, 3, 5], [0, 1, 4, 5], [0, 2, 3, 4], [0, 2, 3, 5], [0, 2, 4, 5], [0, 3, 4, 5], [1, 2, 3, 4], [1, 2, 3, 5], [1, 2, 4, 5], [1, 3, 4, 5], [2, 3, 4, 5], [0, 1, 2, 3, 4], [0, 1, 2, 3, 5], [0, 1, 2, 4, 5], [0, 1, 3, 4, 5], [0, 2, 3, 4, 5], [1, 2, 3, 4, 5], [0, 1, 2, 3, 4, 5]]
 | 7 => [[0], [1], [2], [3], [4], [5], [6], [0, 1], [0, 2], [0, 3], [0, 4], [0, 5], [0, 6], [1, 2], [1, 3], [1, 4], [1, 5], [1, 6], [2, 3], [2, 4], [2, 5], [2, 6], [3, 4], [3, 5], [3, 6], [4, 5], [4, 6], [5, 6], [0, 1, 2], [0, 1, 3], [0, 1, 4], [0, 1, 5], [0, 1, 6], [0, 2, 3], [0, 2, 4], [0, 2, 5], [0, 2, 6], [0, 3, 4], [0, 3, 5], [0, 3, 6], [0, 4, 5], [0, 4, 6], [0, 5, 6], [1, 2, 3], [1, 2, 4], [1, 2, 5], [1, 2, 6], [1, 3, 4], [1, 3, 5], [1, 3, 6], [1, 4, 5], [1, 4, 6], [1, 5, 6], [2, 3, 4], [2, 3, 5], [2, 3, 6], [2, 4, 5], [2, 4, 6], [2, 5, 6], [3, 4, 5], [3, 4, 6], [3, 5, 6], [4, 5, 6], [0, 1, 2, 3], [0, 1, 2, 4], [0, 1, 2, 5], [0, 1, 2, 6], [0, 1, 3, 4], [0, 1, 3, 5], [0, 1, 3, 6], [0, 1, 4, 5], [0, 1, 4, 6], [0, 1, 5, 6], [0, 2, 3, 4], [0, 2, 3, 5], [0, 2, 3, 6], [0, 2, 4, 5], [0, 2, 4, 6], [0, 2, 5, 6], [0, 3, 4, 5], [0, 3, 4, 6], [0, 3, 5, 6], [0, 4, 5, 6], [1, 2, 3, 4], [1, 2, 3, 5], [1, 2, 3, 6], [1, 2, 4, 5], [1, 2, 4, 6], [1, 2, 5, 6], [1, 3, 4, 5], [1, 3, 4, 6], [1, 3, 5, 6], [1, 4, 5, 6], [2, 3, 4, 5], [2, 3, 4, 6], [2, 3, 5, 6], [2, 4, 5, 6], [3, 4, 5, 6], [0, 1, 2, 3, 4], [0, 1, 2, 3, 5], [0, 1, 2, 3, 6], [0, 1, 2, 4, 5], [0, 1, 2, 4, 6], [0, 1, 2, 5, 6], [0, 1, 3, 4, 5], [0, 1, 3, 4, 6], [0, 1, 3, 5, 6], [0, 1, 4, 5, 6], [0, 2, 3, 4, 5], [0, 2, 3, 4, 6], [0, 2, 3, 5, 6], [0, 2, 4, 5, 6], [0, 3, 4, 5, 6], [1, 2, 3, 4, 5], [1, 2, 3, 4, 6], [1, 2, 3, 5, 6], [1, 2, 4, 5, 6], [1, 3, 4, 5, 6], [2, 3, 4, 5, 6], [0, 1, 2, 3, 4, 5], [0, 1, 2, 3, 4, 6], [0, 1, 2, 3, 5, 6], [0, 1, 2, 4, 5, 6], [0, 1, 3, 4, 5, 6], [0, 2, 3, 4, 5, 6], [1, 2, 3, 4, 5, 6], [0, 1, 2, 3, 4, 5, 6]]
 | _ => []
noncomputable def chkI (n : Nat) : Bool := match warb (n : Int) with
 | some x => x.1.all (fun i => Nat.blt i x.2.length) && (wdq x.1 x.2 == wdu n)
 | none => false
def chkR (n : Nat) : Bool := (wdu n).all (fun s => wch s 0 ((n : Int) - 1) && Nat.blt 0 s.length && Nat.ble s.length 7) && Nat.beq ((wdu n).length + 1) (2 ^ n)
theorem wbvk : chkR 1 = true := by kernel_rfl
theorem wbvl : chkR 2 = true := by kernel_rfl
theorem wbvm : chkR 3 = true := by kernel_rfl
theorem wbvn : chkR 4 = true := by kernel_rfl
theorem wbvo : chkR 5 = true := by kernel_rfl
theorem wbvp : chkR 6 = true := by kernel_rfl
theorem wbvq : chkR 7 = true := by kernel_rfl
theorem wbpa : ∀ n : Nat, 1 ≤ n → n ≤ 7 → chkR n = true
 | 1, _, _ => wbvk
 | 2, _, _ => wbvl
 | 3, _, _ => wbvm
 | 4, _, _ => wbvn
 | 5, _, _ => wbvo
 | 6, _, _ => wbvp
 | 7, _, _ => wbvq
 | 0, h, _ => by omega
 | n + 8, _, h => by omega
theorem wbvr : chkI 1 = true := by kernel_rfl
theorem wbvs : chkI 2 = true := by kernel_rfl
theorem wbvt : chkI 3 = true := by kernel_rfl
theorem wbvu : chkI 4 = true := by kernel_rfl
theorem wbvv : chkI 5 = true := by kernel_rfl
theorem wbvw : chkI 6 = true := by kernel_rfl
theorem wbvx : chkI 7 = true := by kernel_rfl
theorem wbvy : ∀ n : Nat, 1 ≤ n → n ≤ 7 → chkI n = true
 | 1, _, _ => wbvr
 | 2, _, _ => wbvs
 | 3, _, _ => wbvt
 | 4, _, _ => wbvu
 | 5, _, _ => wbvv
 | 6, _, _ => wbvw
 | 7, _, _ => wbvx
 | 0, h, _ => by omega
 | n + 8, _, h => by omega
structure SetsP (n : Nat) : Prop where
 im : ∃ x, wahq (n : Int) = some x ∧ HG x ∧ wdq x.1 x.2 = wdu n
 len : (wdu n).length + 1 = 2 ^ n
 rising : ∀ s ∈ wdu n, wch s 0 ((n : Int) - 1) = true ∧ 0 < s.length ∧ s.length ≤ 7
theorem wbpb {n : Nat} (h1 : 1 ≤ n) (h2 : n ≤ 7) : SetsP n := by
 have c3 := wbpa n h1 h2
 simp only [chkR, Bool.and_eq_true, List.all_eq_true] at c3
 have hr : ∀ s ∈ wdu n, wch s 0 ((n : Int) - 1) = true ∧ 0 < s.length ∧ s.length ≤ 7 := fun s hs => ⟨(c3.1 s hs).1.1, by simpa using (c3.1 s hs).1.2, by simpa using (c3.1 s hs).2⟩
 have c1 := wbvy n h1 h2
 have hi : ∃ x, wahq (n : Int) = some x ∧ HG x ∧ wdq x.1 x.2 = wdu n := by
  unfold chkI at c1
  split at c1
  next x hx =>
   simp only [Bool.and_eq_true, List.all_eq_true, beq_iff_eq] at c1
   exact ⟨x, wbvj _ _ hx, fun i hi => by simpa using c1.1 i hi, c1.2⟩
  next => cases c1
 exact ⟨hi, Nat.eq_of_beq_eq_true c3.2, hr⟩
theorem wbpc {n : Nat} (h : n ≤ 7) : 2 ^ n ≤ 2 ^ 7 := Nat.pow_le_pow_right (by omega) h
theorem warc {n : Nat} (hS : SetsP n) (h : n ≤ 7) : (wdu n).length ≤ 128 := by
 have h1 := hS.len
 have h2 := wbpc h
 have h3 : 2 ^ 7 ≤ 128 := by decide
 omega
end Go.Proofs.YtnagpmhaddfgmaaGreat
