/-
 Plain laws: all sets of n sites, as both sides list them: computed by the kernel for each n.
-/
import Derived.Test.YtnagpmhaddfgmaaEM2
import Derived.Test.YtnagpmhaddfgmaaP8
namespace Go.Proofs.Ytnagpmhaddfgmaa
def waq : Nat → List (List Int)
 | 1 => [[0]]
 | 2 => [[0], [1], [0, 1]]
 | 3 => [[0], [1], [2], [0, 1], [0, 2], [1, 2], [0, 1, 2]]
 | 4 => [[0], [1], [2], [3], [0, 1], [0, 2], [0, 3], [1, 2], [1, 3], [2, 3], [0, 1, 2], [0, 1, 3], [0, 2, 3], [1, 2, 3], [0, 1, 2, 3]]
 | 5 => [[0], [1], [2], [3], [4], [0, 1], [0, 2], [0, 3], [0, 4], [1, 2], [1, 3], [1, 4], [2, 3], [2, 4], [3, 4], [0, 1, 2], [0, 1, 3], [0, 1, 4], [0, 2, 3], [0, 2, 4], [0, 3, 4], [1, 2, 3], [1, 2, 4], [1, 3, 4], [2, 3, 4], [0, 1, 2, 3], [0, 1, 2, 4], [0, 1, 3, 4], [0, 2, 3, 4], [1, 2, 3, 4], [0, 1, 2, 3, 4]]
 | 6 => [[0], [1], [2], [3], [4], [5], [0, 1], [0, 2], [0, 3], [0, 4], [0, 5], [1, 2], [1, 3], [1, 4], [1, 5], [2, 3], [2, 4], [2, 5], [3, 4], [3, 5], [4, 5], [0, 1, 2], [0, 1, 3], [0, 1, 4], [0, 1, 5], [0, 2, 3], [0, 2, 4], [0, 2, 5], [0, 3, 4], [0, 3, 5], [0, 4, 5], [1, 2, 3], [1, 2, 4], [1, 2, 5], [1, 3, 4], [1, 3, 5], [1, 4, 5], [2, 3, 4], [2, 3, 5], [2, 4, 5], [3, 4, 5], [0, 1, 2, 3], [0, 1, 2, 4], [0, 1, 2, 5], [0, 1, 3, 4], [0, 1, 3, 5], [0, 1, 4, 5], [0, 2, 3, 4], [0, 2, 3, 5], [0, 2, 4, 5], [0, 3, 4, 5], [1, 2, 3, 4], [1, 2, 3, 5], [1, 2, 4, 5], [1, 3, 4, 5], [2, 3, 4, 5], [0, 1, 2, 3, 4], [0, 1, 2, 3, 5], [0, 1, 2, 4, 5], [0, 1, 3, 4, 5], [0, 2, 3, 4, 5], [1, 2, 3, 4, 5], [0, 1, 2, 3, 4, 5]]
 | 7 => [[0], [1], [2], [3], [4], [5], [6], [0, 1], [0, 2], [0, 3], [0, 4], [0, 5], [0, 6], [1, 2], [1, 3], [1, 4], [1, 5], [1, 6], [2, 3], [2, 4], [2, 5], [2, 6], [3, 4], [3, 5], [3, 6], [4, 5], [4, 6], [5, 6], [0, 1, 2], [0, 1, 3], [0, 1, 4], [0, 1, 5], [0, 1, 6], [0, 2, 3], [0, 2, 4], [0, 2, 5], [0, 2, 6], [0, 3, 4], [0, 3, 5], [0, 3, 6], [0, 4, 5], [0, 4, 6], [0, 5, 6], [1, 2, 3], [1, 2, 4], [1, 2, 5], [1, 2, 6], [1, 3, 4], [1, 3, 5], [1, 3, 6], [1, 4, 5], [1, 4, 6], [1, 5, 6], [2, 3, 4], [2, 3, 5], [2, 3, 6], [2, 4, 5], [2, 4, 6], [2, 5, 6], [3, 4, 5], [3, 4, 6], [3, 5, 6], [4, 5, 6], [0, 1, 2, 3], [0, 1, 2, 4], [0, 1, 2, 5], [0, 1, 2, 6], [0, 1, 3, 4], [0, 1, 3, 5], [0, 1, 3, 6], [0, 1, 4, 5], [0, 1, 4, 6], [0, 1, 5, 6], [0, 2, 3, 4], [0, 2, 3, 5], [0, 2, 3, 6], [0, 2, 4, 5], [0, 2, 4, 6], [0, 2, 5, 6], [0, 3, 4, 5], [0, 3, 4, 6], [0, 3, 5, 6], [0, 4, 5, 6], [1, 2, 3, 4], [1, 2, 3, 5], [1, 2, 3, 6], [1, 2, 4, 5], [1, 2, 4, 6], [1, 2, 5, 6], [1, 3, 4, 5], [1, 3, 4, 6], [1, 3, 5, 6], [1, 4, 5, 6], [2, 3, 4, 5], [2, 3, 4, 6], [2, 3, 5, 6], [2, 4, 5, 6], [3, 4, 5, 6], [0, 1, 2, 3, 4], [0, 1, 2, 3, 5], [0, 1, 2, 3, 6], [0, 1, 2, 4, 5], [0, 1, 2, 4, 6], [0, 1, 2, 5, 6], [0, 1, 3, 4, 5], [0, 1, 3, 4, 6], [0, 1, 3, 5, 6], [0, 1, 4, 5, 6], [0, 2, 3, 4, 5], [0, 2, 3, 4, 6], [0, 2, 3, 5, 6], [0, 2, 4, 5, 6], [0, 3, 4, 5, 6], [1, 2, 3, 4, 5], [1, 2, 3, 4, 6], [1, 2, 3, 5, 6], [1, 2, 4, 5, 6], [1, 3, 4, 5, 6], [2, 3, 4, 5, 6], [0, 1, 2, 3, 4, 5], [0, 1, 2, 3, 4, 6], [0, 1, 2, 3, 5, 6], [0, 1, 2, 4, 5, 6], [0, 1, 3, 4, 5, 6], [0, 2, 3, 4, 5, 6], [1, 2, 3, 4, 5, 6], [0, 1, 2, 3, 4, 5, 6]]
 | _ => []
noncomputable def chkI (n : Nat) : Bool := match wbde (n : Int) with
 | some x => x == waq n
 | none => false
noncomputable def chkS (n : Nat) : Bool := waie (n : Int) == some (waq n)
def chkR (n : Nat) : Bool := (waq n).all (fun s => wgc s 0 ((n : Int) - 1) && Nat.blt 0 s.length && Nat.ble s.length 7) && Nat.beq ((waq n).length + 1) (2 ^ n)
theorem wbiy : chkR 1 = true := by kernel_rfl
theorem wbiz : chkR 2 = true := by kernel_rfl
theorem wbja : chkR 3 = true := by kernel_rfl
theorem wbjb : chkR 4 = true := by kernel_rfl
theorem wbjc : chkR 5 = true := by kernel_rfl
theorem wbjd : chkR 6 = true := by kernel_rfl
theorem wbje : chkR 7 = true := by kernel_rfl
theorem wbdl : ∀ n : Nat, 1 ≤ n → n ≤ 7 → chkR n = true
 | 1, _, _ => wbiy
 | 2, _, _ => wbiz
 | 3, _, _ => wbja
 | 4, _, _ => wbjb
 | 5, _, _ => wbjc
 | 6, _, _ => wbjd
 | 7, _, _ => wbje
 | 0, h, _ => by omega
 | n + 8, _, h => by omega
theorem wbjf : chkS 1 = true := by kernel_rfl
theorem wbjg : chkS 2 = true := by kernel_rfl
theorem wbjh : chkS 3 = true := by kernel_rfl
theorem wbji : chkS 4 = true := by kernel_rfl
theorem wbjj : chkS 5 = true := by kernel_rfl
theorem wbjk : chkS 6 = true := by kernel_rfl
theorem wbjl : chkS 7 = true := by kernel_rfl
theorem wbjm : ∀ n : Nat, 1 ≤ n → n ≤ 7 → chkS n = true
 | 1, _, _ => wbjf
 | 2, _, _ => wbjg
 | 3, _, _ => wbjh
 | 4, _, _ => wbji
 | 5, _, _ => wbjj
 | 6, _, _ => wbjk
 | 7, _, _ => wbjl
 | 0, h, _ => by omega
 | n + 8, _, h => by omega
theorem wbjn : chkI 1 = true := by kernel_rfl
theorem wbjo : chkI 2 = true := by kernel_rfl
theorem wbjp : chkI 3 = true := by kernel_rfl
theorem wbjq : chkI 4 = true := by kernel_rfl
theorem wbjr : chkI 5 = true := by kernel_rfl
theorem wbjs : chkI 6 = true := by kernel_rfl
theorem wbjt : chkI 7 = true := by kernel_rfl
theorem wbju : ∀ n : Nat, 1 ≤ n → n ≤ 7 → chkI n = true
 | 1, _, _ => wbjn
 | 2, _, _ => wbjo
 | 3, _, _ => wbjp
 | 4, _, _ => wbjq
 | 5, _, _ => wbjr
 | 6, _, _ => wbjs
 | 7, _, _ => wbjt
 | 0, h, _ => by omega
 | n + 8, _, h => by omega
structure SetsP (n : Nat) : Prop where
 im : F_zy (n : Int) = some (waq n)
 sp : wafr (n : Int) = some (waq n)
 len : (waq n).length + 1 = 2 ^ n
 rising : ∀ s ∈ waq n, wgc s 0 ((n : Int) - 1) = true ∧ 0 < s.length ∧ s.length ≤ 7
theorem waqp {n : Nat} (h1 : 1 ≤ n) (h2 : n ≤ 7) : SetsP n := by
 have c3 := wbdl n h1 h2
 simp only [chkR, Bool.and_eq_true, List.all_eq_true] at c3
 have hr : ∀ s ∈ waq n, wgc s 0 ((n : Int) - 1) = true ∧ 0 < s.length ∧ s.length ≤ 7 := fun s hs => ⟨(c3.1 s hs).1.1, by simpa using (c3.1 s hs).1.2, by simpa using (c3.1 s hs).2⟩
 have c2 := wbjm n h1 h2
 simp only [chkS, beq_iff_eq] at c2
 have hsp := wbhx _ _ c2
 have c1 := wbju n h1 h2
 have hi : F_zy (n : Int) = some (waq n) := by
  unfold chkI at c1
  split at c1
  next x hx =>
   rw [← beq_iff_eq.1 c1]
   exact wbsw _ _ hx
  next => cases c1
 exact ⟨hi, hsp, Nat.eq_of_beq_eq_true c3.2, hr⟩
theorem wbdm {n : Nat} (h : n ≤ 7) : 2 ^ n ≤ 2 ^ 7 := Nat.pow_le_pow_right (by omega) h
theorem whd {n : Nat} (hS : SetsP n) (h : n ≤ 7) : (waq n).length ≤ 128 := by
 have h1 := hS.len
 have h2 := wbdm h
 have h3 : 2 ^ 7 ≤ 128 := by decide
 omega
end Go.Proofs.Ytnagpmhaddfgmaa
