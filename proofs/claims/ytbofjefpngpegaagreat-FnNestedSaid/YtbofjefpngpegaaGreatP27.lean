/-
  Plain laws: all sets of n sites, as both sides list them: computed by the kernel for each n.
-/
import Derived.Test.YtbofjefpngpegaaGreatEM2
import Derived.Test.YtbofjefpngpegaaGreatP8
namespace Go.Proofs.YtbofjefpngpegaaGreat
def HG (x : List Nat × List (List Int)) : Prop := ∀ i ∈ x.1, i < x.2.length
def wau : Nat → List (List Int)
  | 1 => [[0]]
  | 2 => [[0], [1], [0, 1]]
  | 3 => [[0], [1], [2], [0, 1], [0, 2], [1, 2], [0, 1, 2]]
  | 4 => [[0], [1], [2], [3], [0, 1], [0, 2], [0, 3], [1, 2], [1, 3], [2, 3], [0, 1, 2], [0, 1, 3], [0, 2, 3], [1, 2, 3], [0, 1, 2, 3]]
  | 5 => [[0], [1], [2], [3], [4], [0, 1], [0, 2], [0, 3], [0, 4], [1, 2], [1, 3], [1, 4], [2, 3], [2, 4], [3, 4], [0, 1, 2], [0, 1, 3], [0, 1, 4], [0, 2, 3], [0, 2, 4], [0, 3, 4], [1, 2, 3], [1, 2, 4], [1, 3, 4], [2, 3, 4], [0, 1, 2, 3], [0, 1, 2, 4], [0, 1, 3, 4], [0, 2, 3, 4], [1, 2, 3, 4], [0, 1, 2, 3, 4]]
  | 6 => [[0], [1], [2], [3], [4], [5], [0, 1], [0, 2], [0, 3], [0, 4], [0, 5], [1, 2], [1, 3], [1, 4], [1, 5], [2, 3], [2, 4], [2, 5], [3, 4], [3, 5], [4, 5], [0, 1, 2], [0, 1, 3], [0, 1, 4], [0, 1, 5], [0, 2, 3], [0, 2, 4], [0, 2, 5], [0, 3, 4], [0, 3, 5], [0, 4, 5], [1, 2, 3], [1, 2, 4], [1, 2, 5], [1, 3, 4], [1, 3, 5], [1, 4, 5], [2, 3, 4], [2, 3, 5], [2, 4, 5], [3, 4, 5], [0, 1, 2, 3], [0, 1, 2, 4], [0, 1, 2, 5], [0, 1, 3, 4], [0, 1, 3, 5], [0, 1, 4, 5], [0, 2, 3, 4], [0, 2, 3, 5], [0, 2, 4, 5], [0, 3, 4, 5], [1, 2, 3, 4], [1, 2, 3, 5], [1, 2, 4, 5], [1, 3, 4, 5], [2, 3, 4, 5], [0, 1, 2, 3, 4], [0, 1, 2, 3, 5], [0, 1, 2, 4, 5], [0, 1, 3, 4, 5], [0, 2, 3, 4, 5], [1, 2, 3, 4, 5], [0, 1, 2, 3, 4, 5]]
  | 7 => [[0], [1], [2], [3], [4], [5], [6], [0, 1], [0, 2], [0, 3], [0, 4], [0, 5], [0, 6], [1, 2], [1, 3], [1, 4], [1, 5], [1, 6], [2, 3], [2, 4], [2, 5], [2, 6], [3, 4], [3, 5], [3, 6], [4, 5], [4, 6], [5, 6], [0, 1, 2], [0, 1, 3], [0, 1, 4], [0, 1, 5], [0, 1, 6], [0, 2, 3], [0, 2, 4], [0, 2, 5], [0, 2, 6], [0, 3, 4], [0, 3, 5], [0, 3, 6], [0, 4, 5], [0, 4, 6], [0, 5, 6], [1, 2, 3], [1, 2, 4], [1, 2, 5], [1, 2, 6], [1, 3, 4], [1, 3, 5], [1, 3, 6], [1, 4, 5], [1, 4, 6], [1, 5, 6], [2, 3, 4], [2, 3, 5], [2, 3, 6], [2, 4, 5], [2, 4, 6], [2, 5, 6], [3, 4, 5], [3, 4, 6], [3, 5, 6], [4, 5, 6], [0, 1, 2, 3], [0, 1, 2, 4], [0, 1, 2, 5], [0, 1, 2, 6], [0, 1, 3, 4], [0, 1, 3, 5], [0, 1, 3, 6], [0, 1, 4, 5], [0, 1, 4, 6], [0, 1, 5, 6], [0, 2, 3, 4], [0, 2, 3, 5], [0, 2, 3, 6], [0, 2, 4, 5], [0, 2, 4, 6], [0, 2, 5, 6], [0, 3, 4, 5], [0, 3, 4, 6], [0, 3, 5, 6], [0, 4, 5, 6], [1, 2, 3, 4], [1, 2, 3, 5], [1, 2, 3, 6], [1, 2, 4, 5], [1, 2, 4, 6], [1, 2, 5, 6], [1, 3, 4, 5], [1, 3, 4, 6], [1, 3, 5, 6], [1, 4, 5, 6], [2, 3, 4, 5], [2, 3, 4, 6], [2, 3, 5, 6], [2, 4, 5, 6], [3, 4, 5, 6], [0, 1, 2, 3, 4], [0, 1, 2, 3, 5], [0, 1, 2, 3, 6], [0, 1, 2, 4, 5], [0, 1, 2, 4, 6], [0, 1, 2, 5, 6], [0, 1, 3, 4, 5], [0, 1, 3, 4, 6], [0, 1, 3, 5, 6], [0, 1, 4, 5, 6], [0, 2, 3, 4, 5], [0, 2, 3, 4, 6], [0, 2, 3, 5, 6], [0, 2, 4, 5, 6], [0, 3, 4, 5, 6], [1, 2, 3, 4, 5], [1, 2, 3, 4, 6], [1, 2, 3, 5, 6], [1, 2, 4, 5, 6], [1, 3, 4, 5, 6], [2, 3, 4, 5, 6], [0, 1, 2, 3, 4, 5], [0, 1, 2, 3, 4, 6], [0, 1, 2, 3, 5, 6], [0, 1, 2, 4, 5, 6], [0, 1, 3, 4, 5, 6], [0, 2, 3, 4, 5, 6], [1, 2, 3, 4, 5, 6], [0, 1, 2, 3, 4, 5, 6]]
  | _ => []
noncomputable def chkI (n : Nat) : Bool := match waot (n : Int) with
  | some x => x.1.all (fun i => Nat.blt i x.2.length) && (waz x.1 x.2 == wau n)
  | none => false
noncomputable def chkS (n : Nat) : Bool := waoz (n : Int) == some (wau n)
def chkR (n : Nat) : Bool := (wau n).all (fun s => wbz s 0 ((n : Int) - 1) && Nat.blt 0 s.length && Nat.ble s.length 7) && Nat.beq ((wau n).length + 1) (2 ^ n)
theorem wcah : chkI 1 = true := by kernel_rfl
theorem wcai : chkS 1 = true := by kernel_rfl
theorem wcaj : chkR 1 = true := by kernel_rfl
theorem wcak : chkI 2 = true := by kernel_rfl
theorem wcal : chkS 2 = true := by kernel_rfl
theorem wcam : chkR 2 = true := by kernel_rfl
theorem wcan : chkI 3 = true := by kernel_rfl
theorem wcao : chkS 3 = true := by kernel_rfl
theorem wcap : chkR 3 = true := by kernel_rfl
theorem wcaq : chkI 4 = true := by kernel_rfl
theorem wcar : chkS 4 = true := by kernel_rfl
theorem wcas : chkR 4 = true := by kernel_rfl
theorem wcat : chkI 5 = true := by kernel_rfl
theorem wcau : chkS 5 = true := by kernel_rfl
theorem wcav : chkR 5 = true := by kernel_rfl
theorem wcaw : chkI 6 = true := by kernel_rfl
theorem wcax : chkS 6 = true := by kernel_rfl
theorem wcay : chkR 6 = true := by kernel_rfl
theorem wcaz : chkI 7 = true := by kernel_rfl
theorem wcba : chkS 7 = true := by kernel_rfl
theorem wcbb : chkR 7 = true := by kernel_rfl
theorem wbmm : ∀ n : Nat, 1 ≤ n → n ≤ 7 → chkI n = true ∧ chkS n = true ∧ chkR n = true
  | 1, _, _ => ⟨wcah, wcai, wcaj⟩
  | 2, _, _ => ⟨wcak, wcal, wcam⟩
  | 3, _, _ => ⟨wcan, wcao, wcap⟩
  | 4, _, _ => ⟨wcaq, wcar, wcas⟩
  | 5, _, _ => ⟨wcat, wcau, wcav⟩
  | 6, _, _ => ⟨wcaw, wcax, wcay⟩
  | 7, _, _ => ⟨wcaz, wcba, wcbb⟩
  | 0, h, _ => by omega
  | n + 8, _, h => by omega
structure SetsP (n : Nat) : Prop where
  im : ∃ x, wajp (n : Int) = some x ∧ HG x ∧ waz x.1 x.2 = wau n
  sp : wakf (n : Int) = some (wau n)
  len : (wau n).length + 1 = 2 ^ n
  rising : ∀ s ∈ wau n, wbz s 0 ((n : Int) - 1) = true ∧ 0 < s.length ∧ s.length ≤ 7
theorem wbac {n : Nat} (h1 : 1 ≤ n) (h2 : n ≤ 7) : SetsP n := by
  obtain ⟨c1, c2, c3⟩ := wbmm n h1 h2
  simp only [chkS, beq_iff_eq] at c2
  simp only [chkR, Bool.and_eq_true, List.all_eq_true] at c3
  refine ⟨?_, wcag _ _ c2, Nat.eq_of_beq_eq_true c3.2, fun s hs => ⟨(c3.1 s hs).1.1, by simpa using (c3.1 s hs).1.2, by simpa using (c3.1 s hs).2⟩⟩
  unfold chkI at c1
  split at c1
  next x hx =>
    simp only [Bool.and_eq_true, List.all_eq_true, beq_iff_eq] at c1
    exact ⟨x, wcaa _ _ hx, fun i hi => by simpa using c1.1 i hi, c1.2⟩
  next => cases c1
theorem wbmn {n : Nat} (h : n ≤ 7) : 2 ^ n ≤ 2 ^ 7 := Nat.pow_le_pow_right (by omega) h
theorem wvv {n : Nat} (hS : SetsP n) (h : n ≤ 7) : (wau n).length ≤ 128 := by
  have h1 := hS.len
  have h2 := wbmn h
  have h3 : 2 ^ 7 ≤ 128 := by decide
  omega
end Go.Proofs.YtbofjefpngpegaaGreat
