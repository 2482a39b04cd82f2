/-
 Plain laws: all sets of n sites, as both sides list them: computed by the kernel for each n.
-/
import Derived.Test.YtnagpmhaddfgmaaGreatEM2
import Derived.Test.YtnagpmhaddfgmaaGreatP8
namespace Go.Proofs.YtnagpmhaddfgmaaGreat
def HG (x : List Nat × List (List Int)) : Prop := ∀ i ∈ x.1, i < x.2.length
def wbf : Nat → List (List Int)
 | 1 => [[0]]
 | 2 => [[0], [1], [0, 1]]
 | 3 => [[0], [1], [2], [0, 1], [0, 2], [1, 2], [0, 1, 2]]
 | 4 => [[0], [1], [2], [3], [0, 1], [0, 2], [0, 3], [1, 2], [1, 3], [2, 3], [0, 1, 2], [0, 1, 3], [0, 2, 3], [1, 2, 3], [0, 1, 2, 3]]
 | 5 => [[0], [1], [2], [3], [4], [0, 1], [0, 2], [0, 3], [0, 4], [1, 2], [1, 3], [1, 4], [2, 3], [2, 4], [3, 4], [0, 1, 2], [0, 1, 3], [0, 1, 4], [0, 2, 3], [0, 2, 4], [0, 3, 4], [1, 2, 3], [1, 2, 4], [1, 3, 4], [2, 3, 4], [0, 1, 2, 3], [0, 1, 2, 4], [0, 1, 3, 4], [0, 2, 3, 4], [1, 2, 3, 4], [0, 1, 2, 3, 4]]
 | 6 => [[0], [1], [2], [3], [4], [5], [0, 1], [0, 2], [0, 3], [0, 4], [0, 5], [1, 2], [1, 3], [1, 4], [1, 5], [2, 3], [2, 4], [2, 5], [3, 4], [3, 5], [4, 5], [0, 1, 2], [0, 1, 3], [0, 1, 4], [0, 1, 5], [0, 2, 3], [0, 2, 4], [0, 2, 5], [0, 3, 4], [0, 3, 5], [0, 4, 5], [1, 2, 3], [1, 2, 4], [1, 2, 5], [1, 3, 4], [1, 3, 5], [1, 4, 5], [2, 3, 4], [2, 3, 5], [2, 4, 5], [3, 4, 5], [0, 1, 2, 3], [0, 1, 2, 4], [0, 1, 2, 5], [0, 1, 3, 4], [0, 1, 3, 5], [0, 1, 4, 5], [0, 2, 3, 4], [0, 2, 3, 5], [0, 2, 4, 5], [0, 3, 4, 5], [1, 2, 3, 4], [1, 2, 3, 5], [1, 2, 4, 5], [1, 3, 4, 5], [2, 3, 4, 5], [0, 1, 2, 3, 4], [0, 1, 2, 3, 5], [0, 1, 2, 4, 5], [0, 1, 3, 4, 5], [0, 2, 3, 4, 5], [1, 2, 3, 4, 5], [0, 1, 2, 3, 4, 5]]
 | 7 => [[0], [1], [2], [3], [4], [5], [6], [0, 1], [0, 2], [0, 3], [0, 4], [0, 5], [0, 6], [1, 2], [1, 3], [1, 4], [1, 5], [1, 6], [2, 3], [2, 4], [2, 5], [2, 6], [3, 4], [3, 5], [3, 6], [4, 5], [4, 6], [5, 6], [0, 1, 2], [0, 1, 3], [0, 1, 4], [0, 1, 5], [0, 1, 6], [0, 2, 3], [0, 2, 4], [0, 2, 5], [0, 2, 6], [0, 3, 4], [0, 3, 5], [0, 3, 6], [0, 4, 5], [0, 4, 6], [0, 5, 6], [1, 2, 3], [1, 2, 4], [1, 2, 5], [1, 2, 6], [1, 3, 4], [1, 3, 5], [1, 3, 6], [1, 4, 5], [1, 4, 6], [1, 5, 6], [2, 3, 4], [2, 3, 5], [2, 3, 6], [2, 4, 5], [2, 4, 6], [2, 5, 6], [3, 4, 5], [3, 4, 6], [3, 5, 6], [4, 5, 6], [0, 1, 2, 3], [0, 1, 2, 4], [0, 1, 2, 5], [0, 1, 2, 6], [0, 1, 3, 4], [0, 1, 3, 5], [0, 1, 3, 6], [0, 1, 4, 5], [0, 1, 4, 6], [0, 1, 5, 6], [0, 2, 3, 4], [0, 2, 3, 5], [0, 2, 3, 6], [0, 2, 4, 5], [0, 2, 4, 6], [0, 2, 5, 6], [0, 3, 4, 5], [0, 3, 4, 6], [0, 3, 5, 6], [0, 4, 5, 6], [1, 2, 3, 4], [1, 2, 3, 5], [1, 2, 3, 6], [1, 2, 4, 5], [1, 2, 4, 6], [1, 2, 5, 6], [1, 3, 4, 5], [1, 3, 4, 6], [1, 3, 5, 6], [1, 4, 5, 6], [2, 3, 4, 5], [2, 3, 4, 6], [2, 3, 5, 6], [2, 4, 5, 6], [3, 4, 5, 6], [0, 1, 2, 3, 4], [0, 1, 2, 3, 5], [0, 1, 2, 3, 6], [0, 1, 2, 4, 5], [0, 1, 2, 4, 6], [0, 1, 2, 5, 6], [0, 1, 3, 4, 5], [0, 1, 3, 4, 6], [0, 1, 3, 5, 6], [0, 1, 4, 5, 6], [0, 2, 3, 4, 5], [0, 2, 3, 4, 6], [0, 2, 3, 5, 6], [0, 2, 4, 5, 6], [0, 3, 4, 5, 6], [1, 2, 3, 4, 5], [1, 2, 3, 4, 6], [1, 2, 3, 5, 6], [1, 2, 4, 5, 6], [1, 3, 4, 5, 6], [2, 3, 4, 5, 6], [0, 1, 2, 3, 4, 5], [0, 1, 2, 3, 4, 6], [0, 1, 2, 3, 5, 6], [0, 1, 2, 4, 5, 6], [0, 1, 3, 4, 5, 6], [0, 2, 3, 4, 5, 6], [1, 2, 3, 4, 5, 6], [0, 1, 2, 3, 4, 5, 6]]
 | _ => []
noncomputable def chkI (n : Nat) : Bool := match waom (n : Int) with
 | some x => x.1.all (fun i => Nat.blt i x.2.length) && (wbd x.1 x.2 == wbf n)
 | none => false
noncomputable def chkS (n : Nat) : Bool := waos (n : Int) == some (wbf n)
def chkR (n : Nat) : Bool := (wbf n).all (fun s => wbm s 0 ((n : Int) - 1) && Nat.blt 0 s.length && Nat.ble s.length 7) && Nat.beq ((wbf n).length + 1) (2 ^ n)
theorem wbss : chkI 1 = true := by kernel_rfl
theorem wbst : chkS 1 = true := by kernel_rfl
theorem wbsu : chkR 1 = true := by kernel_rfl
theorem wbsv : chkI 2 = true := by kernel_rfl
theorem wbsw : chkS 2 = true := by kernel_rfl
theorem wbsx : chkR 2 = true := by kernel_rfl
theorem wbsy : chkI 3 = true := by kernel_rfl
theorem wbsz : chkS 3 = true := by kernel_rfl
theorem wbta : chkR 3 = true := by kernel_rfl
theorem wbtb : chkI 4 = true := by kernel_rfl
theorem wbtc : chkS 4 = true := by kernel_rfl
theorem wbtd : chkR 4 = true := by kernel_rfl
theorem wbte : chkI 5 = true := by kernel_rfl
theorem wbtf : chkS 5 = true := by kernel_rfl
theorem wbtg : chkR 5 = true := by kernel_rfl
theorem wbth : chkI 6 = true := by kernel_rfl
theorem wbti : chkS 6 = true := by kernel_rfl
theorem wbtj : chkR 6 = true := by kernel_rfl
theorem wbtk : chkI 7 = true := by kernel_rfl
theorem wbtl : chkS 7 = true := by kernel_rfl
theorem wbtm : chkR 7 = true := by kernel_rfl
theorem wbly : ∀ n : Nat, 1 ≤ n → n ≤ 7 → chkI n = true ∧ chkS n = true ∧ chkR n = true
 | 1, _, _ => ⟨wbss, wbst, wbsu⟩
 | 2, _, _ => ⟨wbsv, wbsw, wbsx⟩
 | 3, _, _ => ⟨wbsy, wbsz, wbta⟩
 | 4, _, _ => ⟨wbtb, wbtc, wbtd⟩
 | 5, _, _ => ⟨wbte, wbtf, wbtg⟩
 | 6, _, _ => ⟨wbth, wbti, wbtj⟩
 | 7, _, _ => ⟨wbtk, wbtl, wbtm⟩
 | 0, h, _ => by omega
 | n + 8, _, h => by omega
structure SetsP (n : Nat) : Prop where
 im : ∃ x, wakg (n : Int) = some x ∧ HG x ∧ wbd x.1 x.2 = wbf n
 sp : wakw (n : Int) = some (wbf n)
 len : (wbf n).length + 1 = 2 ^ n
 rising : ∀ s ∈ wbf n, wbm s 0 ((n : Int) - 1) = true ∧ 0 < s.length ∧ s.length ≤ 7
theorem waoy {n : Nat} (h1 : 1 ≤ n) (h2 : n ≤ 7) : SetsP n := by
 obtain ⟨c1, c2, c3⟩ := wbly n h1 h2
 simp only [chkS, beq_iff_eq] at c2
 simp only [chkR, Bool.and_eq_true, List.all_eq_true] at c3
 refine ⟨?_, wbsr _ _ c2, Nat.eq_of_beq_eq_true c3.2, fun s hs => ⟨(c3.1 s hs).1.1, by simpa using (c3.1 s hs).1.2, by simpa using (c3.1 s hs).2⟩⟩
 unfold chkI at c1
 split at c1
 next x hx =>
  simp only [Bool.and_eq_true, List.all_eq_true, beq_iff_eq] at c1
  exact ⟨x, wbsl _ _ hx, fun i hi => by simpa using c1.1 i hi, c1.2⟩
 next => cases c1
theorem wblz {n : Nat} (h : n ≤ 7) : 2 ^ n ≤ 2 ^ 7 := Nat.pow_le_pow_right (by omega) h
theorem wvr {n : Nat} (hS : SetsP n) (h : n ≤ 7) : (wbf n).length ≤ 128 := by
 have h1 := hS.len
 have h2 := wblz h
 have h3 : 2 ^ 7 ≤ 128 := by decide
 omega
end Go.Proofs.YtnagpmhaddfgmaaGreat
