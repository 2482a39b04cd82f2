/-
 Plain laws: all sets of n sites, as both sides list them: computed by the kernel for each n.
-/
import Derived.Test.YtnagpmhaddfgmaaGreatEM2
import Derived.Test.YtnagpmhaddfgmaaGreatP8
namespace Go.Proofs.YtnagpmhaddfgmaaGreat
def HG (x : List Nat × List (List Int)) : Prop := ∀ i ∈ x.1, i < x.2.length
def wck : Nat → List (List Int)
 | 1 => [[0]]
 | 2 => [[0], [1], [0, 1]]
 | 3 => [[0], [1], [2], [0, 1], [0, 2], [1, 2], [0, 1, 2]]
 | 4 => [[0], [1], [2], [3], [0, 1], [0, 2], [0, 3], [1, 2], [1, 3], [2, 3], [0, 1, 2], [0, 1, 3], [0, 2, 3], [1, 2, 3], [0, 1, 2, 3]]
 | 5 => [[0], [1], [2], [3], [4], [0, 1], [0, 2], [0, 3], [0, 4], [1, 2], [1, 3], [1, 4], [2, 3], [2, 4], [3, 4], [0, 1, 2], [0, 1, 3], [0, 1, 4], [0, 2, 3], [0, 2, 4], [0, 3, 4], [1, 2, 3], [1, 2, 4], [1, 3, 4], [2, 3, 4], [0, 1, 2, 3], [0, 1, 2, 4], [0, 1, 3, 4], [0, 2, 3, 4], [1, 2, 3, 4], [0, 1, 2, 3, 4]]
 | 6 => [[0], [1], [2], [3], [4], [5], [0, 1], [0, 2], [0, 3], [0, 4], [0, 5], [1, 2], [1, 3], [1, 4], [1, 5], [2, 3], [2, 4], [2, 5], [3, 4], [3, 5], [4, 5], [0, 1, 2], [0, 1, 3], [0, 1, 4], [0, 1, 5], [0, 2, 3], [0, 2, 4], [0, 2, 5], [0, 3, 4], [0, 3, 5], [0, 4, 5], [1, 2, 3], [1, 2, 4], [1, 2, 5], [1, 3, 4], [1, 3, 5], [1, 4, 5], [2, 3, 4], [2, 3, 5], [2, 4, 5], [3, 4, 5], [0, 1, 2, 3], [0, 1, 2, 4], [0, 1, 2, 5], [0, 1, 3, 4], [0, 1, 3, 5], [0, 1, 4, 5], [0, 2, 3, 4], [0, 2, 3, 5], [0, 2, 4, 5], [0, 3, 4, 5], [1, 2, 3, 4], [1, 2, 3, 5], [1, 2, 4, 5], [1, 3, 4, 5], [2, 3, 4, 5], [0, 1, 2, 3, 4], [0, 1, 2, 3, 5], [0, 1, 2, 4, 5], [0, 1, 3, 4, 5], [0, 2, 3, 4, 5], [1, 2, 3, 4, 5], [0, 1, 2, 3, 4, 5]]
 | 7 => [[0], [1], [2], [3], [4], [5], [6], [0, 1], [0, 2], [0, 3], [0, 4], [0, 5], [0, 6], [1, 2], [1, 3], [1, 4], [1, 5], [1, 6], [2, 3], [2, 4], [2, 5], [2, 6], [3, 4], [3, 5], [3, 6], [4, 5], [4, 6], [5, 6], [0, 1, 2], [0, 1, 3], [0, 1, 4], [0, 1, 5], [0, 1, 6], [0, 2, 3], [0, 2, 4], [0, 2, 5], [0, 2, 6], [0, 3, 4], [0, 3, 5], [0, 3, 6], [0, 4, 5], [0, 4, 6], [0, 5, 6], [1, 2, 3], [1, 2, 4], [1, 2, 5], [1, 2, 6], [1, 3, 4], [1, 3, 5], [1, 3, 6], [1, 4, 5], [1, 4, 6], [1, 5, 6], [2, 3, 4], [2, 3, 5], [2, 3, 6], [2, 4, 5], [2, 4, 6], [2, 5, 6], [3, 4, 5], [3, 4, 6], [3, 5, 6], [4, 5, 6], [0, 1, 2, 3], [0, 1, 2, 4], [0, 1, 2, 5], [0, 1, 2, 6], [0, 1, 3, 4], [0, 1, 3, 5], [0, 1, 3, 6], [0, 1, 4, 5], [0, 1, 4, 6], [0, 1, 5, 6], [0, 2, 3, 4], [0, 2, 3, 5], [0, 2, 3, 6], [0, 2, 4, 5], [0, 2, 4, 6], [0, 2, 5, 6], [0, 3, 4, 5], [0, 3, 4, 6], [0, 3, 5, 6], [0, 4, 5, 6], [1, 2, 3, 4], [1, 2, 3, 5], [1, 2, 3, 6], [1, 2, 4, 5], [1, 2, 4, 6], [1, 2, 5, 6], [1, 3, 4, 5], [1, 3, 4, 6], [1, 3, 5, 6], [1, 4, 5, 6], [2, 3, 4, 5], [2, 3, 4, 6], [2, 3, 5, 6], [2, 4, 5, 6], [3, 4, 5, 6], [0, 1, 2, 3, 4], [0, 1, 2, 3, 5], [0, 1, 2, 3, 6], [0, 1, 2, 4, 5], [0, 1, 2, 4, 6], [0, 1, 2, 5, 6], [0, 1, 3, 4, 5], [0, 1, 3, 4, 6], [0, 1, 3, 5, 6], [0, 1, 4, 5, 6], [0, 2, 3, 4, 5], [0, 2, 3, 4, 6], [0, 2, 3, 5, 6], [0, 2, 4, 5, 6], [0, 3, 4, 5, 6], [1, 2, 3, 4, 5], [1, 2, 3, 4, 6], [1, 2, 3, 5, 6], [1, 2, 4, 5, 6], [1, 3, 4, 5, 6], [2, 3, 4, 5, 6], [0, 1, 2, 3, 4, 5], [0, 1, 2, 3, 4, 6], [0, 1, 2, 3, 5, 6], [0, 1, 2, 4, 5, 6], [0, 1, 3, 4, 5, 6], [0, 2, 3, 4, 5, 6], [1, 2, 3, 4, 5, 6], [0, 1, 2, 3, 4, 5, 6]]
 | _ => []
noncomputable def chkI (n : Nat) : Bool := match wamw (n : Int) with
 | some x => x.1.all (fun i => Nat.blt i x.2.length) && (wdb x.1 x.2 == wck n)
 | none => false
noncomputable def chkS (n : Nat) : Bool := walw (n : Int) == some (wck n)
def chkR (n : Nat) : Bool := (wck n).all (fun s => wbo s 0 ((n : Int) - 1) && Nat.blt 0 s.length && Nat.ble s.length 7) && Nat.beq ((wck n).length + 1) (2 ^ n)
theorem wbqy : chkS 1 = true := by kernel_rfl
theorem wbqz : chkR 1 = true := by kernel_rfl
theorem wbra : chkS 2 = true := by kernel_rfl
theorem wbrb : chkR 2 = true := by kernel_rfl
theorem wbrc : chkS 3 = true := by kernel_rfl
theorem wbrd : chkR 3 = true := by kernel_rfl
theorem wbre : chkS 4 = true := by kernel_rfl
theorem wbrf : chkR 4 = true := by kernel_rfl
theorem wbrg : chkS 5 = true := by kernel_rfl
theorem wbrh : chkR 5 = true := by kernel_rfl
theorem wbri : chkS 6 = true := by kernel_rfl
theorem wbrj : chkR 6 = true := by kernel_rfl
theorem wbrk : chkS 7 = true := by kernel_rfl
theorem wbrl : chkR 7 = true := by kernel_rfl
theorem wbkk : ∀ n : Nat, 1 ≤ n → n ≤ 7 → chkS n = true ∧ chkR n = true
 | 1, _, _ => ⟨wbqy, wbqz⟩
 | 2, _, _ => ⟨wbra, wbrb⟩
 | 3, _, _ => ⟨wbrc, wbrd⟩
 | 4, _, _ => ⟨wbre, wbrf⟩
 | 5, _, _ => ⟨wbrg, wbrh⟩
 | 6, _, _ => ⟨wbri, wbrj⟩
 | 7, _, _ => ⟨wbrk, wbrl⟩
 | 0, h, _ => by omega
 | n + 8, _, h => by omega
theorem wbrm : chkI 1 = true := by kernel_rfl
theorem wbrn : chkI 2 = true := by kernel_rfl
theorem wbro : chkI 3 = true := by kernel_rfl
theorem wbrp : chkI 4 = true := by kernel_rfl
theorem wbrq : chkI 5 = true := by kernel_rfl
theorem wbrr : chkI 6 = true := by kernel_rfl
theorem wbrs : chkI 7 = true := by kernel_rfl
theorem wbrt : ∀ n : Nat, 1 ≤ n → n ≤ 7 → chkI n = true
 | 1, _, _ => wbrm
 | 2, _, _ => wbrn
 | 3, _, _ => wbro
 | 4, _, _ => wbrp
 | 5, _, _ => wbrq
 | 6, _, _ => wbrr
 | 7, _, _ => wbrs
 | 0, h, _ => by omega
 | n + 8, _, h => by omega
structure SetsP (n : Nat) : Prop where
 im : ∃ x, waeu (n : Int) = some x ∧ HG x ∧ wdb x.1 x.2 = wck n
 sp : wajn (n : Int) = some (wck n)
 len : (wck n).length + 1 = 2 ^ n
 rising : ∀ s ∈ wck n, wbo s 0 ((n : Int) - 1) = true ∧ 0 < s.length ∧ s.length ≤ 7
theorem wauy {n : Nat} (h1 : 1 ≤ n) (h2 : n ≤ 7) : SetsP n := by
 obtain ⟨c2, c3⟩ := wbkk n h1 h2
 simp only [chkS, beq_iff_eq] at c2
 simp only [chkR, Bool.and_eq_true, List.all_eq_true] at c3
 have c1 := wbrt n h1 h2
 have hi : ∃ x, waeu (n : Int) = some x ∧ HG x ∧ wdb x.1 x.2 = wck n := by
  unfold chkI at c1
  split at c1
  next x hx =>
   simp only [Bool.and_eq_true, List.all_eq_true, beq_iff_eq] at c1
   exact ⟨x, wbqx _ _ hx, fun i hi => by simpa using c1.1 i hi, c1.2⟩
  next => cases c1
 exact ⟨hi, wbpr _ _ c2, Nat.eq_of_beq_eq_true c3.2, fun s hs => ⟨(c3.1 s hs).1.1, by simpa using (c3.1 s hs).1.2, by simpa using (c3.1 s hs).2⟩⟩
theorem wbkl {n : Nat} (h : n ≤ 7) : 2 ^ n ≤ 2 ^ 7 := Nat.pow_le_pow_right (by omega) h
theorem wvz {n : Nat} (hS : SetsP n) (h : n ≤ 7) : (wck n).length ≤ 128 := by
 have h1 := hS.len
 have h2 := wbkl h
 have h3 : 2 ^ 7 ≤ 128 := by decide
 omega
end Go.Proofs.YtnagpmhaddfgmaaGreat
