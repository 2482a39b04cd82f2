/-
  Plain laws: numerals, checksums, and the line of a record.
-/
import Derived.Test.YtakbhfnndcnopaaDoorP9
import Derived.Lib.ItoaNum
namespace Go.Proofs.YtakbhfnndcnopaaDoor
open Go

/-! ### Numerals -/
theorem dig1_fin : ∀ i : Fin 10, List.drop i.val (List.take (i.val + 1) ([48, 49, 50, 51, 52, 53, 54, 55, 56, 57] : List UInt8)) = [UInt8.ofNat (48 + i.val)] := by decide +kernel
theorem dig1 {u : Nat} (h : u < 10) : List.drop u (List.take (u + 1) ([48, 49, 50, 51, 52, 53, 54, 55, 56, 57] : List UInt8)) = [UInt8.ofNat (48 + u)] := dig1_fin ⟨u, h⟩
theorem nDig_le : ∀ (k u : Nat), u < 10 ^ (k + 1) → Lib.nDigits u ≤ k + 1
  | 0, u, h => by rw [Lib.nDigits_small (by simpa using h)]; omega
  | k + 1, u, h => by
    by_cases h10 : u < 10
    · rw [Lib.nDigits_small h10]; omega
    · rw [Lib.nDigits_big h10]
      have := nDig_le k (u / 10) (by rw [Nat.pow_succ] at h; omega)
      omega
theorem nDig7 {u : Nat} (h : u < 10000000) : Lib.nDigits u ≤ 7 := nDig_le 6 u (by simpa using h)
theorem dig_mem {u : Nat} {b : UInt8} (h : b ∈ Lib.decDigits u) : 48 ≤ b.toNat ∧ b.toNat ≤ 57 := by
  induction u using Nat.strongRecOn with
  | _ u ih =>
    have one : ∀ i, i < 10 → ∀ b ∈ [UInt8.ofNat (48 + i)], 48 ≤ b.toNat ∧ b.toNat ≤ 57 := by
      intro i hi b hb
      obtain rfl := List.mem_singleton.1 hb
      rw [UInt8.toNat_ofNat']
      omega
    rw [Lib.decDigits] at h
    split at h
    next h10 => exact one u h10 b h
    next h10 =>
      rcases List.mem_append.1 h with h | h
      · exact ih (u / 10) (by omega) h
      · exact one (u % 10) (by omega) b h
theorem tdiv10 (u : Nat) : Int.tdiv (u : Int) 10 = ((u / 10 : Nat) : Int) := by rw [Int.tdiv_eq_ediv_of_nonneg (by omega)]; omega
theorem tmod10 (u : Nat) : Int.tmod (u : Int) 10 = ((u % 10 : Nat) : Int) := by rw [Int.tmod_eq_emod_of_nonneg (by omega)]; omega
theorem l1Num_nat : ∀ (m u : Nat), u < 10000000 → Lib.nDigits u ≤ m → F_sp_l1Num m (u : Int) = some (Lib.decDigits u)
  | 0, u, _, h => absurd (Lib.nDigits_pos u) (by omega)
  | m + 1, u, hu, h => by
    show (T_sp_l1Num (F_sp_l1Num m) (u : Int)).ev = _
    unfold T_sp_l1Num
    have e0 : decide ((u : Int) < 0) = false := by simp; 
    by_cases h10 : u < 10
    · have h1 : decide ((u : Int) < 10) = true := by simp; omega
      have e1 : IntKind.wrap .i64 ((u : Int) + 1) = ((u + 1 : Nat) : Int) := by rw [wrap64 (by omega) (by omega)]; omega
      have e2 : (decide ((0 : Int) ≤ (u : Int)) && decide ((u : Int) ≤ ((u + 1 : Nat) : Int)) && decide (((u + 1 : Nat) : Int) ≤ ((List.length ([48, 49, 50, 51, 52, 53, 54, 55, 56, 57] : List UInt8) : Nat) : Int))) = true := by
        simp only [Bool.and_eq_true, decide_eq_true_eq, List.length_cons, List.length_nil]; omega
      rw [e1]
      simp (disch := omega) only [EV, e0, h1, e2, Int.toNat_natCast, dig1 h10]
      rw [Lib.decDigits_one h10]
    · have h1 : decide ((u : Int) < 10) = false := by simp; omega
      have ih := l1Num_nat m (u / 10) (by omega) (by rw [Lib.nDigits_big h10] at h; omega)
      have hm : u % 10 < 10 := by omega
      have e1 : IntKind.wrap .i64 (((u % 10 : Nat) : Int) + 1) = ((u % 10 + 1 : Nat) : Int) := by rw [wrap64 (by omega) (by omega)]; omega
      have e2 : (decide ((0 : Int) ≤ ((u % 10 : Nat) : Int)) && decide (((u % 10 : Nat) : Int) ≤ ((u % 10 + 1 : Nat) : Int)) && decide (((u % 10 + 1 : Nat) : Int) ≤ ((List.length ([48, 49, 50, 51, 52, 53, 54, 55, 56, 57] : List UInt8) : Nat) : Int))) = true := by
        simp only [Bool.and_eq_true, decide_eq_true_eq, List.length_cons, List.length_nil]; omega
      have e3 : IntKind.wrap .i64 ((u / 10 : Nat) : Int) = ((u / 10 : Nat) : Int) := wrap64 (by omega) (by omega)
      have hl : (Lib.decDigits (u / 10)).length ≤ 7 := by rw [Lib.decDigits_length]; exact nDig7 (by omega)
      have e4 : List.length (Lib.decDigits (u / 10)) + List.length [UInt8.ofNat (48 + u % 10)] ≤ 9223372036854775807 := by simp; omega
      rw [tdiv10, tmod10, e1, e3]
      have ez : decide ((10 : Int) = 0) = false := rfl
      simp (disch := omega) only [EV, e0, h1, e2, ih, Int.toNat_natCast, dig1 hm, e4, ez]
      rw [Lib.decDigits.eq_def u, dif_neg h10]
theorem l1Num_eq {k : Int} (h0 : 0 ≤ k) (h1 : k < 10000000) : F_sp_l1Num 1000000 k = some (Lib.decDigits k.toNat) := by
  have := l1Num_nat 1000000 k.toNat (by omega) (Nat.le_trans (nDig7 (by omega)) (by omega))
  rw [show ((k.toNat : Nat) : Int) = k by omega] at this
  exact this
theorem Itoa_eq {k : Int} (h0 : 0 ≤ k) (h1 : k < 10000000) : F_strconv_Itoa k = some (Lib.decDigits k.toNat) := by
  unfold F_strconv_Itoa itoaF inI64 Lib.itoa
  have e : (decide (-9223372036854775808 ≤ k) && decide (k ≤ 9223372036854775807)) = true := by simp only [Bool.and_eq_true, decide_eq_true_eq]; omega
  rw [if_pos e, if_neg (by omega)]

/-! ### Checksums -/
def chkStep (h : Int) (c : UInt8) : Int := Int.tmod (41 * h + (c.toNat : Int) + 1) 999979
def chk (s : List UInt8) : Int := s.foldl chkStep 7
theorem chkStep_in {h : Int} (h0 : 0 ≤ h) (c : UInt8) : 0 ≤ chkStep h c ∧ chkStep h c < 999979 := by
  unfold chkStep
  rw [Int.tmod_eq_emod_of_nonneg (by omega)]
  omega
theorem chk_in (s : List UInt8) : 0 ≤ chk s ∧ chk s < 999979 := by
  have : ∀ (s : List UInt8) (h : Int), 0 ≤ h → h < 999979 → 0 ≤ s.foldl chkStep h ∧ s.foldl chkStep h < 999979 := by
    intro s
    induction s with
    | nil => intro h a b; exact ⟨a, b⟩
    | cons c s ih =>
      intro h a b
      obtain ⟨x, y⟩ := chkStep_in a c
      exact ih _ x y
  exact this s 7 (by omega) (by omega)
theorem l1Sum_eq {s : List UInt8} (hs : SLow s) : F_sp_l1Sum s = some (chk s) := by
  unfold SLow at hs
  have h0 : L_sp_l1Sum_0 s ((7 : Int), (0 : Int)) = _ := (iter_foldl (f := fun v => (S_sp_l1Sum_0 s v).ev) s (0 : UInt8) (fun i (h : Int) => (h, (i : Int))) (fun _ h => 0 ≤ h ∧ h < 999979) chkStep (fun h => h) (s0 := 7) ⟨by omega, by omega⟩ (fun i h hi ⟨a, b⟩ => by
    have hb := byte_lt (s.getD i 0)
    refine ⟨?_, chkStep_in a _⟩
    simp (disch := omega) only [EV, S_sp_l1Sum_0, hi]
    unfold chkStep
    rfl) (fun h _ => by simp (disch := omega) only [EV, S_sp_l1Sum_0, Nat.lt_irrefl])).1
  unfold F_sp_l1Sum T_sp_l1Sum chk
  simp (disch := omega) only [EV, h0]
theorem checksum_eq {s : List UInt8} (hs : SLow s) : F_im_checksum s = some (chk s) := by
  unfold SLow at hs
  have h0 : L_im_checksum_0 (s, (s.length : Int)) ((7 : Int), (0 : Int)) = _ := (iter_foldl (f := fun v => (S_im_checksum_0 (s, (s.length : Int)) v).ev) s (0 : UInt8) (fun i (h : Int) => (h, (i : Int))) (fun _ h => 0 ≤ h ∧ h < 999979) chkStep (fun h => h) (s0 := 7) ⟨by omega, by omega⟩ (fun i h hi ⟨a, b⟩ => by
    have hb := byte_lt (s.getD i 0)
    refine ⟨?_, chkStep_in a _⟩
    simp (disch := omega) only [EV, S_im_checksum_0, hi]
    unfold chkStep
    rfl) (fun h _ => by simp (disch := omega) only [EV, S_im_checksum_0, Nat.lt_irrefl])).1
  unfold F_im_checksum T_im_checksum chk
  simp (disch := omega) only [EV, h0]
end Go.Proofs.YtakbhfnndcnopaaDoor
