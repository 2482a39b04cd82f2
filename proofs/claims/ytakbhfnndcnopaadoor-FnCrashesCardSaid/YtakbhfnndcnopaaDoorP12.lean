/-
  Plain laws: the line of a record, how it is written and how it is read.
-/
import Derived.Test.YtakbhfnndcnopaaDoorP11
namespace Go.Proofs.YtakbhfnndcnopaaDoor
open Go

/-! ### The part ahead of a byte, and the part behind it -/
def bef (b : Nat) (s : List UInt8) : List UInt8 := s.takeWhile fun c => !(c.toNat == b)
def aft (b : Nat) (s : List UInt8) : List UInt8 := s.drop ((bef b s).length + 1)
theorem hasB_app (a c : List UInt8) (b : Nat) : hasB (a ++ c) b = (hasB a b || hasB c b) := List.any_append
theorem bef_le (b : Nat) (s : List UInt8) : (bef b s).length ≤ s.length := (List.takeWhile_sublist _).length_le
theorem bef_app {b : Nat} {a r : List UInt8} {c : UInt8} (h : hasB a b = false) (hc : c.toNat = b) : bef b (a ++ c :: r) = a := by
  unfold bef
  induction a with
  | nil => simp [hc]
  | cons x a ih =>
    unfold hasB at h
    simp only [List.any_cons, Bool.or_eq_false_iff] at h
    rw [List.cons_append, List.takeWhile_cons, h.1, Bool.not_false, if_pos rfl, ih h.2]
theorem aft_app {b : Nat} {a r : List UInt8} {c : UInt8} (h : hasB a b = false) (hc : c.toNat = b) : aft b (a ++ c :: r) = r := by
  unfold aft
  rw [bef_app h hc, show a ++ c :: r = (a ++ [c]) ++ r by simp, List.drop_left' (by simp)]
theorem bef_no {b : Nat} {s : List UInt8} (h : hasB s b = false) : bef b s = s := by
  unfold bef hasB at *
  induction s with
  | nil => rfl
  | cons x s ih =>
    simp only [List.any_cons, Bool.or_eq_false_iff] at h
    rw [List.takeWhile_cons, h.1, Bool.not_false, if_pos rfl, ih h.2]
theorem bef_split {b : Nat} {s : List UInt8} (h : hasB s b = true) : ∃ c : UInt8, c.toNat = b ∧ s = bef b s ++ c :: aft b s ∧ hasB (bef b s) b = false := by
  induction s with
  | nil => simp [hasB] at h
  | cons x s ih =>
    cases hx : (x.toNat == b) with
    | true =>
      refine ⟨x, by simpa using hx, ?_, ?_⟩
      · simp [bef, aft, hx]
      · simp [bef, hx, hasB]
    | false =>
      have h' : hasB s b = true := by
        unfold hasB at h ⊢
        rw [List.any_cons, hx, Bool.false_or] at h
        exact h
      obtain ⟨c, h1, h2, h3⟩ := ih h'
      have e : bef b (x :: s) = x :: bef b s := by simp [bef, hx]
      refine ⟨c, h1, ?_, ?_⟩
      · have e2 : aft b (x :: s) = aft b s := by unfold aft; rw [e, List.length_cons]; rfl
        rw [e, e2, List.cons_append, ← h2]
      · rw [e]
        unfold hasB at h3 ⊢
        rw [List.any_cons, hx, Bool.false_or]
        exact h3
theorem bef_lt {b : Nat} {s : List UInt8} (h : hasB s b = true) : (bef b s).length < s.length := by
  obtain ⟨c, _, h2, _⟩ := bef_split h
  have := congrArg List.length h2
  simp only [List.length_append, List.length_cons] at this
  omega
theorem take_bef (b : Nat) (s : List UInt8) : s.take (bef b s).length = bef b s := by
  unfold bef
  induction s with
  | nil => rfl
  | cons x s ih =>
    rw [List.takeWhile_cons]
    split
    · rw [List.length_cons, List.take_succ_cons, ih]
    · rfl
theorem take_bef1 {b : Nat} {s : List UInt8} {c : UInt8} (h : hasB s b = true) (hc : c.toNat = b) : s.take ((bef b s).length + 1) = bef b s ++ [c] := by
  obtain ⟨c', h1, h2, h3⟩ := bef_split h
  have : c' = c := UInt8.toNat_inj.1 (h1.trans hc.symm)
  subst this
  generalize hb : bef b s = p at *
  rw [h2, List.take_append, List.take_of_length_le (by omega)]
  simp
theorem indexByte_bef (c : UInt8) : ∀ s : List UInt8, Lib.indexByte s c = if hasB s c.toNat then ((bef c.toNat s).length : Int) else -1
  | [] => rfl
  | x :: s => by
    have ih := indexByte_bef c s
    unfold Lib.indexByte
    have e : (x == c) = (x.toNat == c.toNat) := by rw [Bool.eq_iff_iff, beq_iff_eq, beq_iff_eq, UInt8.toNat_inj]
    rw [e]
    cases hx : (x.toNat == c.toNat) with
    | true => simp [hasB, hx, bef]
    | false =>
      have e1 : hasB (x :: s) c.toNat = hasB s c.toNat := by simp [hasB, hx]
      have e2 : bef c.toNat (x :: s) = x :: bef c.toNat s := by simp [bef, hx]
      rw [e1, e2]
      simp only [Bool.false_eq_true, if_false]
      rw [ih]
      cases hasB s c.toNat with
      | true => simp
      | false => simp
theorem idxByte_bef (s : List UInt8) (c : UInt8) : idxByte s (c.toNat : Int) = if hasB s c.toNat then ((bef c.toNat s).length : Int) else -1 := by
  unfold idxByte
  rw [toU8]
  exact indexByte_bef c s
theorem IndexByte_eq (s : List UInt8) (c : UInt8) : F_strings_IndexByte s (c.toNat : Int) = some (if hasB s c.toNat then ((bef c.toNat s).length : Int) else -1) := by
  unfold F_strings_IndexByte T_strings_IndexByte F_internal_stringslite_IndexByte T_internal_stringslite_IndexByte F_internal_bytealg_IndexByteString
  simp (disch := omega) only [EV, idxByte_bef]
theorem Cut_eq {s : List UInt8} (hs : SLow s) (c : UInt8) : F_strings_Cut s [c] = some (if hasB s c.toNat then (bef c.toNat s, (aft c.toNat s, true)) else (s, ([], false))) := by
  unfold SLow at hs
  have e : F_internal_stringslite_Index s [c] = some (if hasB s c.toNat then ((bef c.toNat s).length : Int) else -1) := by
    rw [index1_eq, idxByte_bef]
    cases h : ([c] == s) with
    | false => rfl
    | true =>
      have := beq_iff_eq.1 h
      subst this
      simp [hasB, bef]
  unfold F_strings_Cut T_strings_Cut F_internal_stringslite_Cut T_internal_stringslite_Cut
  cases h : hasB s c.toNat with
  | false =>
    rw [h] at e
    have : decide ((0 : Int) ≤ -1) = false := rfl
    simp only [Bool.false_eq_true, if_false] at e
    simp (disch := omega) only [EV, e, this, h]
    rfl
  | true =>
    rw [h] at e
    simp only [if_true] at e
    have hl := bef_lt h
    have e1 : decide ((0 : Int) ≤ ((bef c.toNat s).length : Int)) = true := by simp
    have e2 : decide (((bef c.toNat s).length : Int) ≤ (s.length : Int)) = true := by simp; omega
    have e3 : IntKind.wrap .i64 (((bef c.toNat s).length : Int) + ((List.length [c] : Nat) : Int)) = (((bef c.toNat s).length + 1 : Nat) : Int) := by
      rw [wrap64] <;> simp <;> omega
    have e4 : (decide ((0 : Int) ≤ (((bef c.toNat s).length + 1 : Nat) : Int)) && decide ((((bef c.toNat s).length + 1 : Nat) : Int) ≤ (s.length : Int))) = true := by simp only [Bool.and_eq_true, decide_eq_true_eq]; omega
    rw [e]
    simp (disch := omega) only [EV, e1, e2]
    rw [e3]
    simp (disch := omega) only [EV, e4, Int.toNat_natCast]
    rw [take_bef, List.take_length]
    rfl

/-! ### Lines -/
def text (k : Int) (c r : List UInt8) : List UInt8 := (((Lib.decDigits k.toNat ++ [32]) ++ c) ++ [64]) ++ r
def sealT (s : List UInt8) : List UInt8 := (s ++ [35]) ++ Lib.decDigits (chk s).toNat
def line (k : Int) (c r : List UInt8) : List UInt8 := sealT (text k c r) ++ [10]
def encB (k : Int) (c r : List UInt8) : Bool := isIn k 0 59 && recordB c r
def encF (k : Int) (c r : List UInt8) : List UInt8 × Bool := if encB k c r then (line k c r, true) else ([], false)

theorem dig_len {u : Nat} (h : u < 10000000) : (Lib.decDigits u).length ≤ 7 := by rw [Lib.decDigits_length]; exact nDig7 h
theorem chk_nat (s : List UInt8) : (chk s).toNat < 10000000 := by have := chk_in s; omega
theorem sealT_len (s : List UInt8) : (sealT s).length ≤ s.length + 8 := by
  have := dig_len (chk_nat s)
  unfold sealT
  simp only [List.length_append, List.length_cons, List.length_nil]
  omega
theorem dig_has {u b : Nat} (h : b < 48 ∨ 57 < b) : hasB (Lib.decDigits u) b = false := by
  unfold hasB
  rw [List.any_eq_false]
  intro x hx
  have := dig_mem hx
  simp only [beq_iff_eq]
  omega
theorem rec_parts {c r : List UInt8} (h : recordB c r = true) : hasB c 35 = false ∧ hasB r 35 = false ∧ hasB c 64 = false ∧ hasB c 10 = false ∧ hasB r 10 = false ∧ c.length ≤ 160 ∧ r.length ≤ 200 := by
  unfold recordB bytesB at h
  simp only [Bool.and_eq_true, Bool.not_eq_true', decide_eq_true_eq, List.all_eq_true] at h
  obtain ⟨_, ⟨h1, h2⟩, h3, h4, h5⟩ := h
  have key : ∀ s : List UInt8, (∀ x ∈ s, byOK x = true) → hasB s 35 = false ∧ hasB s 10 = false := by
    intro s hs
    unfold hasB
    rw [List.any_eq_false, List.any_eq_false]
    constructor <;> intro x hx <;> have := hs x hx <;> unfold byOK at this <;> simp only [Bool.and_eq_true, decide_eq_true_eq, Bool.not_eq_true', beq_eq_false_iff_ne] at this <;> simp only [beq_iff_eq]
    · exact this.2.2
    · omega
  exact ⟨(key c h1).1, (key r h4).1, h3, (key c h1).2, (key r h4).2, by omega, by omega⟩
theorem text_len {k : Int} {c r : List UInt8} (hk : isIn k 0 59 = true) : (text k c r).length ≤ 9 + c.length + r.length := by
  unfold isIn at hk
  simp only [Bool.and_eq_true, decide_eq_true_eq] at hk
  have := dig_len (u := k.toNat) (by omega)
  unfold text
  simp only [List.length_append, List.length_cons, List.length_nil]
  omega
theorem text_has35 {k : Int} {c r : List UInt8} (h : recordB c r = true) : hasB (text k c r) 35 = false := by
  obtain ⟨h1, h2, _⟩ := rec_parts h
  unfold text
  simp only [hasB_app, h1, h2, dig_has (u := k.toNat) (b := 35) (by omega), Bool.or_false, Bool.false_or]
  rfl
theorem seal_bef {s : List UInt8} (h : hasB s 35 = false) : bef 35 (sealT s) = s := by
  unfold sealT
  rw [List.append_assoc]
  exact bef_app h rfl
theorem text_bef32 (k : Int) (c r : List UInt8) : bef 32 (text k c r) = Lib.decDigits k.toNat ∧ aft 32 (text k c r) = c ++ 64 :: r ∧ hasB (text k c r) 32 = true := by
  have e : text k c r = Lib.decDigits k.toNat ++ 32 :: (c ++ 64 :: r) := by simp [text]
  rw [e]
  have h := dig_has (u := k.toNat) (b := 32) (by omega)
  exact ⟨bef_app h rfl, aft_app h rfl, by rw [hasB_app]; simp [hasB]⟩
theorem cr_bef64 {c r : List UInt8} (h : hasB c 64 = false) : bef 64 (c ++ 64 :: r) = c ∧ aft 64 (c ++ 64 :: r) = r ∧ hasB (c ++ 64 :: r) 64 = true :=
  ⟨bef_app h rfl, aft_app h rfl, by rw [hasB_app]; simp [hasB]⟩

theorem l1Seal_eq {s : List UInt8} (hs : (s.length : Int) ≤ 1000000) : F_sp_l1Seal s = some (sealT s) := by
  have h := chk_in s
  have hd := dig_len (chk_nat s)
  have e0 : List.length s + List.length ([35] : List UInt8) ≤ 9223372036854775807 := by simp; omega
  have e1 : List.length (s ++ ([35] : List UInt8)) + (Lib.decDigits (chk s).toNat).length ≤ 9223372036854775807 := by simp; omega
  unfold F_sp_l1Seal T_sp_l1Seal sealT
  simp (disch := omega) only [EV, l1Sum_eq (by unfold SLow; omega : SLow s), l1Num_eq h.1 (by omega), e0, e1]
theorem AppendChecksum_eq {s : List UInt8} (hs : s.length ≤ 3000) (h35 : hasB s 35 = false) : F_im_AppendChecksum s = some (sealT s, true) := by
  have h := chk_in s
  have hd := dig_len (chk_nat s)
  have e0 : List.length s + List.length ([35] : List UInt8) ≤ 9223372036854775807 := by simp; omega
  have e1 : List.length (s ++ ([35] : List UInt8)) + (Lib.decDigits (chk s).toNat).length ≤ 9223372036854775807 := by simp; omega
  have e2 : ¬ (4000 : Int) < (s.length : Int) := by omega
  have e3 : ¬ (4000 : Int) < ((List.length ((s ++ ([35] : List UInt8)) ++ Lib.decDigits (chk s).toNat) : Nat) : Int) := by simp only [List.length_append, List.length_cons, List.length_nil]; omega
  have e4 : F_strings_Contains s ([35] : List UInt8) = some (hasB s 35) := contains1_eq s 35
  unfold F_im_AppendChecksum T_im_AppendChecksum sealT
  simp (disch := omega) only [EV, checksum_eq (by unfold SLow; omega : SLow s), Itoa_eq h.1 (by omega), e0, e1, e2, e3, e4, h35]
theorem AppendChecksum_any {s : List UInt8} (hs : SLow s) : ∃ x, F_im_AppendChecksum s = some x := by
  by_cases h1 : (4000 : Int) < (s.length : Int)
  · unfold F_im_AppendChecksum T_im_AppendChecksum
    simp (disch := omega) only [EV, h1]
    exact ⟨_, rfl⟩
  · cases h35 : hasB s 35 with
    | true =>
      have e4 : F_strings_Contains s ([35] : List UInt8) = some (hasB s 35) := contains1_eq s 35
      unfold F_im_AppendChecksum T_im_AppendChecksum
      simp (disch := omega) only [EV, h1, e4, h35]
      exact ⟨_, rfl⟩
    | false =>
      have h := chk_in s
      have hd := dig_len (chk_nat s)
      have e0 : List.length s + List.length ([35] : List UInt8) ≤ 9223372036854775807 := by simp; omega
      have e1 : List.length (s ++ ([35] : List UInt8)) + (Lib.decDigits (chk s).toNat).length ≤ 9223372036854775807 := by simp; omega
      have e4 : F_strings_Contains s ([35] : List UInt8) = some (hasB s 35) := contains1_eq s 35
      unfold F_im_AppendChecksum T_im_AppendChecksum
      simp (disch := omega) only [EV, checksum_eq hs, Itoa_eq h.1 (by omega), e0, e1, h1, e4, h35]
      split <;> exact ⟨_, rfl⟩
theorem l12Line_eq {k : Int} {c r : List UInt8} (hk : isIn k 0 59 = true) (hc : (c.length : Int) ≤ 100000) (hr : (r.length : Int) ≤ 100000) : F_sp_l12Line k c r = some (line k c r) := by
  have hl := text_len (c := c) (r := r) hk
  have hs := sealT_len (text k c r)
  unfold isIn at hk
  simp only [Bool.and_eq_true, decide_eq_true_eq] at hk
  have hd := dig_len (u := k.toNat) (by omega)
  have e1 : List.length (Lib.decDigits k.toNat) + List.length ([32] : List UInt8) ≤ 9223372036854775807 := by simp; omega
  have e2 : List.length (Lib.decDigits k.toNat ++ ([32] : List UInt8)) + List.length c ≤ 9223372036854775807 := by simp; omega
  have e3 : List.length ((Lib.decDigits k.toNat ++ ([32] : List UInt8)) ++ c) + List.length ([64] : List UInt8) ≤ 9223372036854775807 := by simp only [List.length_append, List.length_cons, List.length_nil]; omega
  have e4 : List.length (((Lib.decDigits k.toNat ++ ([32] : List UInt8)) ++ c) ++ ([64] : List UInt8)) + List.length r ≤ 9223372036854775807 := by simp only [List.length_append, List.length_cons, List.length_nil]; omega
  have e5 : F_sp_l1Seal ((((Lib.decDigits k.toNat ++ ([32] : List UInt8)) ++ c) ++ ([64] : List UInt8)) ++ r) = some (sealT (text k c r)) := l1Seal_eq (s := text k c r) (by omega)
  have e6 : List.length (sealT (text k c r)) + List.length ([10] : List UInt8) ≤ 9223372036854775807 := by simp; omega
  unfold F_sp_l12Line T_sp_l12Line
  simp (disch := omega) only [EV, l1Num_eq hk.1 (by omega), e1, e2, e3, e4, e5, e6]
  rfl
theorem im_EncodeRecord_eq {k : Int} {c r : List UInt8} (hc : SLow c) (hr : SLow r) : F_im_EncodeRecord k c r = some (encF k c r) := by
  unfold F_im_EncodeRecord T_im_EncodeRecord encF encB
  simp (disch := omega) only [EV, between_eq, im_IsValidRecord_eq hc hr]
  cases h1 : isIn k 0 59 with
  | false => rfl
  | true =>
    cases h2 : recordB c r with
    | false => rfl
    | true =>
      obtain ⟨_, _, _, _, _, a, b⟩ := rec_parts h2
      have hl := text_len (c := c) (r := r) h1
      have hs := sealT_len (text k c r)
      have hk := h1
      unfold isIn at hk
      simp only [Bool.and_eq_true, decide_eq_true_eq] at hk
      have hd := dig_len (u := k.toNat) (by omega)
      have e1 : List.length (Lib.decDigits k.toNat) + List.length ([32] : List UInt8) ≤ 9223372036854775807 := by simp; omega
      have e2 : List.length (Lib.decDigits k.toNat ++ ([32] : List UInt8)) + List.length c ≤ 9223372036854775807 := by simp; omega
      have e3 : List.length ((Lib.decDigits k.toNat ++ ([32] : List UInt8)) ++ c) + List.length ([64] : List UInt8) ≤ 9223372036854775807 := by simp only [List.length_append, List.length_cons, List.length_nil]; omega
      have e4 : List.length (((Lib.decDigits k.toNat ++ ([32] : List UInt8)) ++ c) ++ ([64] : List UInt8)) + List.length r ≤ 9223372036854775807 := by simp only [List.length_append, List.length_cons, List.length_nil]; omega
      have e5 : F_im_AppendChecksum ((((Lib.decDigits k.toNat ++ ([32] : List UInt8)) ++ c) ++ ([64] : List UInt8)) ++ r) = some (sealT (text k c r), true) := AppendChecksum_eq (s := text k c r) (by omega) (text_has35 h2)
      have e6 : List.length (sealT (text k c r)) + List.length ([10] : List UInt8) ≤ 9223372036854775807 := by simp; omega
      simp (disch := omega) only [EV, Itoa_eq hk.1 (by omega), e1, e2, e3, e4, e5, e6]
      rfl
end Go.Proofs.YtakbhfnndcnopaaDoor
