/-
  Plain laws: bytes of texts; records.
-/
import Derived.Test.YtakbhfnndcnopaaDoorP2
namespace Go.Proofs.YtakbhfnndcnopaaDoor

def SLow (s : List UInt8) : Prop := (s.length : Int) ≤ 1048576
def byOK (c : UInt8) : Bool := decide (32 ≤ c.toNat) && (decide (c.toNat ≤ 126) && !(c.toNat == 35))
def bytesB (s : List UInt8) (most : Int) : Bool := s.all byOK && decide ((s.length : Int) ≤ most)
def hasB (s : List UInt8) (b : Nat) : Bool := s.any fun c => c.toNat == b
def recordB (c r : List UInt8) : Bool := !(c == []) && (bytesB c 160 && (!hasB c 64 && bytesB r 200))

theorem castB (a b : Nat) : (((a : Nat) : Int) == ((b : Nat) : Int)) = (a == b) := by
  rw [Bool.eq_iff_iff, beq_iff_eq, beq_iff_eq]; omega
theorem byte_lt (c : UInt8) : c.toNat < 256 := c.toNat_lt

/-- Is the byte one of these? -/
theorem all_bytes (s : List UInt8) (p : UInt8 → Bool) : ((List.range s.length).all fun i => p (s.getD i 0)) = s.all p := all_range s 0 p

theorem l12Bytes_eq {s : List UInt8} (hs : SLow s) (m : Int) : F_sp_l12Bytes s m = some (bytesB s m) := by
  unfold SLow at hs
  have h0 : L_sp_l12Bytes_0 (s, m) 0 = _ := iter_allR (f := fun v => (S_sp_l12Bytes_0 (s, m) v).ev) (n := s.length) (mk := fun i => (i : Int)) (p := fun i => byOK (s.getD i 0)) (yes := .inl ()) (no := .inr ()) (fun i hi _ => by
    have hb := byte_lt (s.getD i 0)
    have e35 : (((s.getD i 0).toNat : Int) == 35) = ((s.getD i 0).toNat == 35) := castB _ 35
    simp (disch := omega) only [EV, S_sp_l12Bytes_0, hi, l1In_eq, e35]
    unfold byOK isIn
    by_cases h1 : 32 ≤ (s.getD i 0).toNat <;> by_cases h2 : (s.getD i 0).toNat ≤ 126 <;> cases h3 : ((s.getD i 0).toNat == 35) <;>
      simp only [h1, h2, decide_true, decide_false, Bool.true_and, Bool.false_and, Bool.not_true, Bool.not_false, cond_true, cond_false, show (32 : Int) ≤ ((s.getD i 0).toNat : Int) ↔ 32 ≤ (s.getD i 0).toNat by omega, show ((s.getD i 0).toNat : Int) ≤ 126 ↔ (s.getD i 0).toNat ≤ 126 by omega] <;> rfl) (by simp (disch := omega) only [EV, S_sp_l12Bytes_0, Nat.lt_irrefl])
  rw [all_bytes s byOK] at h0
  unfold F_sp_l12Bytes T_sp_l12Bytes bytesB
  simp (disch := omega) only [EV, h0]
  cases s.all byOK <;> rfl
theorem isPlain_eq {s : List UInt8} (hs : SLow s) (m : Int) : F_im_isPlain s m = some (bytesB s m) := by
  unfold SLow at hs
  have h0 : L_im_isPlain_0 (s, (m, (s.length : Int))) 0 = _ := iter_allR (f := fun v => (S_im_isPlain_0 (s, (m, (s.length : Int))) v).ev) (n := s.length) (mk := fun i => (i : Int)) (p := fun i => byOK (s.getD i 0)) (yes := .inl ()) (no := .inr ()) (fun i hi _ => by
    have e35 : (((s.getD i 0).toNat : Int) == 35) = ((s.getD i 0).toNat == 35) := castB _ 35
    simp (disch := omega) only [EV, S_im_isPlain_0, hi, e35]
    unfold byOK
    by_cases h1 : 32 ≤ (s.getD i 0).toNat
    · have h1' : ¬ ((s.getD i 0).toNat : Int) < 32 := by omega
      by_cases h2 : (s.getD i 0).toNat ≤ 126
      · have h2' : ¬ (126 : Int) < ((s.getD i 0).toNat : Int) := by omega
        simp only [h1, h2, h1', h2', decide_true, if_false, Bool.true_and]
        cases ((s.getD i 0).toNat == 35) <;> rfl
      · have h2' : (126 : Int) < ((s.getD i 0).toNat : Int) := by omega
        simp only [h1, h2, h1', h2', decide_true, decide_false, if_false, if_true, Bool.true_and, Bool.false_and, cond_false]
    · have h1' : ((s.getD i 0).toNat : Int) < 32 := by omega
      simp only [h1, h1', decide_false, if_true, Bool.false_and, cond_false]) (by simp (disch := omega) only [EV, S_im_isPlain_0, Nat.lt_irrefl])
  rw [all_bytes s byOK] at h0
  unfold F_im_isPlain T_im_isPlain bytesB
  simp (disch := omega) only [EV, h0]
  cases s.all byOK <;> rfl
theorem l1Stands_eq {s : List UInt8} (hs : (s.length : Int) < 9223372036854775807) (b : Nat) : F_sp_l1Stands s (b : Int) = some (hasB s b) := by
  have h0 : L_sp_l1Stands_0 (s, (b : Int)) 0 = _ := iter_allR (f := fun v => (S_sp_l1Stands_0 (s, (b : Int)) v).ev) (n := s.length) (mk := fun i => (i : Int)) (p := fun i => !((s.getD i 0).toNat == b)) (yes := .inl ()) (no := .inr ()) (fun i hi _ => by
    simp (disch := omega) only [EV, S_sp_l1Stands_0, hi, castB]
    cases ((s.getD i 0).toNat == b) <;> rfl) (by simp (disch := omega) only [EV, S_sp_l1Stands_0, Nat.lt_irrefl])
  rw [all_bytes s fun c => !(c.toNat == b)] at h0
  unfold F_sp_l1Stands T_sp_l1Stands hasB
  simp (disch := omega) only [EV, h0]
  rw [List.any_eq_not_all_not]
  cases s.all fun c => !(c.toNat == b) <;> rfl

/-! ### Where a byte stands -/
theorem indexByte_spec (c : UInt8) : ∀ s : List UInt8, -1 ≤ Lib.indexByte s c ∧ (Lib.indexByte s c = -1 ↔ ∀ x ∈ s, x ≠ c)
  | [] => by simp [Lib.indexByte]
  | b :: l => by
    obtain ⟨h1, h2⟩ := indexByte_spec c l
    unfold Lib.indexByte
    by_cases hb : b = c
    · subst hb
      simp
    · have e : (b == c) = false := by simpa using hb
      rw [e]
      by_cases h : Lib.indexByte l c = -1
      · have e2 : (Lib.indexByte l c == -1) = true := by simp [h]
        rw [e2]
        simp only [Bool.false_eq_true, if_false, if_true]
        refine ⟨by omega, ⟨fun _ x hx => ?_, fun _ => trivial⟩⟩
        rcases List.mem_cons.1 hx with rfl | hx
        · exact hb
        · exact h2.1 h x hx
      · have e2 : (Lib.indexByte l c == -1) = false := by simpa using h
        rw [e2]
        simp only [Bool.false_eq_true, if_false]
        refine ⟨by omega, ⟨fun h3 => by omega, fun h3 => absurd (h2.2 fun x hx => h3 x (List.mem_cons_of_mem _ hx)) h⟩⟩
theorem toU8 (b : UInt8) : ((b.toNat : Int)).toNat.toUInt8 = b := by
  rw [Int.toNat_natCast]
  exact UInt8.ofNat_toNat
theorem idxByte_pos (s : List UInt8) (b : UInt8) : decide (0 ≤ idxByte s (b.toNat : Int)) = hasB s b.toNat := by
  unfold idxByte hasB
  rw [toU8]
  obtain ⟨h1, h2⟩ := indexByte_spec b s
  rw [Bool.eq_iff_iff, decide_eq_true_eq, List.any_eq_true]
  constructor
  · intro h
    have h3 : ¬ ∀ x ∈ s, x ≠ b := fun h4 => by have := h2.2 h4; omega
    simp only [Classical.not_forall] at h3
    obtain ⟨x, hx, hn⟩ := h3
    exact ⟨x, hx, by rw [beq_iff_eq]; exact congrArg UInt8.toNat (Classical.not_not.1 hn)⟩
  · rintro ⟨x, hx, he⟩
    have hne : Lib.indexByte s b ≠ -1 := fun h => h2.1 h x hx (UInt8.toNat_inj.1 (beq_iff_eq.1 he))
    omega
theorem index1_eq (s : List UInt8) (b : UInt8) : F_internal_stringslite_Index s [b] = some (if [b] == s then 0 else idxByte s (b.toNat : Int)) := by
  unfold F_internal_stringslite_Index T_internal_stringslite_Index F_internal_stringslite_IndexByte T_internal_stringslite_IndexByte F_internal_bytealg_IndexByteString
  have e0 : (((List.length [b] : Nat) : Int) == 0) = false := rfl
  have e1 : (((List.length [b] : Nat) : Int) == 1) = true := rfl
  have e2 : inR (0 : Int) (List.length [b]) = true := rfl
  have e3 : List.getD [b] (Int.toNat 0) 0 = b := rfl
  simp (disch := omega) only [EV, e0, e1, e2, e3]
  cases ([b] == s) <;> rfl
theorem idx1_pos (s : List UInt8) (b : UInt8) : decide ((0 : Int) ≤ if [b] == s then 0 else idxByte s (b.toNat : Int)) = hasB s b.toNat := by
  cases h : ([b] == s) with
  | false => simpa using idxByte_pos s b
  | true =>
    have := beq_iff_eq.1 h
    subst this
    simp [hasB]
theorem contains1_eq (s : List UInt8) (b : UInt8) : F_strings_Contains s [b] = some (hasB s b.toNat) := by
  unfold F_strings_Contains T_strings_Contains F_strings_Index T_strings_Index
  simp (disch := omega) only [EV, index1_eq]
  rw [idx1_pos]
theorem l12Record_eq {c r : List UInt8} (hc : SLow c) (hr : SLow r) : F_sp_l12Record c r = some (recordB c r) := by
  have h := hc
  unfold SLow at h
  unfold F_sp_l12Record T_sp_l12Record recordB
  have h64 : F_sp_l1Stands c (64 : Int) = some (hasB c 64) := l1Stands_eq (by omega) 64
  simp (disch := omega) only [EV, l12Bytes_eq hc, l12Bytes_eq hr, h64]
  cases (c == []) <;> cases bytesB c 160 <;> cases hasB c 64 <;> rfl
theorem im_IsValidRecord_eq {c r : List UInt8} (hc : SLow c) (hr : SLow r) : F_im_IsValidRecord c r = some (recordB c r) := by
  unfold F_im_IsValidRecord T_im_IsValidRecord recordB
  have h64 : F_strings_Contains c [64] = some (hasB c 64) := contains1_eq c 64
  simp (disch := omega) only [EV, isPlain_eq hc, isPlain_eq hr, h64]
  cases (c == []) <;> cases bytesB c 160 <;> cases hasB c 64 <;> cases bytesB r 200 <;> rfl
end Go.Proofs.YtakbhfnndcnopaaDoor
