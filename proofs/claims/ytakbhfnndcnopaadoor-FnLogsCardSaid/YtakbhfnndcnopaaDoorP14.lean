/-
  Plain laws: logs.
-/
import Derived.Test.YtakbhfnndcnopaaDoorP13
namespace Go.Proofs.YtakbhfnndcnopaaDoor
open Go

/-- Is the log valid? Both say the same. -/
theorem valid_both {a b : List UInt8} (ha : SLow a) (hb : SLow b) (n : Int) : ∃ v, F_sp_l12Valid a b n = some v ∧ F_im_IsValidLog a b n = some v ∧ (v = true → (a.length : Int) + (b.length : Int) ≤ 30000 ∧ 0 ≤ n ∧ n ≤ 60) := by
  unfold SLow at ha hb
  have e0 : a.length + b.length ≤ 9223372036854775807 := by omega
  unfold F_sp_l12Valid T_sp_l12Valid F_im_IsValidLog T_im_IsValidLog
  have el : ((List.length (a ++ b) : Nat) : Int) = (a.length : Int) + (b.length : Int) := by simp
  have ew : IntKind.wrap .i64 ((a.length : Int) + (b.length : Int)) = (a.length : Int) + (b.length : Int) := wrap64 (by omega) (by omega)
  by_cases h : (30000 : Int) < (a.length : Int) + (b.length : Int)
  · refine ⟨false, ?_, ?_, fun h => by cases h⟩
    · simp (disch := omega) only [EV, ew, h]
    · simp (disch := omega) only [EV, e0, el, h]
  · obtain ⟨v, v1, v2, v3⟩ := read_both (s := a ++ b) (by unfold SLow; omega)
    obtain ⟨u, u1, u2, u3⟩ := read_both (s := a) (by unfold SLow; omega)
    have e1 : ¬ (30000 : Int) < ((List.length (a ++ b) : Nat) : Int) := by omega
    refine ⟨(v.1 == (a.length : Int) + (b.length : Int)) && ((u.1 == (a.length : Int)) && (((v.2.length : Nat) : Int) == n)), ?_, ?_, ?_⟩
    · simp (disch := omega) only [EV, ew, h, e0, v1, u1]
      cases (v.1 == (a.length : Int) + (b.length : Int)) <;> cases (u.1 == (a.length : Int)) <;> rfl
    · simp (disch := omega) only [EV, e0, e1, v2, u2]
      rw [el, show (n == ((v.2.length : Nat) : Int)) = (((v.2.length : Nat) : Int) == n) from Bool.beq_comm ..]
      cases (v.1 == (a.length : Int) + (b.length : Int)) <;> cases (u.1 == (a.length : Int)) <;> rfl
    · intro hv
      simp only [Bool.and_eq_true, beq_iff_eq] at hv
      have := v3.2.2
      omega
theorem sync_both {a b : List UInt8} (ha : SLow a) (hb : SLow b) (n : Int) : ∃ v, F_sp_SyncLog a b n = some v ∧ F_im_SyncLog a b n = some v := by
  obtain ⟨v, v1, v2, _⟩ := valid_both ha hb n
  unfold SLow at ha hb
  have e0 : a.length + b.length ≤ 9223372036854775807 := by omega
  refine ⟨if v then (a ++ b, ([], (n, true))) else ([], ([], (0, false))), ?_, ?_⟩
  · unfold F_sp_SyncLog T_sp_SyncLog
    simp (disch := omega) only [EV, v1, e0]
    cases v <;> rfl
  · unfold F_im_SyncLog T_im_SyncLog
    simp (disch := omega) only [EV, v2, e0]
    cases v <;> rfl
theorem append_both {a b c r : List UInt8} (ha : SLow a) (hb : SLow b) (hc : SLow c) (hr : SLow r) (n : Int) : ∃ v, F_sp_AppendRecord a b n c r = some v ∧ F_im_AppendRecord a b n c r = some v := by
  obtain ⟨v, v1, v2, v3⟩ := valid_both ha hb n
  unfold F_sp_AppendRecord T_sp_AppendRecord F_im_AppendRecord T_im_AppendRecord
  simp (disch := omega) only [EV, v1, v2, l12Record_eq hc hr, im_IsValidRecord_eq hc hr, im_EncodeRecord_eq (k := n) hc hr]
  cases v with
  | false => exact ⟨_, rfl, rfl⟩
  | true =>
    obtain ⟨h1, h2, h3⟩ := v3 rfl
    cases hrec : recordB c r with
    | false => exact ⟨_, rfl, rfl⟩
    | true =>
      cases h60 : (n == (60 : Int)) with
      | true => exact ⟨_, rfl, rfl⟩
      | false =>
        have hne : n ≠ 60 := by simpa using h60
        have hk : isIn n 0 59 = true := isIn_iff.2 ⟨h2, by omega⟩
        obtain ⟨_, _, _, _, _, ra, rb⟩ := rec_parts hrec
        have he : encF n c r = (line n c r, true) := by unfold encF encB; rw [hk, hrec]; rfl
        have htl := text_len (c := c) (r := r) hk
        have hsl := sealT_len (text n c r)
        have hll : (line n c r).length ≤ 1000 := by unfold line; rw [List.length_append, List.length_cons, List.length_nil]; omega
        have e0 : b.length + (line n c r).length ≤ 9223372036854775807 := by unfold SLow at hb; omega
        rw [he]
        simp (disch := omega) only [EV, l12Line_eq (c := c) (r := r) hk (by omega) (by omega), e0]
        exact ⟨_, rfl, rfl⟩
end Go.Proofs.YtakbhfnndcnopaaDoor
