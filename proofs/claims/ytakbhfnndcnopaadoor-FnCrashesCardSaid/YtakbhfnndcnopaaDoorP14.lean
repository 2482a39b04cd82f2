/-
  Plain laws: logs.
-/
import Derived.Test.YtakbhfnndcnopaaDoorP13
namespace Go.Proofs.YtakbhfnndcnopaaDoor
open Go

theorem szLog_sz {c r : List UInt8} (n : Int) {b : Int} (hc : (c.length : Int) < 9223372036854775808) (hr : (r.length : Int) < 9223372036854775808) (h0 : 0 ≤ b) (h1 : b ≤ 1048576) : Sz (F_lw_szLog c r n b) (SLow c ∧ SLow r) := by
  unfold F_lw_szLog T_lw_szLog SLow
  simp (disch := omega) only [EV]
  by_cases k : b - (c.length : Int) < 0
  · simp (disch := omega) only [EV, k]
    exact ⟨_, rfl, by omega, fun h => by omega⟩
  · simp (disch := omega) only [EV, k]
    by_cases k2 : b - (c.length : Int) - (r.length : Int) < 0
    · simp (disch := omega) only [EV, k2]
      exact ⟨_, rfl, by omega, fun h => by omega⟩
    · simp (disch := omega) only [EV, k2]
      exact ⟨_, rfl, by omega, fun h => by omega⟩
theorem toLog_eq (c r : List UInt8) (n : Int) : F_lw_toLog c r n = some (c, (r, n)) := by
  unfold F_lw_toLog T_lw_toLog
  simp (disch := omega) only [EV]
/-- Is the log valid? Both say the same. -/
theorem valid_both {a b : List UInt8} (ha : SLow a) (hb : SLow b) (n : Int) : ∃ v, F_sp_l12Valid a b n = some v ∧ F_im_IsValidLog a b n = some v ∧ (v = true → (a.length : Int) + (b.length : Int) ≤ 30000 ∧ 0 ≤ n ∧ n ≤ 60) := by
  unfold SLow at ha hb
  have e0 : a.length + b.length ≤ 9223372036854775807 := by omega
  unfold F_sp_l12Valid T_sp_l12Valid F_im_IsValidLog T_im_IsValidLog
  have el : ((List.length (a ++ b) : Nat) : Int) = (a.length : Int) + (b.length : Int) := by simp
  have ew : IntKind.wrap .i64 ((a.length : Int) + (b.length : Int)) = (a.length : Int) + (b.length : Int) := wrap64 (by omega) (by omega)
  by_cases h : (30000 : Int) < (a.length : Int) + (b.length : Int)
  · refine ⟨false, ?_, ?_, fun h => by cases h⟩
    · simp (disch := omega) only [EV, ew, h]
    · simp (disch := omega) only [EV, e0, el, h]
  · obtain ⟨v, v1, v2, v3⟩ := read_both (s := a ++ b) (by unfold SLow; omega)
    obtain ⟨u, u1, u2, u3⟩ := read_both (s := a) (by unfold SLow; omega)
    have e1 : ¬ (30000 : Int) < ((List.length (a ++ b) : Nat) : Int) := by omega
    refine ⟨(v.1 == (a.length : Int) + (b.length : Int)) && ((u.1 == (a.length : Int)) && (((v.2.length : Nat) : Int) == n)), ?_, ?_, ?_⟩
    · simp (disch := omega) only [EV, ew, h, e0, v1, u1]
      cases (v.1 == (a.length : Int) + (b.length : Int)) <;> cases (u.1 == (a.length : Int)) <;> rfl
    · simp (disch := omega) only [EV, e0, e1, v2, u2]
      rw [el, show (n == ((v.2.length : Nat) : Int)) = (((v.2.length : Nat) : Int) == n) from Bool.beq_comm ..]
      cases (v.1 == (a.length : Int) + (b.length : Int)) <;> cases (u.1 == (a.length : Int)) <;> rfl
    · intro hv
      simp only [Bool.and_eq_true, beq_iff_eq] at hv
      have := v3.2.2
      omega
theorem recover_both {s : List UInt8} (hs : SLow s) : ∃ v, F_sp_RecoverLog s = some v ∧ F_im_RecoverLog s = some v := by
  unfold F_sp_RecoverLog T_sp_RecoverLog F_im_RecoverLog T_im_RecoverLog
  by_cases h : (30000 : Int) < (s.length : Int)
  · simp (disch := omega) only [EV, h]
    exact ⟨_, rfl, rfl⟩
  · obtain ⟨v, v1, v2, v3⟩ := read_both hs
    have h1 : 0 ≤ v.1 := v3.1
    have h2 : v.1 ≤ (s.length : Int) := v3.2.1
    simp (disch := omega) only [EV, h, v1, v2, h1, h2]
    exact ⟨_, rfl, rfl⟩
end Go.Proofs.YtakbhfnndcnopaaDoor
