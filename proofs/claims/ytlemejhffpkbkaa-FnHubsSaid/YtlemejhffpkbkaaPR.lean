/-
  Plain laws: lists and tables compared.
-/
import Derived.Test.YtlemejhffpkbkaaPM
namespace Go.Proofs.Ytlemejhffpkbkaa
theorem rInts_eq {a b : List Int} (ha : Low1 a) : F_lw_rInts a b = some (a == b) := by
  unfold Low1 at ha
  unfold F_lw_rInts T_lw_rInts
  by_cases h : a.length = b.length
  · have hs := eq_loop (f := fun v => (S_lw_rInts_0 (a, b) v).ev) (a := a) (b := b) 0 h (fun i hi => by
      have hi' : i < b.length := by omega
      simp (disch := omega) only [EV, S_lw_rInts_0, hi, hi']
      cases hq : (a.getD i 0 == b.getD i 0) <;> simp only [bne, hq] <;> rfl) (by simp (disch := omega) only [EV, S_lw_rInts_0, Nat.lt_irrefl])
    simp (disch := omega) only [EV, int_ne, h, L_lw_rInts_0, hs]
    cases (a == b) <;> rfl
  · have : (a == b) = false := by
      rw [beq_eq_false_iff_ne]
      exact fun e => h (by rw [e])
    simp (disch := omega) only [EV, int_ne, h, this]
end Go.Proofs.Ytlemejhffpkbkaa
