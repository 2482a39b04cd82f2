/-
 Plain laws: lists and tables compared.
-/
import Derived.Test.YtnagpmhaddfgmaaGreatPM
namespace Go.Proofs.YtnagpmhaddfgmaaGreat
theorem wtd {a b : List Int} (ha : wew a) : wafw a b = some (a == b) := by
 unfold wew at ha
 unfold wafw wbek
 by_cases h : a.length = b.length
 ·have hs := waot (f := fun v => (wns (a, b) v).ev) (a := a) (b := b) 0 h (fun i hi => by
   have hi' : i < b.length := by omega
   simp (disch := omega) only [EV, wns, hi, hi']
   cases hq : (a.getD i 0 == b.getD i 0) <;> simp only [bne, hq] <;> rfl) (by simp (disch := omega) only [EV, wns, Nat.lt_irrefl])
  simp (disch := omega) only [EV, int_ne, h, wala, hs]
  cases (a == b) <;> rfl
 ·have : (a == b) = false := by
   rw [beq_eq_false_iff_ne]
   exact fun e => h (by rw [e])
  simp (disch := omega) only [EV, int_ne, h, this]
theorem wapt {a b : List (List Int)} (ha : wla a) : wyo a b = some (a == b) := by
 obtain ⟨ha, hr⟩ := ha
 unfold wyo wbic
 by_cases h : a.length = b.length
 ·have hs := waot (f := fun v => (woj (a, b) v).ev) (a := a) (b := b) [] h (fun i hi => by
   have hi' : i < b.length := by omega
   simp (disch := omega) only [EV, woj, hi, hi', wtd (hr _ (getD_mem (d := []) hi))]
   cases (a.getD i [] == b.getD i []) <;> rfl) (by simp (disch := omega) only [EV, woj, Nat.lt_irrefl])
  simp (disch := omega) only [EV, int_ne, h, wank, hs]
  cases (a == b) <;> rfl
 ·have : (a == b) = false := by
   rw [beq_eq_false_iff_ne]
   exact fun e => h (by rw [e])
  simp (disch := omega) only [EV, int_ne, h, this]
end Go.Proofs.YtnagpmhaddfgmaaGreat
