/-
 Plain laws: lists and tables compared.
-/
import Derived.Test.YtnagpmhaddfgmaaGreatPM
namespace Go.Proofs.YtnagpmhaddfgmaaGreat
theorem wod {a b : List Int} (ha : Low1 a) : wrw a b = some (a == b) := by
 unfold Low1 at ha
 unfold wrw wahn
 by_cases h : a.length = b.length
 ·have hs := eq_loop (f := fun v => (wec (a, b) v).ev) (a := a) (b := b) 0 h (fun i hi => by
   have hi' : i < b.length := by omega
   simp (disch := omega) only [EV, wec, hi, hi']
   cases hq : (a.getD i 0 == b.getD i 0) <;> simp only [bne, hq] <;> rfl) (by simp (disch := omega) only [EV, wec, Nat.lt_irrefl])
  simp (disch := omega) only [EV, int_ne, h, wrv, hs]
  cases (a == b) <;> rfl
 ·have : (a == b) = false := by
   rw [beq_eq_false_iff_ne]
   exact fun e => h (by rw [e])
  simp (disch := omega) only [EV, int_ne, h, this]
theorem wum {a b : List (List Int)} (ha : Low2 a) : wxv a b = some (a == b) := by
 obtain ⟨ha, hr⟩ := ha
 unfold wxv wahr
 by_cases h : a.length = b.length
 ·have hs := eq_loop (f := fun v => (wed (a, b) v).ev) (a := a) (b := b) [] h (fun i hi => by
   have hi' : i < b.length := by omega
   simp (disch := omega) only [EV, wed, hi, hi', wod (hr _ (getD_mem (d := []) hi))]
   cases (a.getD i [] == b.getD i []) <;> rfl) (by simp (disch := omega) only [EV, wed, Nat.lt_irrefl])
  simp (disch := omega) only [EV, int_ne, h, wrx, hs]
  cases (a == b) <;> rfl
 ·have : (a == b) = false := by
   rw [beq_eq_false_iff_ne]
   exact fun e => h (by rw [e])
  simp (disch := omega) only [EV, int_ne, h, this]
end Go.Proofs.YtnagpmhaddfgmaaGreat
