/-
 Plain laws: small sorts; ordered values.
-/
import Derived.Test.YtnagpmhaddfgmaaGreatP8
namespace Go.Proofs.YtnagpmhaddfgmaaGreat
def ins (x : Int) : List Int → List Int
 | [] => [x]
 | a :: l => if a ≤ x then a :: ins x l else x :: a :: l
theorem ins_find (x : Int) : ∀ l : List Int, l.take ((l.findIdx? fun y => !decide (y ≤ x)).elim l.length id) ++ x :: l.drop ((l.findIdx? fun y => !decide (y ≤ x)).elim l.length id) = ins x l
 | [] => rfl
 | a :: l => by
  have ih := ins_find x l
  rw [List.findIdx?_cons]
  by_cases h : a ≤ x
  ·simp only [h, decide_true, Bool.not_true, Bool.false_eq_true, if_false, ins, if_true]
   cases hf : l.findIdx? fun y => !decide (y ≤ x) with
   | none => rw [hf] at ih; simpa using ih
   | some j => rw [hf] at ih; simpa using ih
  ·simp [h, ins]
end Go.Proofs.YtnagpmhaddfgmaaGreat
