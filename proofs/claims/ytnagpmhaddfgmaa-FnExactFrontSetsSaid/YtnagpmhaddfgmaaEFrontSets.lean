/-
 FnExactFrontSets hands back true whatever its arguments are, and leaves them as they were. No conditions.
-/
import Derived.Test.YtnagpmhaddfgmaaRows
import Derived.Test.YtnagpmhaddfgmaaB30
import Derived.Test.YtnagpmhaddfgmaaC2
import Derived.Test.YtnagpmhaddfgmaaQ39
namespace Go.Proofs.Ytnagpmhaddfgmaa
open Go.Proofs.Try
theorem wqn : ownKnob prog.godebug = none := by kernel_rfl
theorem wje : laidOutB prog = true := by kernel_rfl
theorem wjt (os : Os) (started : os.Started) (H : Type) (enc : TypeId × Value → H) :
  ReturnsInHanded {} checked os 3 .any (Rows.fnExactFrontSetsSpec.pre6 enc prog f3 Rows.fnExactFrontSetsRow.domain false) (Rows.fnExactFrontSetsSpec.post enc prog f3 false true false false) :=
 wbad (C := checked) (d := waws) (ts := [.pair (.slice (.int .i64)) (.slice (.slice (.int .i64))), .int .i64, .int .i64]) (n := 9) (tb := 4) (cv := fun h => (((h.1.1, (h.1.2, ())), (h.2.1, (h.2.2.1, ()))), ())) wqn started (by kernel_rfl) func3
  (ChangeSpec.witness6 (enc := enc) (C := checked) false ⟨#[], #[.agg #[.slice none 0 0, .slice none 0 0], .int .i64 0, .int .i64 0], []⟩ 8 (by kernel_rfl) (by kernel_rfl) (by kernel_rfl) (by kernel_rfl))
  wje (by kernel_rfl) rfl (by kernel_rfl) (by kernel_rfl) (fun ds hds => by
   match ds, hds with
   | [d0, d1, d2], _ => rfl) (by kernel_rfl) (by kernel_rfl) (fun _ => rfl) (fun _ => rfl) wbdw (fun h hf => ⟨true, wqm h.1.1 h.1.2 h.2.1 h.2.2.1 hf.1.1 hf.1.2 hf.2.1 hf.2.2.1, rfl⟩) rfl
theorem FrontSets_holds : Rows.FnExactFrontSetsSaid :=
 OpenClaim.holds_of_wide 3 f3 rfl rfl rfl rfl rfl rfl rfl ⟨rfl, rfl, rfl, rfl, rfl⟩ rfl rfl rfl rfl rfl (by kernel_rfl) func3 (by kernel_rfl)
  (of_decide_eq_true (by kernel_rfl)) (by unfold Func.isWrapper; first | (rw [if_pos (by decide +kernel)]; kernel_rfl) | (rw [if_neg (by decide +kernel)]; exact ⟨rfl, rfl⟩))
  (fun os started H enc _ => wjt os started H enc)
#print axioms FrontSets_holds
end Go.Proofs.Ytnagpmhaddfgmaa
