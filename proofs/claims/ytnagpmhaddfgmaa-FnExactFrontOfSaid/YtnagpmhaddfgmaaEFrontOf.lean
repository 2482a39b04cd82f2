/-
 FnExactFrontOf hands back true whatever its arguments are, and leaves them as they were. No conditions.
-/
import Derived.Test.YtnagpmhaddfgmaaRows
import Derived.Test.YtnagpmhaddfgmaaB30
import Derived.Test.YtnagpmhaddfgmaaC2
import Derived.Test.YtnagpmhaddfgmaaQ35
namespace Go.Proofs.Ytnagpmhaddfgmaa
open Go.Proofs.Try
theorem wwu : ownKnob prog.godebug = none := by kernel_rfl
theorem wmw : laidOutB prog = true := by kernel_rfl
theorem wne (os : Os) (started : os.Started) (H : Type) (enc : TypeId × Value → H) :
  ReturnsInHanded {} checked os 4 .any (Rows.fnExactFrontOfSpec.pre6 enc prog f4 Rows.fnExactFrontOfRow.domain false) (Rows.fnExactFrontOfSpec.post enc prog f4 false true false false) :=
 wbet (C := checked) (d := wbal) (ts := [.pair (.slice (.int .i64)) (.slice (.slice (.int .i64))), .int .i64, .int .i64]) (n := 9) (tb := 4) (cv := fun h => (((h.1.1, (h.1.2, ())), (h.2.1, (h.2.2.1, ()))), ())) wwu started (by kernel_rfl) func4
  (ChangeSpec.witness6 (enc := enc) (C := checked) false ⟨#[], #[.agg #[.slice none 0 0, .slice none 0 0], .int .i64 0, .int .i64 0], []⟩ 8 (by kernel_rfl) (by kernel_rfl) (by kernel_rfl) (by kernel_rfl))
  wmw (by kernel_rfl) rfl (by kernel_rfl) (by kernel_rfl) (fun ds hds => by
   match ds, hds with
   | [d0, d1, d2], _ => rfl) (by kernel_rfl) (by kernel_rfl) (fun _ => rfl) (fun _ => rfl) wbhp (fun h hf => ⟨true, wwt h.1.1 h.1.2 h.2.1 h.2.2.1 hf.1.1 hf.1.2 hf.2.1 hf.2.2.1, rfl⟩) rfl
theorem FrontOf_holds : Rows.FnExactFrontOfSaid :=
 OpenClaim.holds_of_wide 4 f4 rfl rfl rfl rfl rfl rfl rfl ⟨rfl, rfl, rfl, rfl, rfl⟩ rfl rfl rfl rfl rfl (by kernel_rfl) func4 (by kernel_rfl)
  (of_decide_eq_true (by kernel_rfl)) (by unfold Func.isWrapper; first | (rw [if_pos (by decide +kernel)]; kernel_rfl) | (rw [if_neg (by decide +kernel)]; exact ⟨rfl, rfl⟩))
  (fun os started H enc _ => wne os started H enc)
#print axioms FrontOf_holds
end Go.Proofs.Ytnagpmhaddfgmaa
