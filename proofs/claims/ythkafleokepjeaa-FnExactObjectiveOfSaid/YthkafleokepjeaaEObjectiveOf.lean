/-
  FnExactObjectiveOf hands back true whatever its arguments are, and leaves them as they were. No conditions.
-/
import Derived.Test.YthkafleokepjeaaRows
import Derived.Test.YthkafleokepjeaaB30
import Derived.Test.YthkafleokepjeaaC2
import Derived.Test.YthkafleokepjeaaQ2
namespace Go.Proofs.Ythkafleokepjeaa
open Go.Proofs.Try

theorem own_ObjectiveOf : ownKnob prog.godebug = none := by kernel_rfl
theorem laidOut_ObjectiveOf : laidOutB prog = true := by kernel_rfl

theorem ObjectiveOf_lifted (os : Os) (started : os.Started) (H : Type) (enc : TypeId × Value → H) :
    ReturnsInHanded {} checked os 6 .any (Rows.fnExactObjectiveOfSpec.pre6 enc prog f6 Rows.fnExactObjectiveOfRow.domain false) (Rows.fnExactObjectiveOfSpec.post enc prog f6 false true false false) :=
  row_ok (C := checked) (d := D_lw_FnExactObjectiveOf) (ts := [.pair (.slice (.int .i64)) (.slice (.slice (.int .i64))), .slice (.int .i64), .int .i64]) (n := 9) (tb := 4) (cv := fun h => (((h.1.1, (h.1.2, ())), (h.2.1, (h.2.2.1, ()))), ())) own_ObjectiveOf started (by kernel_rfl) func6
    (ChangeSpec.witness6 (enc := enc) (C := checked) false ⟨#[], #[.agg #[.slice none 0 0, .slice none 0 0], .slice none 0 0, .int .i64 0], []⟩ 8 (by kernel_rfl) (by kernel_rfl) (by kernel_rfl) (by kernel_rfl))
    laidOut_ObjectiveOf (by kernel_rfl) rfl (by kernel_rfl) (by kernel_rfl) (fun ds hds => by
      match ds, hds with
      | [d0, d1, d2], _ => rfl) (by kernel_rfl) (by kernel_rfl) (fun _ => rfl) (fun _ => rfl) fd_lw_FnExactObjectiveOf (fun h hf => ⟨true, law_ObjectiveOf h.1.1 h.1.2 h.2.1 h.2.2.1 hf.1.1 hf.1.2 hf.2.1 hf.2.2.1, rfl⟩)

theorem ObjectiveOf_holds : Rows.FnExactObjectiveOfSaid :=
  OpenClaim.holds_of_wide 6 f6 rfl rfl rfl rfl rfl rfl rfl ⟨rfl, rfl, rfl, rfl, rfl⟩ rfl rfl rfl rfl rfl (by kernel_rfl) func6 (by kernel_rfl)
    (of_decide_eq_true (by kernel_rfl)) (by unfold Func.isWrapper; first | (rw [if_pos (by decide +kernel)]; kernel_rfl) | (rw [if_neg (by decide +kernel)]; exact ⟨rfl, rfl⟩))
    (fun os started H enc _ => ObjectiveOf_lifted os started H enc)

#print axioms ObjectiveOf_holds
end Go.Proofs.Ythkafleokepjeaa
