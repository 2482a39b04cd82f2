/-
  FnExactPlanProof hands back true whatever its arguments are, and leaves them as they were. No conditions.
-/
import Derived.Test.YtlmbhkmaflhagaaRows
import Derived.Test.YtlmbhkmaflhagaaB30
import Derived.Test.YtlmbhkmaflhagaaC2
import Derived.Test.YtlmbhkmaflhagaaQ15
namespace Go.Proofs.Ytlmbhkmaflhagaa
open Go.Proofs.Try

theorem own_PlanProof : ownKnob prog.godebug = none := by kernel_rfl
theorem laidOut_PlanProof : laidOutB prog = true := by kernel_rfl

theorem PlanProof_lifted (os : Os) (started : os.Started) (H : Type) (enc : TypeId × Value → H) :
    ReturnsInHanded {} checked os 5 .any (Rows.fnExactPlanProofSpec.pre6 enc prog f5 Rows.fnExactPlanProofRow.domain false) (Rows.fnExactPlanProofSpec.post enc prog f5 false true false false) :=
  row_ok (C := checked) (d := D_lw_FnExactPlanProof) (ts := [.pair (.slice (.int .i64)) (.pair (.slice (.int .i64)) (.pair (.slice (.int .i64)) (.slice (.slice (.slice (.int .i64)))))), .slice (.slice (.int .i64)), .slice (.slice (.int .i64))]) (n := 9) (tb := 4) (cv := fun h => (((h.1.1, (h.1.2.1, (h.1.2.2.1, (h.1.2.2.2, ())))), (h.2.1, (h.2.2.1, ()))), ())) own_PlanProof started (by kernel_rfl) func5
    (ChangeSpec.witness6 (enc := enc) (C := checked) false ⟨#[], #[.agg #[.slice none 0 0, .slice none 0 0, .slice none 0 0, .slice none 0 0], .slice none 0 0, .slice none 0 0], []⟩ 8 (by kernel_rfl) (by kernel_rfl) (by kernel_rfl) (by kernel_rfl))
    laidOut_PlanProof (by kernel_rfl) rfl (by kernel_rfl) (by kernel_rfl) (fun ds hds => by
      match ds, hds with
      | [d0, d1, d2], _ => rfl) (by kernel_rfl) (by kernel_rfl) (fun _ => rfl) (fun _ => rfl) fd_lw_FnExactPlanProof (fun h hf => ⟨true, law_PlanProof h.1.1 h.1.2.1 h.1.2.2.1 h.1.2.2.2 h.2.1 h.2.2.1 hf.1.1 hf.1.2.1 hf.1.2.2.1 hf.1.2.2.2 hf.2.1 hf.2.2.1, rfl⟩) rfl

theorem PlanProof_holds : Rows.FnExactPlanProofSaid :=
  OpenClaim.holds_of_wide 5 f5 rfl rfl rfl rfl rfl rfl rfl ⟨rfl, rfl, rfl, rfl, rfl⟩ rfl rfl rfl rfl rfl (by kernel_rfl) func5 (by kernel_rfl)
    (of_decide_eq_true (by kernel_rfl)) (by unfold Func.isWrapper; first | (rw [if_pos (by decide +kernel)]; kernel_rfl) | (rw [if_neg (by decide +kernel)]; exact ⟨rfl, rfl⟩))
    (fun os started H enc _ => PlanProof_lifted os started H enc)

#print axioms PlanProof_holds
end Go.Proofs.Ytlmbhkmaflhagaa
