/-
  FnExactBestPlan hands back true whatever its arguments are, and leaves them as they were. No conditions.
-/
import Derived.Test.YtlmbhkmaflhagaaRows
import Derived.Test.YtlmbhkmaflhagaaB30
import Derived.Test.YtlmbhkmaflhagaaC2
import Derived.Test.YtlmbhkmaflhagaaQ17
namespace Go.Proofs.Ytlmbhkmaflhagaa
open Go.Proofs.Try

theorem own_BestPlan : ownKnob prog.godebug = none := by kernel_rfl
theorem laidOut_BestPlan : laidOutB prog = true := by kernel_rfl

theorem BestPlan_lifted (os : Os) (started : os.Started) (H : Type) (enc : TypeId × Value → H) :
    ReturnsInHanded {} checked os 8 .any (Rows.fnExactBestPlanSpec.pre6 enc prog f8 Rows.fnExactBestPlanRow.domain false) (Rows.fnExactBestPlanSpec.post enc prog f8 false true false false) :=
  row_ok (C := checked) (d := D_lw_FnExactBestPlan) (ts := [.pair (.slice (.int .i64)) (.pair (.slice (.int .i64)) (.pair (.slice (.int .i64)) (.slice (.slice (.slice (.int .i64))))))]) (n := 9) (tb := 4) (cv := fun h => (((h.1.1, (h.1.2.1, (h.1.2.2.1, (h.1.2.2.2, ())))), ()), ())) own_BestPlan started (by kernel_rfl) func8
    (ChangeSpec.witness6 (enc := enc) (C := checked) false ⟨#[], #[.agg #[.slice none 0 0, .slice none 0 0, .slice none 0 0, .slice none 0 0]], []⟩ 8 (by kernel_rfl) (by kernel_rfl) (by kernel_rfl) (by kernel_rfl))
    laidOut_BestPlan (by kernel_rfl) rfl (by kernel_rfl) (by kernel_rfl) (fun ds hds => by
      match ds, hds with
      | [d0], _ => rfl) (by kernel_rfl) (by kernel_rfl) (fun _ => rfl) (fun _ => rfl) fd_lw_FnExactBestPlan (fun h hf => ⟨true, law_BestPlan h.1.1 h.1.2.1 h.1.2.2.1 h.1.2.2.2 hf.1.1 hf.1.2.1 hf.1.2.2.1 hf.1.2.2.2, rfl⟩) rfl

theorem BestPlan_holds : Rows.FnExactBestPlanSaid :=
  OpenClaim.holds_of_wide 8 f8 rfl rfl rfl rfl rfl rfl rfl ⟨rfl, rfl, rfl, rfl, rfl⟩ rfl rfl rfl rfl rfl (by kernel_rfl) func8 (by kernel_rfl)
    (of_decide_eq_true (by kernel_rfl)) (by unfold Func.isWrapper; first | (rw [if_pos (by decide +kernel)]; kernel_rfl) | (rw [if_neg (by decide +kernel)]; exact ⟨rfl, rfl⟩))
    (fun os started H enc _ => BestPlan_lifted os started H enc)

#print axioms BestPlan_holds
end Go.Proofs.Ytlmbhkmaflhagaa
