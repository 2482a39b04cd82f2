/-
  FnExactStaticPlan hands back true whatever its arguments are, and leaves them as they were. No conditions.
-/
import Derived.Test.YtlmbhkmaflhagaaRows
import Derived.Test.YtlmbhkmaflhagaaB30
import Derived.Test.YtlmbhkmaflhagaaC2
import Derived.Test.YtlmbhkmaflhagaaQ18
namespace Go.Proofs.Ytlmbhkmaflhagaa
open Go.Proofs.Try
theorem own_StaticPlan : ownKnob prog.godebug = none := by kernel_rfl
theorem laidOut_StaticPlan : laidOutB prog = true := by kernel_rfl
theorem StaticPlan_lifted (os : Os) (started : os.Started) (H : Type) (enc : TypeId × Value → H) :
    ReturnsInHanded {} checked os 9 .any (Rows.fnExactStaticPlanSpec.pre6 enc prog f9 Rows.fnExactStaticPlanRow.domain false) (Rows.fnExactStaticPlanSpec.post enc prog f9 false true false false) :=
  row_ok (C := checked) (d := D_lw_FnExactStaticPlan) (ts := [.pair (.slice (.int .i64)) (.pair (.slice (.int .i64)) (.pair (.slice (.int .i64)) (.slice (.slice (.slice (.int .i64))))))]) (n := 9) (tb := 4) (cv := fun h => (((h.1.1, (h.1.2.1, (h.1.2.2.1, (h.1.2.2.2, ())))), ()), ())) own_StaticPlan started (by kernel_rfl) func9
    (ChangeSpec.witness6 (enc := enc) (C := checked) false ⟨#[], #[.agg #[.slice none 0 0, .slice none 0 0, .slice none 0 0, .slice none 0 0]], []⟩ 8 (by kernel_rfl) (by kernel_rfl) (by kernel_rfl) (by kernel_rfl))
    laidOut_StaticPlan (by kernel_rfl) rfl (by kernel_rfl) (by kernel_rfl) (fun ds hds => by
      match ds, hds with
      | [d0], _ => rfl) (by kernel_rfl) (by kernel_rfl) (fun _ => rfl) (fun _ => rfl) fd_lw_FnExactStaticPlan (fun h hf => ⟨true, law_StaticPlan h.1.1 h.1.2.1 h.1.2.2.1 h.1.2.2.2 hf.1.1 hf.1.2.1 hf.1.2.2.1 hf.1.2.2.2, rfl⟩) rfl
theorem StaticPlan_holds : Rows.FnExactStaticPlanSaid :=
  OpenClaim.holds_of_wide 9 f9 rfl rfl rfl rfl rfl rfl rfl ⟨rfl, rfl, rfl, rfl, rfl⟩ rfl rfl rfl rfl rfl (by kernel_rfl) func9 (by kernel_rfl)
    (of_decide_eq_true (by kernel_rfl)) (by unfold Func.isWrapper; first | (rw [if_pos (by decide +kernel)]; kernel_rfl) | (rw [if_neg (by decide +kernel)]; exact ⟨rfl, rfl⟩))
    (fun os started H enc _ => StaticPlan_lifted os started H enc)
#print axioms StaticPlan_holds
end Go.Proofs.Ytlmbhkmaflhagaa
