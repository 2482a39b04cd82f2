/-
  FnPlans hands back true whatever its arguments are, and leaves them as they were. No conditions.
-/
import Derived.Test.YtlmbhkmaflhagaaGreatRows
import Derived.Test.YtlmbhkmaflhagaaGreatB30
import Derived.Test.YtlmbhkmaflhagaaGreatC2
import Derived.Test.YtlmbhkmaflhagaaGreatQ20
namespace Go.Proofs.YtlmbhkmaflhagaaGreat
open Go.Proofs.Tryz
theorem own_FnPlans : ownKnob prog.godebug = none := by kernel_rfl
theorem laidOut_FnPlans : laidOutB prog = true := by kernel_rfl
theorem FnPlans_lifted (os : Os) (started : os.Started) (H : Type) (enc : TypeId × Value → H) :
    ReturnsInHanded {} checked os 4 .any (Rows.fnPlansSpec.pre6 enc prog f4 Rows.fnPlansRow.domain false) (Rows.fnPlansSpec.post enc prog f4 false true false false) :=
  row_ok (C := checked) (d := D_zar) (ts := [.slice (.int .u8)]) (n := 9) (tb := 4) (cv := fun h => ((h.1, ()), ())) own_FnPlans started (by kernel_rfl) func4
    (ChangeSpec.witness6 (enc := enc) (C := checked) false ⟨#[], #[.slice none 0 0], []⟩ 8 (by kernel_rfl) (by kernel_rfl) (by kernel_rfl) (by kernel_rfl))
    laidOut_FnPlans (by kernel_rfl) rfl (by kernel_rfl) (by kernel_rfl) (fun ds hds => by
      match ds, hds with
      | [d0], _ => rfl) (by kernel_rfl) (by kernel_rfl) (fun _ => rfl) (fun _ => rfl) fd_zar (fun h hf => ⟨true, law_FnPlans h.1 hf.1, rfl⟩) rfl
theorem FnPlans_holds : Rows.FnPlansSaid :=
  OpenClaim.holds_of_wide 4 f4 rfl rfl rfl rfl rfl rfl rfl ⟨rfl, rfl, rfl, rfl, rfl⟩ rfl rfl rfl rfl rfl (by kernel_rfl) func4 (by kernel_rfl)
    (of_decide_eq_true (by kernel_rfl)) (by unfold Func.isWrapper; first | (rw [if_pos (by decide +kernel)]; kernel_rfl) | (rw [if_neg (by decide +kernel)]; exact ⟨rfl, rfl⟩))
    (fun os started H enc _ => FnPlans_lifted os started H enc)
#print axioms FnPlans_holds
end Go.Proofs.YtlmbhkmaflhagaaGreat
