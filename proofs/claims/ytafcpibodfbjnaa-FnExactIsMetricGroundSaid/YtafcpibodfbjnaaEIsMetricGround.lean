/-
  FnExactIsMetricGround hands back true whatever its arguments are, and leaves them as they were. No conditions.
-/
import Derived.Test.YtafcpibodfbjnaaRows
import Derived.Test.YtafcpibodfbjnaaB30
import Derived.Test.YtafcpibodfbjnaaC2
import Derived.Test.YtafcpibodfbjnaaQ1
namespace Go.Proofs.Ytafcpibodfbjnaa
open Go.Proofs.Try

theorem own_IsMetricGround : ownKnob prog.godebug = none := by kernel_rfl
theorem laidOut_IsMetricGround : laidOutB prog = true := by kernel_rfl

theorem IsMetricGround_lifted (os : Os) (started : os.Started) (H : Type) (enc : TypeId × Value → H) :
    ReturnsInHanded {} checked os 5 .any (Rows.fnExactIsMetricGroundSpec.pre6 enc prog f5 Rows.fnExactIsMetricGroundRow.domain false) (Rows.fnExactIsMetricGroundSpec.post enc prog f5 false true false false) :=
  row_ok (C := checked) (d := D_lw_FnExactIsMetricGround) (ts := [.slice (.slice (.int .i64))]) (n := 9) (tb := 4) (cv := fun h => (h.1, ())) own_IsMetricGround started (by kernel_rfl) func5
    (ChangeSpec.witness6 (enc := enc) (C := checked) false ⟨#[], #[.slice none 0 0], []⟩ 8 (by kernel_rfl) (by kernel_rfl) (by kernel_rfl) (by kernel_rfl))
    laidOut_IsMetricGround (by kernel_rfl) rfl (by kernel_rfl) (by kernel_rfl) (fun ds hds => by
      match ds, hds with
      | [d0], _ => rfl) (fun _ => rfl) fd_lw_FnExactIsMetricGround (fun h hf => ⟨true, law_IsMetricGround h.1 hf.1, rfl⟩)

theorem IsMetricGround_holds : Rows.FnExactIsMetricGroundSaid :=
  OpenClaim.holds_of_wide 5 f5 rfl rfl rfl rfl rfl rfl rfl ⟨rfl, rfl, rfl, rfl, rfl⟩ rfl rfl rfl rfl rfl (by kernel_rfl) func5 (by kernel_rfl)
    (of_decide_eq_true (by kernel_rfl)) (by unfold Func.isWrapper; first | (rw [if_pos (by decide +kernel)]; kernel_rfl) | (rw [if_neg (by decide +kernel)]; exact ⟨rfl, rfl⟩))
    (fun os started H enc _ => IsMetricGround_lifted os started H enc)

#print axioms IsMetricGround_holds
end Go.Proofs.Ytafcpibodfbjnaa
