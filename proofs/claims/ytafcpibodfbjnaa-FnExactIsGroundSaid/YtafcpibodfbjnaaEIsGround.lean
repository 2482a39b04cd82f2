/-
  FnExactIsGround hands back true whatever its arguments are, and leaves them as they were. No conditions.
-/
import Derived.Test.YtafcpibodfbjnaaRows
import Derived.Test.YtafcpibodfbjnaaB30
import Derived.Test.YtafcpibodfbjnaaC2
import Derived.Test.YtafcpibodfbjnaaQ1
namespace Go.Proofs.Ytafcpibodfbjnaa
open Go.Proofs.Try

theorem own_IsGround : ownKnob prog.godebug = none := by kernel_rfl
theorem laidOut_IsGround : laidOutB prog = true := by kernel_rfl

theorem IsGround_lifted (os : Os) (started : os.Started) (H : Type) (enc : TypeId × Value → H) :
    ReturnsInHanded {} checked os 3 .any (Rows.fnExactIsGroundSpec.pre6 enc prog f3 Rows.fnExactIsGroundRow.domain false) (Rows.fnExactIsGroundSpec.post enc prog f3 false true false false) :=
  row_ok (C := checked) (d := D_lw_FnExactIsGround) (ts := [.slice (.slice (.int .i64))]) (n := 9) (tb := 4) (cv := fun h => (h.1, ())) own_IsGround started (by kernel_rfl) func3
    (ChangeSpec.witness6 (enc := enc) (C := checked) false ⟨#[], #[.slice none 0 0], []⟩ 8 (by kernel_rfl) (by kernel_rfl) (by kernel_rfl) (by kernel_rfl))
    laidOut_IsGround (by kernel_rfl) rfl (by kernel_rfl) (by kernel_rfl) (fun ds hds => by
      match ds, hds with
      | [d0], _ => rfl) (fun _ => rfl) fd_lw_FnExactIsGround (fun h hf => ⟨true, law_IsGround h.1 hf.1, rfl⟩)

theorem IsGround_holds : Rows.FnExactIsGroundSaid :=
  OpenClaim.holds_of_wide 3 f3 rfl rfl rfl rfl rfl rfl rfl ⟨rfl, rfl, rfl, rfl, rfl⟩ rfl rfl rfl rfl rfl (by kernel_rfl) func3 (by kernel_rfl)
    (of_decide_eq_true (by kernel_rfl)) (by unfold Func.isWrapper; first | (rw [if_pos (by decide +kernel)]; kernel_rfl) | (rw [if_neg (by decide +kernel)]; exact ⟨rfl, rfl⟩))
    (fun os started H enc _ => IsGround_lifted os started H enc)

#print axioms IsGround_holds
end Go.Proofs.Ytafcpibodfbjnaa
