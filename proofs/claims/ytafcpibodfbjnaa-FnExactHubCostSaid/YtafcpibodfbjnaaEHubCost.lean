/-
  FnExactHubCost hands back true whatever its arguments are, and leaves them as they were. No conditions.
-/
import Derived.Test.YtafcpibodfbjnaaRows
import Derived.Test.YtafcpibodfbjnaaB30
import Derived.Test.YtafcpibodfbjnaaC2
import Derived.Test.YtafcpibodfbjnaaQ1
namespace Go.Proofs.Ytafcpibodfbjnaa
open Go.Proofs.Try

theorem own_HubCost : ownKnob prog.godebug = none := by kernel_rfl
theorem laidOut_HubCost : laidOutB prog = true := by kernel_rfl

theorem HubCost_lifted (os : Os) (started : os.Started) (H : Type) (enc : TypeId × Value → H) :
    ReturnsInHanded {} checked os 9 .any (Rows.fnExactHubCostSpec.pre6 enc prog f9 Rows.fnExactHubCostRow.domain false) (Rows.fnExactHubCostSpec.post enc prog f9 false true false false) :=
  row_ok (C := checked) (d := D_lw_FnExactHubCost) (ts := [.slice (.slice (.int .i64)), .slice (.slice (.int .i64)), .slice (.int .i64), .int .i64]) (n := 9) (tb := 4) (cv := fun h => (h.1, (h.2.1, (h.2.2.1, (h.2.2.2.1, ()))))) own_HubCost started (by kernel_rfl) func9
    (ChangeSpec.witness6 (enc := enc) (C := checked) false ⟨#[], #[.slice none 0 0, .slice none 0 0, .slice none 0 0, .int .i64 0], []⟩ 8 (by kernel_rfl) (by kernel_rfl) (by kernel_rfl) (by kernel_rfl))
    laidOut_HubCost (by kernel_rfl) rfl (by kernel_rfl) (by kernel_rfl) (fun ds hds => by
      match ds, hds with
      | [d0, d1, d2, d3], _ => rfl) (fun _ => rfl) fd_lw_FnExactHubCost (fun h hf => ⟨true, law_HubCost h.1 h.2.1 h.2.2.1 h.2.2.2.1 hf.1 hf.2.1 hf.2.2.1 hf.2.2.2.1, rfl⟩)

theorem HubCost_holds : Rows.FnExactHubCostSaid :=
  OpenClaim.holds_of_wide 9 f9 rfl rfl rfl rfl rfl rfl rfl ⟨rfl, rfl, rfl, rfl, rfl⟩ rfl rfl rfl rfl rfl (by kernel_rfl) func9 (by kernel_rfl)
    (of_decide_eq_true (by kernel_rfl)) (by unfold Func.isWrapper; first | (rw [if_pos (by decide +kernel)]; kernel_rfl) | (rw [if_neg (by decide +kernel)]; exact ⟨rfl, rfl⟩))
    (fun os started H enc _ => HubCost_lifted os started H enc)

#print axioms HubCost_holds
end Go.Proofs.Ytafcpibodfbjnaa
