/-
  FnHubs hands back true whatever its arguments are, and leaves them as they were. No conditions.
-/
import Derived.Test.YtlemejhffpkbkaaRows
import Derived.Test.YtlemejhffpkbkaaB30
import Derived.Test.YtlemejhffpkbkaaC2
import Derived.Test.YtlemejhffpkbkaaQ26
namespace Go.Proofs.Ytlemejhffpkbkaa
open Go.Proofs.Try
theorem own_FnHubs : ownKnob prog.godebug = none := by kernel_rfl
theorem laidOut_FnHubs : laidOutB prog = true := by kernel_rfl
theorem FnHubs_lifted (os : Os) (started : os.Started) (H : Type) (enc : TypeId × Value → H) :
    ReturnsInHanded {} checked os 11 .any (Rows.fnHubsSpec.pre6 enc prog f11 Rows.fnHubsRow.domain false) (Rows.fnHubsSpec.post enc prog f11 false true false false) :=
  row_ok (C := checked) (d := D_lw_FnHubs) (ts := [.slice (.int .u8)]) (n := 9) (tb := 4) (cv := fun h => ((h.1, ()), ())) own_FnHubs started (by kernel_rfl) func11
    (ChangeSpec.witness6 (enc := enc) (C := checked) false ⟨#[], #[.slice none 0 0], []⟩ 8 (by kernel_rfl) (by kernel_rfl) (by kernel_rfl) (by kernel_rfl))
    laidOut_FnHubs (by kernel_rfl) rfl (by kernel_rfl) (by kernel_rfl) (fun ds hds => by
      match ds, hds with
      | [d0], _ => rfl) (by kernel_rfl) (by kernel_rfl) (fun _ => rfl) (fun _ => rfl) fd_lw_FnHubs (fun h hf => ⟨true, law_FnHubs h.1 hf.1, rfl⟩) rfl
theorem FnHubs_holds : Rows.FnHubsSaid :=
  OpenClaim.holds_of_wide 11 f11 rfl rfl rfl rfl rfl rfl rfl ⟨rfl, rfl, rfl, rfl, rfl⟩ rfl rfl rfl rfl rfl (by kernel_rfl) func11 (by kernel_rfl)
    (of_decide_eq_true (by kernel_rfl)) (by unfold Func.isWrapper; first | (rw [if_pos (by decide +kernel)]; kernel_rfl) | (rw [if_neg (by decide +kernel)]; exact ⟨rfl, rfl⟩))
    (fun os started H enc _ => FnHubs_lifted os started H enc)
#print axioms FnHubs_holds
end Go.Proofs.Ytlemejhffpkbkaa
