/-
  FnOnline hands back true whatever its arguments are, and leaves them as they were. No conditions.
-/
import Derived.Test.YtlmbhkmaflhagaaRows
import Derived.Test.YtlmbhkmaflhagaaB30
import Derived.Test.YtlmbhkmaflhagaaC2
import Derived.Test.YtlmbhkmaflhagaaQ21
namespace Go.Proofs.Ytlmbhkmaflhagaa
open Go.Proofs.Try
theorem own_FnOnline : ownKnob prog.godebug = none := by kernel_rfl
theorem laidOut_FnOnline : laidOutB prog = true := by kernel_rfl
theorem FnOnline_lifted (os : Os) (started : os.Started) (H : Type) (enc : TypeId × Value → H) :
    ReturnsInHanded {} checked os 12 .any (Rows.fnOnlineSpec.pre6 enc prog f12 Rows.fnOnlineRow.domain false) (Rows.fnOnlineSpec.post enc prog f12 false true false false) :=
  row_ok (C := checked) (d := D_zaf) (ts := [.slice (.int .u8)]) (n := 9) (tb := 4) (cv := fun h => ((h.1, ()), ())) own_FnOnline started (by kernel_rfl) func12
    (ChangeSpec.witness6 (enc := enc) (C := checked) false ⟨#[], #[.slice none 0 0], []⟩ 8 (by kernel_rfl) (by kernel_rfl) (by kernel_rfl) (by kernel_rfl))
    laidOut_FnOnline (by kernel_rfl) rfl (by kernel_rfl) (by kernel_rfl) (fun ds hds => by
      match ds, hds with
      | [d0], _ => rfl) (by kernel_rfl) (by kernel_rfl) (fun _ => rfl) (fun _ => rfl) fd_zaf (fun h hf => ⟨true, law_FnOnline h.1 hf.1, rfl⟩) rfl
theorem FnOnline_holds : Rows.FnOnlineSaid :=
  OpenClaim.holds_of_wide 12 f12 rfl rfl rfl rfl rfl rfl rfl ⟨rfl, rfl, rfl, rfl, rfl⟩ rfl rfl rfl rfl rfl (by kernel_rfl) func12 (by kernel_rfl)
    (of_decide_eq_true (by kernel_rfl)) (by unfold Func.isWrapper; first | (rw [if_pos (by decide +kernel)]; kernel_rfl) | (rw [if_neg (by decide +kernel)]; exact ⟨rfl, rfl⟩))
    (fun os started H enc _ => FnOnline_lifted os started H enc)
#print axioms FnOnline_holds
end Go.Proofs.Ytlmbhkmaflhagaa
