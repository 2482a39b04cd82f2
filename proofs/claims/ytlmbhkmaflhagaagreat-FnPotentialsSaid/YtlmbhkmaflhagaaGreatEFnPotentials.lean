/-
  FnPotentials hands back true whatever its arguments are, and leaves them as they were. No conditions.
-/
import Derived.Test.YtlmbhkmaflhagaaGreatRows
import Derived.Test.YtlmbhkmaflhagaaGreatB30
import Derived.Test.YtlmbhkmaflhagaaGreatC2
import Derived.Test.YtlmbhkmaflhagaaGreatQ22
namespace Go.Proofs.YtlmbhkmaflhagaaGreat
open Go.Proofs.Tryz
theorem own_FnPotentials : ownKnob prog.godebug = none := by kernel_rfl
theorem laidOut_FnPotentials : laidOutB prog = true := by kernel_rfl
theorem FnPotentials_lifted (os : Os) (started : os.Started) (H : Type) (enc : TypeId × Value → H) :
    ReturnsInHanded {} checked os 3 .any (Rows.fnPotentialsSpec.pre6 enc prog f3 Rows.fnPotentialsRow.domain false) (Rows.fnPotentialsSpec.post enc prog f3 false true false false) :=
  row_ok (C := checked) (d := D_zap) (ts := [.slice (.int .u8)]) (n := 9) (tb := 4) (cv := fun h => ((h.1, ()), ())) own_FnPotentials started (by kernel_rfl) func3
    (ChangeSpec.witness6 (enc := enc) (C := checked) false ⟨#[], #[.slice none 0 0], []⟩ 8 (by kernel_rfl) (by kernel_rfl) (by kernel_rfl) (by kernel_rfl))
    laidOut_FnPotentials (by kernel_rfl) rfl (by kernel_rfl) (by kernel_rfl) (fun ds hds => by
      match ds, hds with
      | [d0], _ => rfl) (by kernel_rfl) (by kernel_rfl) (fun _ => rfl) (fun _ => rfl) fd_zap (fun h hf => ⟨true, law_FnPotentials h.1 hf.1, rfl⟩) rfl
theorem FnPotentials_holds : Rows.FnPotentialsSaid :=
  OpenClaim.holds_of_wide 3 f3 rfl rfl rfl rfl rfl rfl rfl ⟨rfl, rfl, rfl, rfl, rfl⟩ rfl rfl rfl rfl rfl (by kernel_rfl) func3 (by kernel_rfl)
    (of_decide_eq_true (by kernel_rfl)) (by unfold Func.isWrapper; first | (rw [if_pos (by decide +kernel)]; kernel_rfl) | (rw [if_neg (by decide +kernel)]; exact ⟨rfl, rfl⟩))
    (fun os started H enc _ => FnPotentials_lifted os started H enc)
#print axioms FnPotentials_holds
end Go.Proofs.YtlmbhkmaflhagaaGreat
