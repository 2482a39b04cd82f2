/-
  FnOrdered hands back true whatever its arguments are, and leaves them as they were. No conditions.
-/
import Derived.Test.YtlemejhffpkbkaaGreatRows
import Derived.Test.YtlemejhffpkbkaaGreatB30
import Derived.Test.YtlemejhffpkbkaaGreatC2
import Derived.Test.YtlemejhffpkbkaaGreatQ24
namespace Go.Proofs.YtlemejhffpkbkaaGreat
open Go.Proofs.Tryz
theorem own_FnOrdered : ownKnob prog.godebug = none := by kernel_rfl
theorem laidOut_FnOrdered : laidOutB prog = true := by kernel_rfl
theorem FnOrdered_lifted (os : Os) (started : os.Started) (H : Type) (enc : TypeId × Value → H) :
    ReturnsInHanded {} checked os 4 .any (Rows.fnOrderedSpec.pre6 enc prog f4 Rows.fnOrderedRow.domain false) (Rows.fnOrderedSpec.post enc prog f4 false true false false) :=
  row_ok (C := checked) (d := D_zak) (ts := [.slice (.int .u8)]) (n := 9) (tb := 4) (cv := fun h => ((h.1, ()), ())) own_FnOrdered started (by kernel_rfl) func4
    (ChangeSpec.witness6 (enc := enc) (C := checked) false ⟨#[], #[.slice none 0 0], []⟩ 8 (by kernel_rfl) (by kernel_rfl) (by kernel_rfl) (by kernel_rfl))
    laidOut_FnOrdered (by kernel_rfl) rfl (by kernel_rfl) (by kernel_rfl) (fun ds hds => by
      match ds, hds with
      | [d0], _ => rfl) (by kernel_rfl) (by kernel_rfl) (fun _ => rfl) (fun _ => rfl) fd_zak (fun h hf => ⟨true, law_FnOrdered h.1 hf.1, rfl⟩) rfl
theorem FnOrdered_holds : Rows.FnOrderedSaid :=
  OpenClaim.holds_of_wide 4 f4 rfl rfl rfl rfl rfl rfl rfl ⟨rfl, rfl, rfl, rfl, rfl⟩ rfl rfl rfl rfl rfl (by kernel_rfl) func4 (by kernel_rfl)
    (of_decide_eq_true (by kernel_rfl)) (by unfold Func.isWrapper; first | (rw [if_pos (by decide +kernel)]; kernel_rfl) | (rw [if_neg (by decide +kernel)]; exact ⟨rfl, rfl⟩))
    (fun os started H enc _ => FnOrdered_lifted os started H enc)
#print axioms FnOrdered_holds
end Go.Proofs.YtlemejhffpkbkaaGreat
