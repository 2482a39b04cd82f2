/-
 FnFronts hands back true whatever its arguments are, and leaves them as they were. No conditions.
-/
import Derived.Test.YtnagpmhaddfgmaaGreatRows
import Derived.Test.YtnagpmhaddfgmaaGreatB30
import Derived.Test.YtnagpmhaddfgmaaGreatC2
import Derived.Test.YtnagpmhaddfgmaaGreatQ36
namespace Go.Proofs.YtnagpmhaddfgmaaGreat
open Go.Proofs.Tryz
theorem wjf : ownKnob prog.godebug = none := by kernel_rfl
theorem wco : laidOutB prog = true := by kernel_rfl
theorem wez (os : Os) (started : os.Started) (H : Type) (enc : TypeId × Value → H) :
  ReturnsInHanded {} checked os 3 .any (Rows.fnFrontsSpec.pre6 enc prog f3 Rows.fnFrontsRow.domain false) (Rows.fnFrontsSpec.post enc prog f3 false true false false) :=
 row_ok (C := checked) (d := wajm) (ts := [.slice (.int .u8)]) (n := 9) (tb := 4) (cv := fun h => ((h.1, ()), ())) wjf started (by kernel_rfl) func3
  (ChangeSpec.witness6 (enc := enc) (C := checked) false ⟨#[], #[.slice none 0 0], []⟩ 8 (by kernel_rfl) (by kernel_rfl) (by kernel_rfl) (by kernel_rfl))
  wco (by kernel_rfl) rfl (by kernel_rfl) (by kernel_rfl) (fun ds hds => by
   match ds, hds with
   | [d0], _ => rfl) (by kernel_rfl) (by kernel_rfl) (fun _ => rfl) (fun _ => rfl) waqg (fun h hf => ⟨true, wje h.1 hf.1, rfl⟩) rfl
theorem FnFronts_holds : Rows.FnFrontsSaid :=
 OpenClaim.holds_of_wide 3 f3 rfl rfl rfl rfl rfl rfl rfl ⟨rfl, rfl, rfl, rfl, rfl⟩ rfl rfl rfl rfl rfl (by kernel_rfl) func3 (by kernel_rfl)
  (of_decide_eq_true (by kernel_rfl)) (by unfold Func.isWrapper; first | (rw [if_pos (by decide +kernel)]; kernel_rfl) | (rw [if_neg (by decide +kernel)]; exact ⟨rfl, rfl⟩))
  (fun os started H enc _ => wez os started H enc)
#print axioms FnFronts_holds
end Go.Proofs.YtnagpmhaddfgmaaGreat
