/-
 FnDispersion hands back true whatever its arguments are, and leaves them as they were. No conditions.
-/
import Derived.Test.YtnagpmhaddfgmaaGreatRows
import Derived.Test.YtnagpmhaddfgmaaGreatB30
import Derived.Test.YtnagpmhaddfgmaaGreatC2
import Derived.Test.YtnagpmhaddfgmaaGreatQ30
namespace Go.Proofs.YtnagpmhaddfgmaaGreat
open Go.Proofs.Tryz
theorem wln : ownKnob prog.godebug = none := by kernel_rfl
theorem whh : laidOutB prog = true := by kernel_rfl
theorem wil (os : Os) (started : os.Started) (H : Type) (enc : TypeId × Value → H) :
  ReturnsInHanded {} checked os 4 .any (Rows.fnDispersionSpec.pre6 enc prog f4 Rows.fnDispersionRow.domain false) (Rows.fnDispersionSpec.post enc prog f4 false true false false) :=
 wbnh (C := checked) (d := wbii) (ts := [.slice (.int .u8)]) (n := 9) (tb := 4) (cv := fun h => ((h.1, ()), ())) wln started (by kernel_rfl) func4
  (ChangeSpec.witness6 (enc := enc) (C := checked) false ⟨#[], #[.slice none 0 0], []⟩ 8 (by kernel_rfl) (by kernel_rfl) (by kernel_rfl) (by kernel_rfl))
  whh (by kernel_rfl) rfl (by kernel_rfl) (by kernel_rfl) (fun ds hds => by
   match ds, hds with
   | [d0], _ => rfl) (by kernel_rfl) (by kernel_rfl) (fun _ => rfl) (fun _ => rfl) wbrj (fun h hf => ⟨true, wlm h.1 hf.1, rfl⟩) rfl
theorem FnDispersion_holds : Rows.FnDispersionSaid :=
 OpenClaim.holds_of_wide 4 f4 rfl rfl rfl rfl rfl rfl rfl ⟨rfl, rfl, rfl, rfl, rfl⟩ rfl rfl rfl rfl rfl (by kernel_rfl) func4 (by kernel_rfl)
  (of_decide_eq_true (by kernel_rfl)) (by unfold Func.isWrapper; first | (rw [if_pos (by decide +kernel)]; kernel_rfl) | (rw [if_neg (by decide +kernel)]; exact ⟨rfl, rfl⟩))
  (fun os started H enc _ => wil os started H enc)
#print axioms FnDispersion_holds
end Go.Proofs.YtnagpmhaddfgmaaGreat
