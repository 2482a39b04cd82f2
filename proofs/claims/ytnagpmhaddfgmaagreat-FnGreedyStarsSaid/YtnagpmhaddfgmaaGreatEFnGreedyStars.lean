/-
 FnGreedyStars hands back true whatever its arguments are, and leaves them as they were. No conditions.
-/
import Derived.Test.YtnagpmhaddfgmaaGreatRows
import Derived.Test.YtnagpmhaddfgmaaGreatB30
import Derived.Test.YtnagpmhaddfgmaaGreatC2
import Derived.Test.YtnagpmhaddfgmaaGreatQ34
namespace Go.Proofs.YtnagpmhaddfgmaaGreat
open Go.Proofs.Tryz
theorem wlm : ownKnob prog.godebug = none := by kernel_rfl
theorem wgq : laidOutB prog = true := by kernel_rfl
theorem whh (os : Os) (started : os.Started) (H : Type) (enc : TypeId × Value → H) :
  ReturnsInHanded {} checked os 8 .any (Rows.fnGreedyStarsSpec.pre6 enc prog f8 Rows.fnGreedyStarsRow.domain false) (Rows.fnGreedyStarsSpec.post enc prog f8 false true false false) :=
 wbrb (C := checked) (d := wblz) (ts := [.slice (.int .u8)]) (n := 9) (tb := 4) (cv := fun h => ((h.1, ()), ())) wlm started (by kernel_rfl) func8
  (ChangeSpec.witness6 (enc := enc) (C := checked) false ⟨#[], #[.slice none 0 0], []⟩ 8 (by kernel_rfl) (by kernel_rfl) (by kernel_rfl) (by kernel_rfl))
  wgq (by kernel_rfl) rfl (by kernel_rfl) (by kernel_rfl) (fun ds hds => by
   match ds, hds with
   | [d0], _ => rfl) (by kernel_rfl) (by kernel_rfl) (fun _ => rfl) (fun _ => rfl) wbud (fun h hf => ⟨true, wll h.1 hf.1, rfl⟩) rfl
theorem FnGreedyStars_holds : Rows.FnGreedyStarsSaid :=
 OpenClaim.holds_of_wide 8 f8 rfl rfl rfl rfl rfl rfl rfl ⟨rfl, rfl, rfl, rfl, rfl⟩ rfl rfl rfl rfl rfl (by kernel_rfl) func8 (by kernel_rfl)
  (of_decide_eq_true (by kernel_rfl)) (by unfold Func.isWrapper; first | (rw [if_pos (by decide +kernel)]; kernel_rfl) | (rw [if_neg (by decide +kernel)]; exact ⟨rfl, rfl⟩))
  (fun os started H enc _ => whh os started H enc)
#print axioms FnGreedyStars_holds
end Go.Proofs.YtnagpmhaddfgmaaGreat
