/-
 FnAtlasGap hands back true whatever its arguments are, and leaves them as they were. No conditions.
-/
import Derived.Test.YtnagpmhaddfgmaaRows
import Derived.Test.YtnagpmhaddfgmaaB30
import Derived.Test.YtnagpmhaddfgmaaC2
import Derived.Test.YtnagpmhaddfgmaaQ32
namespace Go.Proofs.Ytnagpmhaddfgmaa
open Go.Proofs.Try
theorem won : ownKnob prog.godebug = none := by kernel_rfl
theorem wil : laidOutB prog = true := by kernel_rfl
theorem wki (os : Os) (started : os.Started) (H : Type) (enc : TypeId × Value → H) :
  ReturnsInHanded {} checked os 5 .any (Rows.fnAtlasGapSpec.pre6 enc prog f5 Rows.fnAtlasGapRow.domain false) (Rows.fnAtlasGapSpec.post enc prog f5 false true false false) :=
 wbdo (C := checked) (d := wazo) (ts := [.slice (.int .u8)]) (n := 9) (tb := 4) (cv := fun h => ((h.1, ()), ())) won started (by kernel_rfl) func5
  (ChangeSpec.witness6 (enc := enc) (C := checked) false ⟨#[], #[.slice none 0 0], []⟩ 8 (by kernel_rfl) (by kernel_rfl) (by kernel_rfl) (by kernel_rfl))
  wil (by kernel_rfl) rfl (by kernel_rfl) (by kernel_rfl) (fun ds hds => by
   match ds, hds with
   | [d0], _ => rfl) (by kernel_rfl) (by kernel_rfl) (fun _ => rfl) (fun _ => rfl) wbgc (fun h hf => ⟨true, wom h.1 hf.1, rfl⟩) rfl
theorem FnAtlasGap_holds : Rows.FnAtlasGapSaid :=
 OpenClaim.holds_of_wide 5 f5 rfl rfl rfl rfl rfl rfl rfl ⟨rfl, rfl, rfl, rfl, rfl⟩ rfl rfl rfl rfl rfl (by kernel_rfl) func5 (by kernel_rfl)
  (of_decide_eq_true (by kernel_rfl)) (by unfold Func.isWrapper; first | (rw [if_pos (by decide +kernel)]; kernel_rfl) | (rw [if_neg (by decide +kernel)]; exact ⟨rfl, rfl⟩))
  (fun os started H enc _ => wki os started H enc)
#print axioms FnAtlasGap_holds
end Go.Proofs.Ytnagpmhaddfgmaa
