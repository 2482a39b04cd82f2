/-
 FnAtlases hands back true whatever its arguments are, and leaves them as they were. No conditions.
-/
import Derived.Test.YtnagpmhaddfgmaaGreatRows
import Derived.Test.YtnagpmhaddfgmaaGreatB30
import Derived.Test.YtnagpmhaddfgmaaGreatC2
import Derived.Test.YtnagpmhaddfgmaaGreatQ37
namespace Go.Proofs.YtnagpmhaddfgmaaGreat
open Go.Proofs.Tryz
theorem wdh : ownKnob prog.godebug = none := by kernel_rfl
theorem wbf : laidOutB prog = true := by kernel_rfl
theorem wbk (os : Os) (started : os.Started) (H : Type) (enc : TypeId × Value → H) :
  ReturnsInHanded {} checked os 7 .any (Rows.fnAtlasesSpec.pre6 enc prog f7 Rows.fnAtlasesRow.domain false) (Rows.fnAtlasesSpec.post enc prog f7 false true false false) :=
 row_ok (C := checked) (d := wabl) (ts := [.slice (.int .u8)]) (n := 9) (tb := 4) (cv := fun h => ((h.1, ()), ())) wdh started (by kernel_rfl) func7
  (ChangeSpec.witness6 (enc := enc) (C := checked) false ⟨#[], #[.slice none 0 0], []⟩ 8 (by kernel_rfl) (by kernel_rfl) (by kernel_rfl) (by kernel_rfl))
  wbf (by kernel_rfl) rfl (by kernel_rfl) (by kernel_rfl) (fun ds hds => by
   match ds, hds with
   | [d0], _ => rfl) (by kernel_rfl) (by kernel_rfl) (fun _ => rfl) (fun _ => rfl) wais (fun h hf => ⟨true, law_FnAtlases h.1 hf.1, rfl⟩) rfl
theorem FnAtlases_holds : Rows.FnAtlasesSaid :=
 OpenClaim.holds_of_wide 7 f7 rfl rfl rfl rfl rfl rfl rfl ⟨rfl, rfl, rfl, rfl, rfl⟩ rfl rfl rfl rfl rfl (by kernel_rfl) func7 (by kernel_rfl)
  (of_decide_eq_true (by kernel_rfl)) (by unfold Func.isWrapper; first | (rw [if_pos (by decide +kernel)]; kernel_rfl) | (rw [if_neg (by decide +kernel)]; exact ⟨rfl, rfl⟩))
  (fun os started H enc _ => wbk os started H enc)
#print axioms FnAtlases_holds
end Go.Proofs.YtnagpmhaddfgmaaGreat
