/-
 FnExactEditAtlas hands back true whatever its arguments are, and leaves them as they were. No conditions.
-/
import Derived.Test.YtnagpmhaddfgmaaGreatRows
import Derived.Test.YtnagpmhaddfgmaaGreatB30
import Derived.Test.YtnagpmhaddfgmaaGreatC2
import Derived.Test.YtnagpmhaddfgmaaGreatQ33
namespace Go.Proofs.YtnagpmhaddfgmaaGreat
open Go.Proofs.Tryz
theorem wtf : ownKnob prog.godebug = none := by kernel_rfl
theorem wke : laidOutB prog = true := by kernel_rfl
theorem wkw (os : Os) (started : os.Started) (H : Type) (enc : TypeId × Value → H) :
  ReturnsInHanded {} checked os 5 .any (Rows.fnExactEditAtlasSpec.pre6 enc prog f5 Rows.fnExactEditAtlasRow.domain false) (Rows.fnExactEditAtlasSpec.post enc prog f5 false true false false) :=
 wblt (C := checked) (d := wbhz) (ts := [.pair (.pair (.slice (.int .i64)) (.slice (.slice (.int .i64)))) (.pair (.slice (.int .i64)) (.int .i64)), .pair (.int .i64) (.pair (.int .i64) (.pair (.int .i64) (.pair (.int .i64) (.slice (.int .i64)))))]) (n := 9) (tb := 4) (cv := fun h => (((h.1.1.1, (h.1.1.2, (h.1.2.1, (h.1.2.2, ())))), ((h.2.1.1, (h.2.1.2.1, (h.2.1.2.2.1, (h.2.1.2.2.2.1, (h.2.1.2.2.2.2, ()))))), ())), ())) wtf started (by kernel_rfl) func5
  (ChangeSpec.witness6 (enc := enc) (C := checked) false ⟨#[], #[.agg #[.slice none 0 0, .slice none 0 0, .slice none 0 0, .int .i64 0], .agg #[.int .i64 0, .int .i64 0, .int .i64 0, .int .i64 0, .slice none 0 0]], []⟩ 8 (by kernel_rfl) (by kernel_rfl) (by kernel_rfl) (by kernel_rfl))
  wke (by kernel_rfl) rfl (by kernel_rfl) (by kernel_rfl) (fun ds hds => by
   match ds, hds with
   | [d0, d1], _ => rfl) (by kernel_rfl) (by kernel_rfl) (fun _ => rfl) (fun _ => rfl) wbpl (fun h hf => ⟨true, wte h.1.1.1 h.1.1.2 h.1.2.1 h.1.2.2 h.2.1.1 h.2.1.2.1 h.2.1.2.2.1 h.2.1.2.2.2.1 h.2.1.2.2.2.2 hf.1.1.1 hf.1.1.2 hf.1.2.1 hf.1.2.2 hf.2.1.1 hf.2.1.2.1 hf.2.1.2.2.1 hf.2.1.2.2.2.1 hf.2.1.2.2.2.2, rfl⟩) rfl
theorem EditAtlas_holds : Rows.FnExactEditAtlasSaid :=
 OpenClaim.holds_of_wide 5 f5 rfl rfl rfl rfl rfl rfl rfl ⟨rfl, rfl, rfl, rfl, rfl⟩ rfl rfl rfl rfl rfl (by kernel_rfl) func5 (by kernel_rfl)
  (of_decide_eq_true (by kernel_rfl)) (by unfold Func.isWrapper; first | (rw [if_pos (by decide +kernel)]; kernel_rfl) | (rw [if_neg (by decide +kernel)]; exact ⟨rfl, rfl⟩))
  (fun os started H enc _ => wkw os started H enc)
#print axioms EditAtlas_holds
end Go.Proofs.YtnagpmhaddfgmaaGreat
