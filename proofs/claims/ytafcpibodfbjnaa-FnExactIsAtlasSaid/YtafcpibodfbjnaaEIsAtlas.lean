/-
  FnExactIsAtlas hands back true whatever its arguments are, and leaves them as they were. No conditions.
-/
import Derived.Test.YtafcpibodfbjnaaRows
import Derived.Test.YtafcpibodfbjnaaB30
import Derived.Test.YtafcpibodfbjnaaC2
import Derived.Test.YtafcpibodfbjnaaQ1
namespace Go.Proofs.Ytafcpibodfbjnaa
open Go.Proofs.Try

theorem own_IsAtlas : ownKnob prog.godebug = none := by kernel_rfl
theorem laidOut_IsAtlas : laidOutB prog = true := by kernel_rfl

theorem IsAtlas_lifted (os : Os) (started : os.Started) (H : Type) (enc : TypeId × Value → H) :
    ReturnsInHanded {} checked os 8 .any (Rows.fnExactIsAtlasSpec.pre6 enc prog f8 Rows.fnExactIsAtlasRow.domain false) (Rows.fnExactIsAtlasSpec.post enc prog f8 false true false false) :=
  row_ok (C := checked) (d := D_lw_FnExactIsAtlas) (ts := [.pair (.pair (.slice (.int .i64)) (.slice (.slice (.int .i64)))) (.pair (.slice (.int .i64)) (.int .i64))]) (n := 9) (tb := 4) (cv := fun h => ((h.1.1.1, (h.1.1.2, (h.1.2.1, (h.1.2.2, ())))), ())) own_IsAtlas started (by kernel_rfl) func8
    (ChangeSpec.witness6 (enc := enc) (C := checked) false ⟨#[], #[.agg #[.slice none 0 0, .slice none 0 0, .slice none 0 0, .int .i64 0]], []⟩ 8 (by kernel_rfl) (by kernel_rfl) (by kernel_rfl) (by kernel_rfl))
    laidOut_IsAtlas (by kernel_rfl) rfl (by kernel_rfl) (by kernel_rfl) (fun ds hds => by
      match ds, hds with
      | [d0], _ => rfl) (fun _ => rfl) fd_lw_FnExactIsAtlas (fun h hf => ⟨true, law_IsAtlas h.1.1.1 h.1.1.2 h.1.2.1 h.1.2.2 hf.1.1.1 hf.1.1.2 hf.1.2.1 hf.1.2.2, rfl⟩)

theorem IsAtlas_holds : Rows.FnExactIsAtlasSaid :=
  OpenClaim.holds_of_wide 8 f8 rfl rfl rfl rfl rfl rfl rfl ⟨rfl, rfl, rfl, rfl, rfl⟩ rfl rfl rfl rfl rfl (by kernel_rfl) func8 (by kernel_rfl)
    (of_decide_eq_true (by kernel_rfl)) (by unfold Func.isWrapper; first | (rw [if_pos (by decide +kernel)]; kernel_rfl) | (rw [if_neg (by decide +kernel)]; exact ⟨rfl, rfl⟩))
    (fun os started H enc _ => IsAtlas_lifted os started H enc)

#print axioms IsAtlas_holds
end Go.Proofs.Ytafcpibodfbjnaa
