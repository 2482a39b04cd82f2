/-
  FnExactNewAtlas hands back true whatever its arguments are, and leaves them as they were. No conditions.
-/
import Derived.Test.YthkafleokepjeaaRows
import Derived.Test.YthkafleokepjeaaB30
import Derived.Test.YthkafleokepjeaaC2
import Derived.Test.YthkafleokepjeaaQ14
namespace Go.Proofs.Ythkafleokepjeaa
open Go.Proofs.Try

theorem own_NewAtlas : ownKnob prog.godebug = none := by kernel_rfl
theorem laidOut_NewAtlas : laidOutB prog = true := by kernel_rfl

theorem NewAtlas_lifted (os : Os) (started : os.Started) (H : Type) (enc : TypeId × Value → H) :
    ReturnsInHanded {} checked os 4 .any (Rows.fnExactNewAtlasSpec.pre6 enc prog f4 Rows.fnExactNewAtlasRow.domain false) (Rows.fnExactNewAtlasSpec.post enc prog f4 false true false false) :=
  row_ok (C := checked) (d := D_lw_FnExactNewAtlas) (ts := [.pair (.slice (.int .i64)) (.slice (.slice (.int .i64)))]) (n := 9) (tb := 4) (cv := fun h => (((h.1.1, (h.1.2, ())), ()), ())) own_NewAtlas started (by kernel_rfl) func4
    (ChangeSpec.witness6 (enc := enc) (C := checked) false ⟨#[], #[.agg #[.slice none 0 0, .slice none 0 0]], []⟩ 8 (by kernel_rfl) (by kernel_rfl) (by kernel_rfl) (by kernel_rfl))
    laidOut_NewAtlas (by kernel_rfl) rfl (by kernel_rfl) (by kernel_rfl) (fun ds hds => by
      match ds, hds with
      | [d0], _ => rfl) (by kernel_rfl) (by kernel_rfl) (fun _ => rfl) (fun _ => rfl) fd_lw_FnExactNewAtlas (fun h hf => ⟨true, law_NewAtlas h.1.1 h.1.2 hf.1.1 hf.1.2, rfl⟩) rfl

theorem NewAtlas_holds : Rows.FnExactNewAtlasSaid :=
  OpenClaim.holds_of_wide 4 f4 rfl rfl rfl rfl rfl rfl rfl ⟨rfl, rfl, rfl, rfl, rfl⟩ rfl rfl rfl rfl rfl (by kernel_rfl) func4 (by kernel_rfl)
    (of_decide_eq_true (by kernel_rfl)) (by unfold Func.isWrapper; first | (rw [if_pos (by decide +kernel)]; kernel_rfl) | (rw [if_neg (by decide +kernel)]; exact ⟨rfl, rfl⟩))
    (fun os started H enc _ => NewAtlas_lifted os started H enc)

#print axioms NewAtlas_holds
end Go.Proofs.Ythkafleokepjeaa
