/-
  FnExactNestedWorst hands back true whatever its arguments are, and leaves them as they were. No conditions.
-/
import Derived.Test.YtbofjefpngpegaaRows
import Derived.Test.YtbofjefpngpegaaB30
import Derived.Test.YtbofjefpngpegaaC2
import Derived.Test.YtbofjefpngpegaaQ28
namespace Go.Proofs.Ytbofjefpngpegaa
open Go.Proofs.Try
theorem own_NestedWorst : ownKnob prog.godebug = none := by kernel_rfl
theorem laidOut_NestedWorst : laidOutB prog = true := by kernel_rfl
theorem NestedWorst_lifted (os : Os) (started : os.Started) (H : Type) (enc : TypeId × Value → H) :
    ReturnsInHanded {} checked os 3 .any (Rows.fnExactNestedWorstSpec.pre6 enc prog f3 Rows.fnExactNestedWorstRow.domain false) (Rows.fnExactNestedWorstSpec.post enc prog f3 false true false false) :=
  row_ok (C := checked) (d := D_zaa) (ts := [.pair (.slice (.int .i64)) (.slice (.slice (.int .i64))), .slice (.int .i64)]) (n := 9) (tb := 4) (cv := fun h => (((h.1.1, (h.1.2, ())), (h.2.1, ())), ())) own_NestedWorst started (by kernel_rfl) func3
    (ChangeSpec.witness6 (enc := enc) (C := checked) false ⟨#[], #[.agg #[.slice none 0 0, .slice none 0 0], .slice none 0 0], []⟩ 8 (by kernel_rfl) (by kernel_rfl) (by kernel_rfl) (by kernel_rfl))
    laidOut_NestedWorst (by kernel_rfl) rfl (by kernel_rfl) (by kernel_rfl) (fun ds hds => by
      match ds, hds with
      | [d0, d1], _ => rfl) (by kernel_rfl) (by kernel_rfl) (fun _ => rfl) (fun _ => rfl) fd_zaa (fun h hf => ⟨true, law_NestedWorst h.1.1 h.1.2 h.2.1 hf.1.1 hf.1.2 hf.2.1, rfl⟩) rfl
theorem NestedWorst_holds : Rows.FnExactNestedWorstSaid :=
  OpenClaim.holds_of_wide 3 f3 rfl rfl rfl rfl rfl rfl rfl ⟨rfl, rfl, rfl, rfl, rfl⟩ rfl rfl rfl rfl rfl (by kernel_rfl) func3 (by kernel_rfl)
    (of_decide_eq_true (by kernel_rfl)) (by unfold Func.isWrapper; first | (rw [if_pos (by decide +kernel)]; kernel_rfl) | (rw [if_neg (by decide +kernel)]; exact ⟨rfl, rfl⟩))
    (fun os started H enc _ => NestedWorst_lifted os started H enc)
#print axioms NestedWorst_holds
end Go.Proofs.Ytbofjefpngpegaa
