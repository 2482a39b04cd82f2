/-
  FnExactOrderedBest hands back true whatever its arguments are, and leaves them as they were. No conditions.
-/
import Derived.Test.YtlemejhffpkbkaaRows
import Derived.Test.YtlemejhffpkbkaaB30
import Derived.Test.YtlemejhffpkbkaaC2
import Derived.Test.YtlemejhffpkbkaaQ23
namespace Go.Proofs.Ytlemejhffpkbkaa
open Go.Proofs.Try
theorem own_OrderedBest : ownKnob prog.godebug = none := by kernel_rfl
theorem laidOut_OrderedBest : laidOutB prog = true := by kernel_rfl
theorem OrderedBest_lifted (os : Os) (started : os.Started) (H : Type) (enc : TypeId × Value → H) :
    ReturnsInHanded {} checked os 5 .any (Rows.fnExactOrderedBestSpec.pre6 enc prog f5 Rows.fnExactOrderedBestRow.domain false) (Rows.fnExactOrderedBestSpec.post enc prog f5 false true false false) :=
  row_ok (C := checked) (d := D_zy) (ts := [.pair (.slice (.int .i64)) (.slice (.slice (.int .i64))), .int .i64, .slice (.int .i64)]) (n := 9) (tb := 4) (cv := fun h => (((h.1.1, (h.1.2, ())), (h.2.1, (h.2.2.1, ()))), ())) own_OrderedBest started (by kernel_rfl) func5
    (ChangeSpec.witness6 (enc := enc) (C := checked) false ⟨#[], #[.agg #[.slice none 0 0, .slice none 0 0], .int .i64 0, .slice none 0 0], []⟩ 8 (by kernel_rfl) (by kernel_rfl) (by kernel_rfl) (by kernel_rfl))
    laidOut_OrderedBest (by kernel_rfl) rfl (by kernel_rfl) (by kernel_rfl) (fun ds hds => by
      match ds, hds with
      | [d0, d1, d2], _ => rfl) (by kernel_rfl) (by kernel_rfl) (fun _ => rfl) (fun _ => rfl) fd_zy (fun h hf => ⟨true, law_OrderedBest h.1.1 h.1.2 h.2.1 h.2.2.1 hf.1.1 hf.1.2 hf.2.1 hf.2.2.1, rfl⟩) rfl
theorem OrderedBest_holds : Rows.FnExactOrderedBestSaid :=
  OpenClaim.holds_of_wide 5 f5 rfl rfl rfl rfl rfl rfl rfl ⟨rfl, rfl, rfl, rfl, rfl⟩ rfl rfl rfl rfl rfl (by kernel_rfl) func5 (by kernel_rfl)
    (of_decide_eq_true (by kernel_rfl)) (by unfold Func.isWrapper; first | (rw [if_pos (by decide +kernel)]; kernel_rfl) | (rw [if_neg (by decide +kernel)]; exact ⟨rfl, rfl⟩))
    (fun os started H enc _ => OrderedBest_lifted os started H enc)
#print axioms OrderedBest_holds
end Go.Proofs.Ytlemejhffpkbkaa
