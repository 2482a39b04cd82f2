/-
  FnExactBestUnder hands back true whatever its arguments are, and leaves them as they were. No conditions.
-/
import Derived.Test.YtlmbhkmaflhagaaRows
import Derived.Test.YtlmbhkmaflhagaaB30
import Derived.Test.YtlmbhkmaflhagaaC2
import Derived.Test.YtlmbhkmaflhagaaQ19
namespace Go.Proofs.Ytlmbhkmaflhagaa
open Go.Proofs.Try
theorem own_BestUnder : ownKnob prog.godebug = none := by kernel_rfl
theorem laidOut_BestUnder : laidOutB prog = true := by kernel_rfl
theorem BestUnder_lifted (os : Os) (started : os.Started) (H : Type) (enc : TypeId × Value → H) :
    ReturnsInHanded {} checked os 11 .any (Rows.fnExactBestUnderSpec.pre6 enc prog f11 Rows.fnExactBestUnderRow.domain false) (Rows.fnExactBestUnderSpec.post enc prog f11 false true false false) :=
  row_ok (C := checked) (d := D_lw_FnExactBestUnder) (ts := [.pair (.slice (.int .i64)) (.slice (.slice (.int .i64))), .int .i64, .int .i64, .int .i64]) (n := 9) (tb := 4) (cv := fun h => (((h.1.1, (h.1.2, ())), (h.2.1, (h.2.2.1, (h.2.2.2.1, ())))), ())) own_BestUnder started (by kernel_rfl) func11
    (ChangeSpec.witness6 (enc := enc) (C := checked) false ⟨#[], #[.agg #[.slice none 0 0, .slice none 0 0], .int .i64 0, .int .i64 0, .int .i64 0], []⟩ 8 (by kernel_rfl) (by kernel_rfl) (by kernel_rfl) (by kernel_rfl))
    laidOut_BestUnder (by kernel_rfl) rfl (by kernel_rfl) (by kernel_rfl) (fun ds hds => by
      match ds, hds with
      | [d0, d1, d2, d3], _ => rfl) (by kernel_rfl) (by kernel_rfl) (fun _ => rfl) (fun _ => rfl) fd_lw_FnExactBestUnder (fun h hf => ⟨true, law_BestUnder h.1.1 h.1.2 h.2.1 h.2.2.1 h.2.2.2.1 hf.1.1 hf.1.2 hf.2.1 hf.2.2.1 hf.2.2.2.1, rfl⟩) rfl
theorem BestUnder_holds : Rows.FnExactBestUnderSaid :=
  OpenClaim.holds_of_wide 11 f11 rfl rfl rfl rfl rfl rfl rfl ⟨rfl, rfl, rfl, rfl, rfl⟩ rfl rfl rfl rfl rfl (by kernel_rfl) func11 (by kernel_rfl)
    (of_decide_eq_true (by kernel_rfl)) (by unfold Func.isWrapper; first | (rw [if_pos (by decide +kernel)]; kernel_rfl) | (rw [if_neg (by decide +kernel)]; exact ⟨rfl, rfl⟩))
    (fun os started H enc _ => BestUnder_lifted os started H enc)
#print axioms BestUnder_holds
end Go.Proofs.Ytlmbhkmaflhagaa
