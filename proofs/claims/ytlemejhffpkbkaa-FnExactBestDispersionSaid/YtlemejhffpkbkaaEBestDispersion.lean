/-
  FnExactBestDispersion hands back true whatever its arguments are, and leaves them as they were. No conditions.
-/
import Derived.Test.YtlemejhffpkbkaaRows
import Derived.Test.YtlemejhffpkbkaaB30
import Derived.Test.YtlemejhffpkbkaaC2
import Derived.Test.YtlemejhffpkbkaaQ23
namespace Go.Proofs.Ytlemejhffpkbkaa
open Go.Proofs.Try
theorem own_BestDispersion : ownKnob prog.godebug = none := by kernel_rfl
theorem laidOut_BestDispersion : laidOutB prog = true := by kernel_rfl
theorem BestDispersion_lifted (os : Os) (started : os.Started) (H : Type) (enc : TypeId × Value → H) :
    ReturnsInHanded {} checked os 3 .any (Rows.fnExactBestDispersionSpec.pre6 enc prog f3 Rows.fnExactBestDispersionRow.domain false) (Rows.fnExactBestDispersionSpec.post enc prog f3 false true false false) :=
  row_ok (C := checked) (d := D_zr) (ts := [.slice (.slice (.int .i64)), .int .i64]) (n := 9) (tb := 4) (cv := fun h => ((h.1, (h.2.1, ())), ())) own_BestDispersion started (by kernel_rfl) func3
    (ChangeSpec.witness6 (enc := enc) (C := checked) false ⟨#[], #[.slice none 0 0, .int .i64 0], []⟩ 8 (by kernel_rfl) (by kernel_rfl) (by kernel_rfl) (by kernel_rfl))
    laidOut_BestDispersion (by kernel_rfl) rfl (by kernel_rfl) (by kernel_rfl) (fun ds hds => by
      match ds, hds with
      | [d0, d1], _ => rfl) (by kernel_rfl) (by kernel_rfl) (fun _ => rfl) (fun _ => rfl) fd_zr (fun h hf => ⟨true, law_BestDispersion h.1 h.2.1 hf.1 hf.2.1, rfl⟩) rfl
theorem BestDispersion_holds : Rows.FnExactBestDispersionSaid :=
  OpenClaim.holds_of_wide 3 f3 rfl rfl rfl rfl rfl rfl rfl ⟨rfl, rfl, rfl, rfl, rfl⟩ rfl rfl rfl rfl rfl (by kernel_rfl) func3 (by kernel_rfl)
    (of_decide_eq_true (by kernel_rfl)) (by unfold Func.isWrapper; first | (rw [if_pos (by decide +kernel)]; kernel_rfl) | (rw [if_neg (by decide +kernel)]; exact ⟨rfl, rfl⟩))
    (fun os started H enc _ => BestDispersion_lifted os started H enc)
#print axioms BestDispersion_holds
end Go.Proofs.Ytlemejhffpkbkaa
