/-
  FnExactProvesApart hands back true whatever its arguments are, and leaves them as they were. No conditions.
-/
import Derived.Test.YtlemejhffpkbkaaRows
import Derived.Test.YtlemejhffpkbkaaB30
import Derived.Test.YtlemejhffpkbkaaC2
import Derived.Test.YtlemejhffpkbkaaQ27
namespace Go.Proofs.Ytlemejhffpkbkaa
open Go.Proofs.Try
theorem own_ProvesApart : ownKnob prog.godebug = none := by kernel_rfl
theorem laidOut_ProvesApart : laidOutB prog = true := by kernel_rfl
theorem ProvesApart_lifted (os : Os) (started : os.Started) (H : Type) (enc : TypeId × Value → H) :
    ReturnsInHanded {} checked os 7 .any (Rows.fnExactProvesApartSpec.pre6 enc prog f7 Rows.fnExactProvesApartRow.domain false) (Rows.fnExactProvesApartSpec.post enc prog f7 false true false false) :=
  row_ok (C := checked) (d := D_lw_FnExactProvesApart) (ts := [.slice (.slice (.int .i64)), .slice (.slice (.int .i64)), .int .i64]) (n := 9) (tb := 4) (cv := fun h => ((h.1, (h.2.1, (h.2.2.1, ()))), ())) own_ProvesApart started (by kernel_rfl) func7
    (ChangeSpec.witness6 (enc := enc) (C := checked) false ⟨#[], #[.slice none 0 0, .slice none 0 0, .int .i64 0], []⟩ 8 (by kernel_rfl) (by kernel_rfl) (by kernel_rfl) (by kernel_rfl))
    laidOut_ProvesApart (by kernel_rfl) rfl (by kernel_rfl) (by kernel_rfl) (fun ds hds => by
      match ds, hds with
      | [d0, d1, d2], _ => rfl) (by kernel_rfl) (by kernel_rfl) (fun _ => rfl) (fun _ => rfl) fd_lw_FnExactProvesApart (fun h hf => ⟨true, law_ProvesApart h.1 h.2.1 h.2.2.1 hf.1 hf.2.1 hf.2.2.1, rfl⟩) rfl
theorem ProvesApart_holds : Rows.FnExactProvesApartSaid :=
  OpenClaim.holds_of_wide 7 f7 rfl rfl rfl rfl rfl rfl rfl ⟨rfl, rfl, rfl, rfl, rfl⟩ rfl rfl rfl rfl rfl (by kernel_rfl) func7 (by kernel_rfl)
    (of_decide_eq_true (by kernel_rfl)) (by unfold Func.isWrapper; first | (rw [if_pos (by decide +kernel)]; kernel_rfl) | (rw [if_neg (by decide +kernel)]; exact ⟨rfl, rfl⟩))
    (fun os started H enc _ => ProvesApart_lifted os started H enc)
#print axioms ProvesApart_holds
end Go.Proofs.Ytlemejhffpkbkaa
