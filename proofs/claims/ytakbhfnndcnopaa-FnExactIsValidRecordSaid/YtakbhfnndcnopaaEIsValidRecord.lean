/-
  FnExactIsValidRecord hands back true whatever its arguments are, and leaves them as they were. No conditions.
-/
import Derived.Test.YtakbhfnndcnopaaRows
import Derived.Test.YtakbhfnndcnopaaB30
import Derived.Test.YtakbhfnndcnopaaC2
import Derived.Test.YtakbhfnndcnopaaQ3
namespace Go.Proofs.Ytakbhfnndcnopaa
open Go.Proofs.Try

theorem own_IsValidRecord : ownKnob prog.godebug = none := by kernel_rfl
theorem laidOut_IsValidRecord : laidOutB prog = true := by kernel_rfl

theorem IsValidRecord_lifted (os : Os) (started : os.Started) (H : Type) (enc : TypeId × Value → H) :
    ReturnsInHanded {} checked os 3 .any (Rows.fnExactIsValidRecordSpec.pre6 enc prog f3 Rows.fnExactIsValidRecordRow.domain false) (Rows.fnExactIsValidRecordSpec.post enc prog f3 false true false false) :=
  row_ok (C := checked) (d := D_lw_FnExactIsValidRecord) (ts := [.pair .str .str]) (n := 9) (tb := 4) (cv := fun h => (((h.1.1, (h.1.2, ())), ()), ())) own_IsValidRecord started (by kernel_rfl) func3
    (ChangeSpec.witness6 (enc := enc) (C := checked) false ⟨#[], #[.agg #[.string ⟨#[]⟩, .string ⟨#[]⟩]], []⟩ 8 (by kernel_rfl) (by kernel_rfl) (by kernel_rfl) (by kernel_rfl))
    laidOut_IsValidRecord (by kernel_rfl) rfl (by kernel_rfl) (by kernel_rfl) (fun ds hds => by
      match ds, hds with
      | [d0], _ => rfl) (by kernel_rfl) (by kernel_rfl) (fun _ => rfl) (fun _ => rfl) fd_lw_FnExactIsValidRecord (fun h hf => ⟨true, law_IsValidRecord h.1.1 h.1.2 hf.1.1 hf.1.2, rfl⟩) rfl

theorem IsValidRecord_holds : Rows.FnExactIsValidRecordSaid :=
  OpenClaim.holds_of_wide 3 f3 rfl rfl rfl rfl rfl rfl rfl ⟨rfl, rfl, rfl, rfl, rfl⟩ rfl rfl rfl rfl rfl (by kernel_rfl) func3 (by kernel_rfl)
    (of_decide_eq_true (by kernel_rfl)) (by unfold Func.isWrapper; first | (rw [if_pos (by decide +kernel)]; kernel_rfl) | (rw [if_neg (by decide +kernel)]; exact ⟨rfl, rfl⟩))
    (fun os started H enc _ => IsValidRecord_lifted os started H enc)

#print axioms IsValidRecord_holds
end Go.Proofs.Ytakbhfnndcnopaa
