/-
  FnExactArePotentials hands back true whatever its arguments are, and leaves them as they were. No conditions.
-/
import Derived.Test.YtlmbhkmaflhagaaRows
import Derived.Test.YtlmbhkmaflhagaaB30
import Derived.Test.YtlmbhkmaflhagaaC2
import Derived.Test.YtlmbhkmaflhagaaQ15
namespace Go.Proofs.Ytlmbhkmaflhagaa
open Go.Proofs.Try

theorem own_ArePotentials : ownKnob prog.godebug = none := by kernel_rfl
theorem laidOut_ArePotentials : laidOutB prog = true := by kernel_rfl

theorem ArePotentials_lifted (os : Os) (started : os.Started) (H : Type) (enc : TypeId × Value → H) :
    ReturnsInHanded {} checked os 4 .any (Rows.fnExactArePotentialsSpec.pre6 enc prog f4 Rows.fnExactArePotentialsRow.domain false) (Rows.fnExactArePotentialsSpec.post enc prog f4 false true false false) :=
  row_ok (C := checked) (d := D_lw_FnExactArePotentials) (ts := [.pair (.slice (.int .i64)) (.pair (.slice (.int .i64)) (.pair (.slice (.int .i64)) (.slice (.slice (.slice (.int .i64)))))), .slice (.slice (.int .i64))]) (n := 9) (tb := 4) (cv := fun h => (((h.1.1, (h.1.2.1, (h.1.2.2.1, (h.1.2.2.2, ())))), (h.2.1, ())), ())) own_ArePotentials started (by kernel_rfl) func4
    (ChangeSpec.witness6 (enc := enc) (C := checked) false ⟨#[], #[.agg #[.slice none 0 0, .slice none 0 0, .slice none 0 0, .slice none 0 0], .slice none 0 0], []⟩ 8 (by kernel_rfl) (by kernel_rfl) (by kernel_rfl) (by kernel_rfl))
    laidOut_ArePotentials (by kernel_rfl) rfl (by kernel_rfl) (by kernel_rfl) (fun ds hds => by
      match ds, hds with
      | [d0, d1], _ => rfl) (by kernel_rfl) (by kernel_rfl) (fun _ => rfl) (fun _ => rfl) fd_lw_FnExactArePotentials (fun h hf => ⟨true, law_ArePotentials h.1.1 h.1.2.1 h.1.2.2.1 h.1.2.2.2 h.2.1 hf.1.1 hf.1.2.1 hf.1.2.2.1 hf.1.2.2.2 hf.2.1, rfl⟩) rfl

theorem ArePotentials_holds : Rows.FnExactArePotentialsSaid :=
  OpenClaim.holds_of_wide 4 f4 rfl rfl rfl rfl rfl rfl rfl ⟨rfl, rfl, rfl, rfl, rfl⟩ rfl rfl rfl rfl rfl (by kernel_rfl) func4 (by kernel_rfl)
    (of_decide_eq_true (by kernel_rfl)) (by unfold Func.isWrapper; first | (rw [if_pos (by decide +kernel)]; kernel_rfl) | (rw [if_neg (by decide +kernel)]; exact ⟨rfl, rfl⟩))
    (fun os started H enc _ => ArePotentials_lifted os started H enc)

#print axioms ArePotentials_holds
end Go.Proofs.Ytlmbhkmaflhagaa
