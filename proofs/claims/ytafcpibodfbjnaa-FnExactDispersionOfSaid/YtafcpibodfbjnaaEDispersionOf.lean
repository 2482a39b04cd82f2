/-
  FnExactDispersionOf hands back true whatever its arguments are, and leaves them as they were. No conditions.
-/
import Derived.Test.YtafcpibodfbjnaaRows
import Derived.Test.YtafcpibodfbjnaaB30
import Derived.Test.YtafcpibodfbjnaaC2
import Derived.Test.YtafcpibodfbjnaaQ1
namespace Go.Proofs.Ytafcpibodfbjnaa
open Go.Proofs.Try

theorem own_DispersionOf : ownKnob prog.godebug = none := by kernel_rfl
theorem laidOut_DispersionOf : laidOutB prog = true := by kernel_rfl

theorem DispersionOf_lifted (os : Os) (started : os.Started) (H : Type) (enc : TypeId × Value → H) :
    ReturnsInHanded {} checked os 7 .any (Rows.fnExactDispersionOfSpec.pre6 enc prog f7 Rows.fnExactDispersionOfRow.domain false) (Rows.fnExactDispersionOfSpec.post enc prog f7 false true false false) :=
  row_ok (C := checked) (d := D_lw_FnExactDispersionOf) (ts := [.slice (.slice (.int .i64)), .slice (.int .i64)]) (n := 9) (tb := 4) (cv := fun h => (h.1, (h.2.1, ()))) own_DispersionOf started (by kernel_rfl) func7
    (ChangeSpec.witness6 (enc := enc) (C := checked) false ⟨#[], #[.slice none 0 0, .slice none 0 0], []⟩ 8 (by kernel_rfl) (by kernel_rfl) (by kernel_rfl) (by kernel_rfl))
    laidOut_DispersionOf (by kernel_rfl) rfl (by kernel_rfl) (by kernel_rfl) (fun ds hds => by
      match ds, hds with
      | [d0, d1], _ => rfl) (fun _ => rfl) fd_lw_FnExactDispersionOf (fun h hf => ⟨true, law_DispersionOf h.1 h.2.1 hf.1 hf.2.1, rfl⟩)

theorem DispersionOf_holds : Rows.FnExactDispersionOfSaid :=
  OpenClaim.holds_of_wide 7 f7 rfl rfl rfl rfl rfl rfl rfl ⟨rfl, rfl, rfl, rfl, rfl⟩ rfl rfl rfl rfl rfl (by kernel_rfl) func7 (by kernel_rfl)
    (of_decide_eq_true (by kernel_rfl)) (by unfold Func.isWrapper; first | (rw [if_pos (by decide +kernel)]; kernel_rfl) | (rw [if_neg (by decide +kernel)]; exact ⟨rfl, rfl⟩))
    (fun os started H enc _ => DispersionOf_lifted os started H enc)

#print axioms DispersionOf_holds
end Go.Proofs.Ytafcpibodfbjnaa
