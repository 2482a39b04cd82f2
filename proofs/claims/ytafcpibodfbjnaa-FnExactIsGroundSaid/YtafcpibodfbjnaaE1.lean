/-
  For every table of numbers FnExactIsGround hands back true and leaves its argument as it was: the program's IsGround and the reference's return the same. No conditions.
-/
import Derived.Test.YtafcpibodfbjnaaRows
import Derived.Test.YtafcpibodfbjnaaB30
import Derived.Test.YtafcpibodfbjnaaC2
import Derived.Test.YtafcpibodfbjnaaD4
namespace Go.Proofs.Ytafcpibodfbjnaa
open Go.Proofs.Try

theorem own : ownKnob prog.godebug = none := by kernel_rfl
theorem laidOut : laidOutB prog = true := by kernel_rfl

theorem maxLen_lt {n : Nat} (h : n ≤ maxLen) : (n : Int) < 9223372036854775808 := by
  unfold maxLen at h
  omega

theorem IsGround_lifted (os : Os) (started : os.Started) (H : Type) (enc : TypeId × Value → H) :
    ReturnsInHanded {} checked os 3 .any (Rows.fnExactIsGroundSpec.pre6 enc prog f3 Rows.fnExactIsGroundRow.domain false) (Rows.fnExactIsGroundSpec.post enc prog f3 false true false false) :=
  row_ok (C := checked) (d := D_lw_FnExactIsGround) (ts := [.slice (.slice (.int .i64))]) (n := 9) (tb := 4) (cv := fun h => (h.1, ())) own started (by kernel_rfl) func3
    (ChangeSpec.witness6 (enc := enc) (C := checked) false ⟨#[], #[.slice none 0 0], []⟩ 8 (by kernel_rfl) (by kernel_rfl) (by kernel_rfl) (by kernel_rfl))
    laidOut (by kernel_rfl) rfl (by kernel_rfl) (by kernel_rfl) (fun ds hds => by
      match ds, hds with
      | [d], _ => rfl) (fun _ => rfl) fd_lw_FnExactIsGround (fun h hf => ⟨true, law_IsGround ⟨maxLen_lt hf.1.1, fun r hr => maxLen_lt (hf.1.2 r hr).1⟩, rfl⟩)

theorem IsGround_holds : Rows.FnExactIsGroundSaid :=
  OpenClaim.holds_of_wide 3 f3 rfl rfl rfl rfl rfl rfl rfl ⟨rfl, rfl, rfl, rfl, rfl⟩ rfl rfl rfl rfl rfl (by kernel_rfl) func3 (by kernel_rfl)
    (of_decide_eq_true (by kernel_rfl)) (by unfold Func.isWrapper; first | (rw [if_pos (by decide +kernel)]; kernel_rfl) | (rw [if_neg (by decide +kernel)]; exact ⟨rfl, rfl⟩))
    (fun os started H enc _ => IsGround_lifted os started H enc)

#print axioms IsGround_holds
end Go.Proofs.Ytafcpibodfbjnaa
