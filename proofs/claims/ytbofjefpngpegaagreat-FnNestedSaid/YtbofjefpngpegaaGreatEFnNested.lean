/-
  FnNested hands back true whatever its arguments are, and leaves them as they were. No conditions.
-/
import Derived.Test.YtbofjefpngpegaaGreatRows
import Derived.Test.YtbofjefpngpegaaGreatB30
import Derived.Test.YtbofjefpngpegaaGreatC2
import Derived.Test.YtbofjefpngpegaaGreatQ29
namespace Go.Proofs.YtbofjefpngpegaaGreat
open Go.Proofs.Tryz
theorem wwi : ownKnob prog.godebug = none := by kernel_rfl
theorem wjo : laidOutB prog = true := by kernel_rfl
theorem wmo (os : Os) (started : os.Started) (H : Type) (enc : TypeId × Value → H) :
    ReturnsInHanded {} checked os 5 .any (Rows.fnNestedSpec.pre6 enc prog f5 Rows.fnNestedRow.domain false) (Rows.fnNestedSpec.post enc prog f5 false true false false) :=
  wbns (C := checked) (d := D_zaf) (ts := [.slice (.int .u8)]) (n := 9) (tb := 4) (cv := fun h => ((h.1, ()), ())) wwi started (by kernel_rfl) func5
    (ChangeSpec.witness6 (enc := enc) (C := checked) false ⟨#[], #[.slice none 0 0], []⟩ 8 (by kernel_rfl) (by kernel_rfl) (by kernel_rfl) (by kernel_rfl))
    wjo (by kernel_rfl) rfl (by kernel_rfl) (by kernel_rfl) (fun ds hds => by
      match ds, hds with
      | [d0], _ => rfl) (by kernel_rfl) (by kernel_rfl) (fun _ => rfl) (fun _ => rfl) wbyy (fun h hf => ⟨true, wwh h.1 hf.1, rfl⟩) rfl
theorem FnNested_holds : Rows.FnNestedSaid :=
  OpenClaim.holds_of_wide 5 f5 rfl rfl rfl rfl rfl rfl rfl ⟨rfl, rfl, rfl, rfl, rfl⟩ rfl rfl rfl rfl rfl (by kernel_rfl) func5 (by kernel_rfl)
    (of_decide_eq_true (by kernel_rfl)) (by unfold Func.isWrapper; first | (rw [if_pos (by decide +kernel)]; kernel_rfl) | (rw [if_neg (by decide +kernel)]; exact ⟨rfl, rfl⟩))
    (fun os started H enc _ => wmo os started H enc)
#print axioms FnNested_holds
end Go.Proofs.YtbofjefpngpegaaGreat
