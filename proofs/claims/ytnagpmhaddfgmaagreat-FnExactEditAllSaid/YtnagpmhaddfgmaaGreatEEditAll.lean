/-
 FnExactEditAll hands back true whatever its arguments are, and leaves them as they were. No conditions.
-/
import Derived.Test.YtnagpmhaddfgmaaGreatRows
import Derived.Test.YtnagpmhaddfgmaaGreatB30
import Derived.Test.YtnagpmhaddfgmaaGreatC2
import Derived.Test.YtnagpmhaddfgmaaGreatQ38
namespace Go.Proofs.YtnagpmhaddfgmaaGreat
open Go.Proofs.Tryz
theorem own_EditAll : ownKnob prog.godebug = none := by kernel_rfl
theorem laidOut_EditAll : laidOutB prog = true := by kernel_rfl
theorem EditAll_lifted (os : Os) (started : os.Started) (H : Type) (enc : TypeId × Value → H) :
  ReturnsInHanded {} checked os 6 .any (Rows.fnExactEditAllSpec.pre6 enc prog f6 Rows.fnExactEditAllRow.domain false) (Rows.fnExactEditAllSpec.post enc prog f6 false true false false) :=
 row_ok (C := checked) (d := wys) (ts := [.pair (.pair (.slice (.int .i64)) (.slice (.slice (.int .i64)))) (.pair (.slice (.int .i64)) (.int .i64)), .slice (.pair (.int .i64) (.pair (.int .i64) (.pair (.int .i64) (.pair (.int .i64) (.slice (.int .i64))))))]) (n := 9) (tb := 4) (cv := fun h => (((h.1.1.1, (h.1.1.2, (h.1.2.1, (h.1.2.2, ())))), (h.2.1, ())), ())) own_EditAll started (by kernel_rfl) func6
  (ChangeSpec.witness6 (enc := enc) (C := checked) false ⟨#[], #[.agg #[.slice none 0 0, .slice none 0 0, .slice none 0 0, .int .i64 0], .slice none 0 0], []⟩ 8 (by kernel_rfl) (by kernel_rfl) (by kernel_rfl) (by kernel_rfl))
  laidOut_EditAll (by kernel_rfl) rfl (by kernel_rfl) (by kernel_rfl) (fun ds hds => by
   match ds, hds with
   | [d0, d1], _ => rfl) (by kernel_rfl) (by kernel_rfl) (fun _ => rfl) (fun _ => rfl) wagf (fun h hf => ⟨true, law_EditAll h.1.1.1 h.1.1.2 h.1.2.1 h.1.2.2 h.2.1 hf.1.1.1 hf.1.1.2 hf.1.2.1 hf.1.2.2 hf.2.1, rfl⟩) rfl
theorem EditAll_holds : Rows.FnExactEditAllSaid :=
 OpenClaim.holds_of_wide 6 f6 rfl rfl rfl rfl rfl rfl rfl ⟨rfl, rfl, rfl, rfl, rfl⟩ rfl rfl rfl rfl rfl (by kernel_rfl) func6 (by kernel_rfl)
  (of_decide_eq_true (by kernel_rfl)) (by unfold Func.isWrapper; first | (rw [if_pos (by decide +kernel)]; kernel_rfl) | (rw [if_neg (by decide +kernel)]; exact ⟨rfl, rfl⟩))
  (fun os started H enc _ => EditAll_lifted os started H enc)
#print axioms EditAll_holds
end Go.Proofs.YtnagpmhaddfgmaaGreat
