/-
  FnCrashes hands back true whatever its arguments are, and leaves them as they were. The condition: three tables of the library hold what their texts say; the card ties them to the text.
-/
import Derived.Test.YtakbhfnndcnopaaDoorRows
import Derived.Test.YtakbhfnndcnopaaDoorCards
import Derived.Test.YtakbhfnndcnopaaDoorB33
import Derived.Test.YtakbhfnndcnopaaDoorC2
import Derived.Test.YtakbhfnndcnopaaDoorQ12
namespace Go.Proofs.YtakbhfnndcnopaaDoor
open Go Go.Proofs.Tryd

theorem own_FnCrashes : ownKnob prog.godebug = none := by kernel_rfl
theorem laidOut_FnCrashes : laidOutB prog = true := by kernel_rfl

theorem FnCrashes_lifted (os : Os) (started : os.Started) (H : Type) (enc : TypeId × Value → H) :
    ReturnsInHanded {} checked os 11 .any (fun w args => (Rows.fnCrashesSpec.pre enc prog f11 Rows.fnCrashesRow.domain false w args ∧ laidMetH prog seatLaid w) ∧ sizedMet enc prog f11 (OpenSpec.ofChange Rows.fnCrashesSpec) false w args) (Rows.fnCrashesSpec.post enc prog f11 false true false false) :=
  row_laid (C := checked) (laid := seatLaid) (fun _ h => tabs_of_laid h) (d := D_lw_FnCrashes) (ts := [.slice (.int .u8)]) (n := 9) (tb := 4) (cv := fun h => ((h.1, ()), ())) own_FnCrashes started (by kernel_rfl) func11
    (ChangeSpec.witness_at (enc := enc) (C := checked) (os := os) (X := fun w _ => laidMetH prog seatLaid w) false (laidWorld os) #[.slice none 0 0] 8 rfl (by kernel_rfl) (by kernel_rfl) (by kernel_rfl) (by kernel_rfl) (by kernel_rfl) (laid_met os _))
    laidOut_FnCrashes (by kernel_rfl) rfl (by kernel_rfl) (by kernel_rfl) (fun ds hds => by
      match ds, hds with
      | [d0], _ => rfl) (by kernel_rfl) (by kernel_rfl) (fun _ => rfl) (fun _ => rfl) fd_lw_FnCrashes (fun h hf => ⟨true, law_FnCrashes h.1 hf.1, rfl⟩)

theorem FnCrashes_row : Rows.FnCrashesSaid :=
  OpenClaim.holds_of_wide 11 f11 rfl rfl rfl rfl rfl rfl rfl ⟨rfl, rfl, rfl, rfl, rfl⟩ rfl rfl rfl rfl rfl (by kernel_rfl) func11 (by kernel_rfl)
    (of_decide_eq_true (by kernel_rfl)) (by unfold Func.isWrapper; first | (rw [if_pos (by decide +kernel)]; kernel_rfl) | (rw [if_neg (by decide +kernel)]; exact ⟨rfl, rfl⟩))
    (fun os started H enc _ => FnCrashes_lifted os started H enc)

theorem FnCrashes_holds : Rows.FnCrashesCardSaid :=
  Claim7.holds_tied_plain_at .later [] [.data, .data, .data] true (true, "a6d43cf007ddb0074626939fea9474a7936c520878005be3f69249f663127008") false
    FnCrashes_row (fun _ h => by cases h) (by kernel_rfl) (fun _ h => by cases h) fnCrashes_row_tie rfl ⟨rfl, rfl⟩ (by kernel_rfl) rfl
    (fun f fn hf hfn => by
      obtain rfl : f = 11 := (Option.some.inj ((show prog.funcNamed "loop.example/g01110/laws.FnCrashes" = some 11 by kernel_rfl).symm.trans hf)).symm
      obtain rfl : fn = f11 := (Option.some.inj (func11.symm.trans hfn)).symm
      exact card_side (by kernel_rfl) (by kernel_rfl))
    (by kernel_rfl)

#print axioms FnCrashes_holds
end Go.Proofs.YtakbhfnndcnopaaDoor
