/-
  FnExactAppendRecord hands back true whatever its arguments are, and leaves them as they were. The condition: three tables of the library hold what their texts say; the card ties them to the text.
-/
import Derived.Test.YtakbhfnndcnopaaDoorRows
import Derived.Test.YtakbhfnndcnopaaDoorCards
import Derived.Test.YtakbhfnndcnopaaDoorB33
import Derived.Test.YtakbhfnndcnopaaDoorC2
import Derived.Test.YtakbhfnndcnopaaDoorQ6
namespace Go.Proofs.YtakbhfnndcnopaaDoor
open Go Go.Proofs.Tryd

theorem own_AppendRecord : ownKnob prog.godebug = none := by kernel_rfl
theorem laidOut_AppendRecord : laidOutB prog = true := by kernel_rfl

theorem AppendRecord_lifted (os : Os) (started : os.Started) (H : Type) (enc : TypeId × Value → H) :
    ReturnsInHanded {} checked os 8 .any (fun w args => (Rows.fnExactAppendRecordSpec.pre enc prog f8 Rows.fnExactAppendRecordRow.domain false w args ∧ laidMetH prog seatLaid w) ∧ sizedMet enc prog f8 (OpenSpec.ofChange Rows.fnExactAppendRecordSpec) false w args) (Rows.fnExactAppendRecordSpec.post enc prog f8 false true false false) :=
  row_laid (C := checked) (laid := seatLaid) (fun _ h => tabs_of_laid h) (d := D_lw_FnExactAppendRecord) (ts := [.pair .str (.pair .str (.int .i64)), .pair .str .str]) (n := 9) (tb := 4) (cv := fun h => (((h.1.1, (h.1.2.1, (h.1.2.2, ()))), ((h.2.1.1, (h.2.1.2, ())), ())), ())) own_AppendRecord started (by kernel_rfl) func8
    (ChangeSpec.witness_at (enc := enc) (C := checked) (os := os) (X := fun w _ => laidMetH prog seatLaid w) false (laidWorld os) #[.agg #[.string ⟨#[]⟩, .string ⟨#[]⟩, .int .i64 0], .agg #[.string ⟨#[]⟩, .string ⟨#[]⟩]] 8 rfl (by kernel_rfl) (by kernel_rfl) (by kernel_rfl) (by kernel_rfl) (by kernel_rfl) (laid_met os _))
    laidOut_AppendRecord (by kernel_rfl) rfl (by kernel_rfl) (by kernel_rfl) (fun ds hds => by
      match ds, hds with
      | [d0, d1], _ => rfl) (by kernel_rfl) (by kernel_rfl) (fun _ => rfl) (fun _ => rfl) fd_lw_FnExactAppendRecord (fun h hf => ⟨true, law_AppendRecord h.1.1 h.1.2.1 h.1.2.2 h.2.1.1 h.2.1.2 hf.1.1 hf.1.2.1 hf.1.2.2 hf.2.1.1 hf.2.1.2, rfl⟩)

theorem AppendRecord_row : Rows.FnExactAppendRecordSaid :=
  OpenClaim.holds_of_wide 8 f8 rfl rfl rfl rfl rfl rfl rfl ⟨rfl, rfl, rfl, rfl, rfl⟩ rfl rfl rfl rfl rfl (by kernel_rfl) func8 (by kernel_rfl)
    (of_decide_eq_true (by kernel_rfl)) (by unfold Func.isWrapper; first | (rw [if_pos (by decide +kernel)]; kernel_rfl) | (rw [if_neg (by decide +kernel)]; exact ⟨rfl, rfl⟩))
    (fun os started H enc _ => AppendRecord_lifted os started H enc)

theorem AppendRecord_holds : Rows.FnExactAppendRecordCardSaid :=
  Claim7.holds_tied_plain_at .later [] [.data, .data, .data] true (true, "a6d43cf007ddb0074626939fea9474a7936c520878005be3f69249f663127008") false
    AppendRecord_row (fun _ h => by cases h) (by kernel_rfl) (fun _ h => by cases h) fnExactAppendRecord_row_tie rfl ⟨rfl, rfl⟩ (by kernel_rfl) rfl
    (fun f fn hf hfn => by
      obtain rfl : f = 8 := (Option.some.inj ((show prog.funcNamed "loop.example/g01110/laws.FnExactAppendRecord" = some 8 by kernel_rfl).symm.trans hf)).symm
      obtain rfl : fn = f8 := (Option.some.inj (func8.symm.trans hfn)).symm
      exact card_side (by kernel_rfl) (by kernel_rfl))
    (by kernel_rfl)

#print axioms AppendRecord_holds
end Go.Proofs.YtakbhfnndcnopaaDoor
