/-
  FnExactEncodeRecord hands back true whatever its arguments are, and leaves them as they were. The condition: three tables of the library hold what their texts say; the card ties them to the text.
-/
import Derived.Test.YtakbhfnndcnopaaDoorRows
import Derived.Test.YtakbhfnndcnopaaDoorCards
import Derived.Test.YtakbhfnndcnopaaDoorB33
import Derived.Test.YtakbhfnndcnopaaDoorC2
import Derived.Test.YtakbhfnndcnopaaDoorQ5
namespace Go.Proofs.YtakbhfnndcnopaaDoor
open Go Go.Proofs.Tryd

theorem own_EncodeRecord : ownKnob prog.godebug = none := by kernel_rfl
theorem laidOut_EncodeRecord : laidOutB prog = true := by kernel_rfl

theorem EncodeRecord_lifted (os : Os) (started : os.Started) (H : Type) (enc : TypeId × Value → H) :
    ReturnsInHanded {} checked os 3 .any (fun w args => (Rows.fnExactEncodeRecordSpec.pre enc prog f3 Rows.fnExactEncodeRecordRow.domain false w args ∧ laidMetH prog seatLaid w) ∧ sizedMet enc prog f3 (OpenSpec.ofChange Rows.fnExactEncodeRecordSpec) false w args) (Rows.fnExactEncodeRecordSpec.post enc prog f3 false true false false) :=
  row_laid (C := checked) (laid := seatLaid) (fun _ h => tabs_of_laid h) (d := D_lw_FnExactEncodeRecord) (ts := [.int .i64, .pair .str .str]) (n := 9) (tb := 4) (cv := fun h => ((h.1, ((h.2.1.1, (h.2.1.2, ())), ())), ())) own_EncodeRecord started (by kernel_rfl) func3
    (ChangeSpec.witness_at (enc := enc) (C := checked) (os := os) (X := fun w _ => laidMetH prog seatLaid w) false (laidWorld os) #[.int .i64 0, .agg #[.string ⟨#[]⟩, .string ⟨#[]⟩]] 8 rfl (by kernel_rfl) (by kernel_rfl) (by kernel_rfl) (by kernel_rfl) (by kernel_rfl) (laid_met os _))
    laidOut_EncodeRecord (by kernel_rfl) rfl (by kernel_rfl) (by kernel_rfl) (fun ds hds => by
      match ds, hds with
      | [d0, d1], _ => rfl) (by kernel_rfl) (by kernel_rfl) (fun _ => rfl) (fun _ => rfl) fd_lw_FnExactEncodeRecord (fun h hf => ⟨true, law_EncodeRecord h.1 h.2.1.1 h.2.1.2 hf.1 hf.2.1.1 hf.2.1.2, rfl⟩)

theorem EncodeRecord_row : Rows.FnExactEncodeRecordSaid :=
  OpenClaim.holds_of_wide 3 f3 rfl rfl rfl rfl rfl rfl rfl ⟨rfl, rfl, rfl, rfl, rfl⟩ rfl rfl rfl rfl rfl (by kernel_rfl) func3 (by kernel_rfl)
    (of_decide_eq_true (by kernel_rfl)) (by unfold Func.isWrapper; first | (rw [if_pos (by decide +kernel)]; kernel_rfl) | (rw [if_neg (by decide +kernel)]; exact ⟨rfl, rfl⟩))
    (fun os started H enc _ => EncodeRecord_lifted os started H enc)

theorem EncodeRecord_holds : Rows.FnExactEncodeRecordCardSaid :=
  Claim7.holds_tied_plain_at .later [] [.data, .data, .data] true (true, "a6d43cf007ddb0074626939fea9474a7936c520878005be3f69249f663127008") false
    EncodeRecord_row (fun _ h => by cases h) (by kernel_rfl) (fun _ h => by cases h) fnExactEncodeRecord_row_tie rfl ⟨rfl, rfl⟩ (by kernel_rfl) rfl
    (fun f fn hf hfn => by
      obtain rfl : f = 3 := (Option.some.inj ((show prog.funcNamed "loop.example/g01110/laws.FnExactEncodeRecord" = some 3 by kernel_rfl).symm.trans hf)).symm
      obtain rfl : fn = f3 := (Option.some.inj (func3.symm.trans hfn)).symm
      exact card_side (by kernel_rfl) (by kernel_rfl))
    (by kernel_rfl)

#print axioms EncodeRecord_holds
end Go.Proofs.YtakbhfnndcnopaaDoor
