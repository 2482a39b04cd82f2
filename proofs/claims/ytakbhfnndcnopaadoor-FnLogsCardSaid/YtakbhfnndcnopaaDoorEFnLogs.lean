/-
  FnLogs hands back true whatever its arguments are, and leaves them as they were. The condition: three tables of the library hold what their texts say; the card ties them to the text.
-/
import Derived.Test.YtakbhfnndcnopaaDoorRows
import Derived.Test.YtakbhfnndcnopaaDoorCards
import Derived.Test.YtakbhfnndcnopaaDoorB33
import Derived.Test.YtakbhfnndcnopaaDoorC2
import Derived.Test.YtakbhfnndcnopaaDoorQ10
namespace Go.Proofs.YtakbhfnndcnopaaDoor
open Go Go.Proofs.Tryd

theorem own_FnLogs : ownKnob prog.godebug = none := by kernel_rfl
theorem laidOut_FnLogs : laidOutB prog = true := by kernel_rfl

theorem FnLogs_lifted (os : Os) (started : os.Started) (H : Type) (enc : TypeId × Value → H) :
    ReturnsInHanded {} checked os 10 .any (fun w args => (Rows.fnLogsSpec.pre enc prog f10 Rows.fnLogsRow.domain false w args ∧ laidMetH prog seatLaid w) ∧ sizedMet enc prog f10 (OpenSpec.ofChange Rows.fnLogsSpec) false w args) (Rows.fnLogsSpec.post enc prog f10 false true false false) :=
  row_laid (C := checked) (laid := seatLaid) (fun _ h => tabs_of_laid h) (d := D_lw_FnLogs) (ts := [.slice (.int .u8)]) (n := 9) (tb := 4) (cv := fun h => ((h.1, ()), ())) own_FnLogs started (by kernel_rfl) func10
    (ChangeSpec.witness_at (enc := enc) (C := checked) (os := os) (X := fun w _ => laidMetH prog seatLaid w) false (laidWorld os) #[.slice none 0 0] 8 rfl (by kernel_rfl) (by kernel_rfl) (by kernel_rfl) (by kernel_rfl) (by kernel_rfl) (laid_met os _))
    laidOut_FnLogs (by kernel_rfl) rfl (by kernel_rfl) (by kernel_rfl) (fun ds hds => by
      match ds, hds with
      | [d0], _ => rfl) (by kernel_rfl) (by kernel_rfl) (fun _ => rfl) (fun _ => rfl) fd_lw_FnLogs (fun h hf => ⟨true, law_FnLogs h.1 hf.1, rfl⟩)

theorem FnLogs_row : Rows.FnLogsSaid :=
  OpenClaim.holds_of_wide 10 f10 rfl rfl rfl rfl rfl rfl rfl ⟨rfl, rfl, rfl, rfl, rfl⟩ rfl rfl rfl rfl rfl (by kernel_rfl) func10 (by kernel_rfl)
    (of_decide_eq_true (by kernel_rfl)) (by unfold Func.isWrapper; first | (rw [if_pos (by decide +kernel)]; kernel_rfl) | (rw [if_neg (by decide +kernel)]; exact ⟨rfl, rfl⟩))
    (fun os started H enc _ => FnLogs_lifted os started H enc)

theorem FnLogs_holds : Rows.FnLogsCardSaid :=
  Claim7.holds_tied_plain_at .later [] [.data, .data, .data] true (true, "a6d43cf007ddb0074626939fea9474a7936c520878005be3f69249f663127008") false
    FnLogs_row (fun _ h => by cases h) (by kernel_rfl) (fun _ h => by cases h) fnLogs_row_tie rfl ⟨rfl, rfl⟩ (by kernel_rfl) rfl
    (fun f fn hf hfn => by
      obtain rfl : f = 10 := (Option.some.inj ((show prog.funcNamed "loop.example/g01110/laws.FnLogs" = some 10 by kernel_rfl).symm.trans hf)).symm
      obtain rfl : fn = f10 := (Option.some.inj (func10.symm.trans hfn)).symm
      exact card_side (by kernel_rfl) (by kernel_rfl))
    (by kernel_rfl)

#print axioms FnLogs_holds
end Go.Proofs.YtakbhfnndcnopaaDoor
