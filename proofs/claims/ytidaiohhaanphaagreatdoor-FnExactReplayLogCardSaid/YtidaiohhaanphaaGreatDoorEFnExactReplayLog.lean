/-
 FnExactReplayLog hands back true whatever its arguments are, and leaves them as they were. The condition: tables and errors of the library hold what their texts say; the card ties them to the text.
-/
import Derived.Test.YtidaiohhaanphaaGreatDoorQ41
import Derived.Test.YtidaiohhaanphaaGreatDoorRows
import Derived.Test.YtidaiohhaanphaaGreatDoorCards
namespace Go.Proofs.YtidaiohhaanphaaGreatDoor
open Go Go.Proofs.Tryz
theorem own_ReplayLog : ownKnob prog.godebug = none := by kernel_rfl
theorem laidOut_ReplayLog : laidOutB prog = true := by kernel_rfl
theorem ReplayLog_lifted (os : Os) (started : os.Started) (H : Type) (enc : TypeId × Value → H) :
    ReturnsInHanded {} checked os 3 .any (fun w args => (Rows.fnExactReplayLogSpec.pre enc prog f3 Rows.fnExactReplayLogRow.domain false w args ∧ laidMetH prog seatLaid w) ∧ sizedMet enc prog f3 (OpenSpec.ofChange Rows.fnExactReplayLogSpec) false w args) (Rows.fnExactReplayLogSpec.post enc prog f3 false true false false) :=
  row_laid (C := checked) (laid := seatLaid) (fun _ h => tabs_of_laid h) (d := wcjf) (ts := [.pair (.pair (.slice (.int .i64)) (.slice (.slice (.int .i64)))) (.pair (.slice (.int .i64)) (.int .i64)), .pair .str (.pair .str (.int .i64))]) (n := 9) (tb := 4) (cv := fun h => (((h.1.1.1, (h.1.1.2, (h.1.2.1, (h.1.2.2, ())))), ((h.2.1.1, (h.2.1.2.1, (h.2.1.2.2, ()))), ())), ())) own_ReplayLog started (by kernel_rfl) func3
    (ChangeSpec.witness_at (enc := enc) (C := checked) (os := os) (X := fun w _ => laidMetH prog seatLaid w) false (laidWorld os) #[.agg #[.slice none 0 0, .slice none 0 0, .slice none 0 0, .int .i64 0], .agg #[.string ⟨#[]⟩, .string ⟨#[]⟩, .int .i64 0]] 8 rfl (by kernel_rfl) (by kernel_rfl) (by kernel_rfl) (by kernel_rfl) (by kernel_rfl) (laid_met os _))
    laidOut_ReplayLog (by kernel_rfl) rfl (by kernel_rfl) (by kernel_rfl) (fun ds hds => by
      match ds, hds with
      | [d0, d1], _ => rfl) (by kernel_rfl) (by kernel_rfl) (fun _ => rfl) (fun _ => rfl) wcjg (fun h hf => ⟨true, law_ReplayLog h.1.1.1 h.1.1.2 h.1.2.1 h.1.2.2 h.2.1.1 h.2.1.2.1 h.2.1.2.2 hf.1.1.1 hf.1.1.2 hf.1.2.1 hf.1.2.2 hf.2.1.1 hf.2.1.2.1 hf.2.1.2.2, rfl⟩)
theorem ReplayLog_fa : (Rows.fnExactReplayLogRow.inPlace == prog.inPlace 3) = true ∧ (Rows.fnExactReplayLogRow.unfollowed == prog.unfollowed 3) = true := ⟨by kernel_rfl, by kernel_rfl⟩
theorem ReplayLog_fb : (Rows.fnExactReplayLogRow.recurses == prog.recurses 3) = true ∧ (Rows.fnExactReplayLogRow.named == prog.varsNamed 3) = true := ⟨by kernel_rfl, by kernel_rfl⟩
theorem ReplayLog_fc : prog.mayEnter = true ∧ prog.stopsHeard = true := ⟨by kernel_rfl, by kernel_rfl⟩
theorem ReplayLog_fd : mapsRowed prog = true ∧ (Rows.fnExactReplayLogRow.plainKeys == prog.plainKeys) = true := ⟨by kernel_rfl, by kernel_rfl⟩
theorem ReplayLog_fe : (Rows.fnExactReplayLogRow.lifted == prog.liftsFinal) = true ∧ (prog.make == some Rows.fnExactReplayLogRow.make) = true := ⟨by kernel_rfl, by kernel_rfl⟩
theorem ReplayLog_facts : joinedFacts prog 3 f3 Rows.fnExactReplayLogSpec Rows.fnExactReplayLogRow = true := by
  simp only [joinedFacts, Bool.and_eq_true]
  repeat' apply And.intro
  · kernel_rfl
  · exact laidOut_ReplayLog
  · exact ReplayLog_fd.1
  iterate 6 kernel_rfl
  · exact ReplayLog_fa.1
  · exact ReplayLog_fa.2
  · exact ReplayLog_fb.1
  · exact ReplayLog_fb.2
  iterate 9 kernel_rfl
  · exact ReplayLog_fd.2
  · kernel_rfl
  · exact ReplayLog_fc.2
  · exact ReplayLog_fc.1
  · exact ReplayLog_fe.1
  · exact ReplayLog_fe.2
  all_goals kernel_rfl
theorem ReplayLog_row : Rows.FnExactReplayLogSaid :=
  OpenClaim.holds_of_wide 3 f3 rfl rfl rfl rfl rfl rfl rfl ⟨rfl, rfl, rfl, rfl, rfl⟩ rfl rfl rfl rfl rfl (by kernel_rfl) func3 ReplayLog_facts
    (of_decide_eq_true (by kernel_rfl)) (by unfold Func.isWrapper; first | (rw [if_pos (by decide +kernel)]; kernel_rfl) | (rw [if_neg (by decide +kernel)]; exact ⟨rfl, rfl⟩))
    (fun os started H enc _ => ReplayLog_lifted os started H enc)
theorem ReplayLog_main : prog.mainIs = some (true, "a382603cc9e17a78872f365efa449a1f0c0efbae26165511827ef16e27cb8d6a".toList) := by kernel_rfl
theorem ReplayLog_looks : true = prog.looks [] := by kernel_rfl
theorem goes_none {P : Program} (h : P.funcs.any Func.goes = false) (c : OpenClaim) : false = c.goesBy P := by
  have hg : ∀ f, P.goes f = false := fun f => by
    unfold Program.goes
    rw [h, Bool.and_false, Bool.or_false, List.any_eq_false]
    intro g _
    cases hx : P.funcs[g]? with
    | none => exact Bool.false_ne_true
    | some fn =>
      rw [Array.any_eq_false] at h
      obtain ⟨hlt, he⟩ := Array.getElem?_eq_some_iff.1 hx
      exact he ▸ h g hlt
  have h2 : P.inits.toList.any P.goes = false := by
    rw [List.any_eq_false]
    exact fun x _ => Bool.eq_false_iff.1 (hg x)
  unfold OpenClaim.goesBy Program.goesAt Program.goesFrom
  rw [h2]
  cases P.funcNamed c.func with
  | none => cases c.start <;> rfl
  | some f =>
    rw [show (some f).any P.goes = false from hg f]
    cases c.start <;> rfl
theorem ReplayLog_goes : false = Rows.fnExactReplayLogRow.goesBy prog := goes_none (by kernel_rfl) _
theorem ReplayLog_named : prog.funcNamed "loop.example/g01110/laws.FnExactReplayLog" = some 3 := by kernel_rfl
theorem ReplayLog_holds : Rows.FnExactReplayLogCardSaid :=
  Claim7.holds_tied_plain_at .later [] [.data, .data, .data, .data, .sentinel, .sentinel, .pinned] true (true, "a382603cc9e17a78872f365efa449a1f0c0efbae26165511827ef16e27cb8d6a") true
    ReplayLog_row (fun _ h => by cases h) (by kernel_rfl) (fun _ h => by cases h) fnExactReplayLog_row_tie rfl ⟨rfl, rfl⟩ ReplayLog_main rfl
    (fun f fn hf hfn => by
      obtain rfl : f = 3 := (Option.some.inj (ReplayLog_named.symm.trans hf)).symm
      obtain rfl : fn = f3 := (Option.some.inj (func3.symm.trans hfn)).symm
      exact card_side ReplayLog_looks (by kernel_rfl))
    ReplayLog_goes
#print axioms ReplayLog_holds
end Go.Proofs.YtidaiohhaanphaaGreatDoor
