/-
 FnExactRunScript hands back true whatever its arguments are, and leaves them as they were. The condition: tables and errors of the library hold what their texts say; the card ties them to the text.
-/
import Derived.Test.YteiekijgoifhoaaGreatDoorQ42
import Derived.Test.YteiekijgoifhoaaGreatDoorRows
import Derived.Test.YteiekijgoifhoaaGreatDoorCards
namespace Go.Proofs.YteiekijgoifhoaaGreatDoor
open Go Go.Proofs.Tryz
theorem own_RunScript : ownKnob prog.godebug = none := by kernel_rfl
theorem laidOut_RunScript : laidOutB prog = true := by kernel_rfl
theorem RunScript_lifted (os : Os) (started : os.Started) (H : Type) (enc : TypeId × Value → H) :
    ReturnsInHanded {} checked os 3 .any (fun w args => (Rows.fnExactRunScriptSpec.pre enc prog f3 Rows.fnExactRunScriptRow.domain false w args ∧ laidMetH prog seatLaid w) ∧ sizedMet enc prog f3 (OpenSpec.ofChange Rows.fnExactRunScriptSpec) false w args) (Rows.fnExactRunScriptSpec.post enc prog f3 false true false false) :=
  row_laid (C := checked) (laid := seatLaid) (fun _ h => tabs_of_laid h) (d := warm) (ts := [.pair (.pair (.pair (.slice (.int .i64)) (.slice (.slice (.int .i64)))) (.pair (.slice (.int .i64)) (.int .i64))) (.pair .str (.pair .str (.int .i64))), .str]) (n := 9) (tb := 4) (cv := fun h => (((h.1.1.1.1, (h.1.1.1.2, (h.1.1.2.1, (h.1.1.2.2, (h.1.2.1, (h.1.2.2.1, (h.1.2.2.2, ()))))))), (h.2.1, ())), ())) own_RunScript started (by kernel_rfl) func3
    (ChangeSpec.witness_at (enc := enc) (C := checked) (os := os) (X := fun w _ => laidMetH prog seatLaid w) false (laidWorld os) #[.agg #[.slice none 0 0, .slice none 0 0, .slice none 0 0, .int .i64 0, .string ⟨#[]⟩, .string ⟨#[]⟩, .int .i64 0], .string ⟨#[]⟩] 8 rfl (by kernel_rfl) (by kernel_rfl) (by kernel_rfl) (by kernel_rfl) (by kernel_rfl) (laid_met os _))
    laidOut_RunScript (by kernel_rfl) rfl (by kernel_rfl) (by kernel_rfl) (fun ds hds => by
      match ds, hds with
      | [d0, d1], _ => rfl) (by kernel_rfl) (by kernel_rfl) (fun _ => rfl) (fun _ => rfl) warn (fun h hf => ⟨true, law_RunScript h.1.1.1.1 h.1.1.1.2 h.1.1.2.1 h.1.1.2.2 h.1.2.1 h.1.2.2.1 h.1.2.2.2 h.2.1 hf.1.1.1.1 hf.1.1.1.2 hf.1.1.2.1 hf.1.1.2.2 hf.1.2.1 hf.1.2.2.1 hf.1.2.2.2 hf.2.1, rfl⟩)
theorem RunScript_fa : (Rows.fnExactRunScriptRow.inPlace == prog.inPlace 3) = true ∧ (Rows.fnExactRunScriptRow.unfollowed == prog.unfollowed 3) = true := ⟨by kernel_rfl, by kernel_rfl⟩
theorem RunScript_fb : (Rows.fnExactRunScriptRow.recurses == prog.recurses 3) = true ∧ (Rows.fnExactRunScriptRow.named == prog.varsNamed 3) = true := ⟨by kernel_rfl, by kernel_rfl⟩
theorem RunScript_fc : prog.mayEnter = true ∧ prog.stopsHeard = true := ⟨by kernel_rfl, by kernel_rfl⟩
theorem RunScript_fd : mapsRowed prog = true ∧ (Rows.fnExactRunScriptRow.plainKeys == prog.plainKeys) = true := ⟨by kernel_rfl, by kernel_rfl⟩
theorem RunScript_fe : (Rows.fnExactRunScriptRow.lifted == prog.liftsFinal) = true ∧ (prog.make == some Rows.fnExactRunScriptRow.make) = true := ⟨by kernel_rfl, by kernel_rfl⟩
theorem RunScript_facts : joinedFacts prog 3 f3 Rows.fnExactRunScriptSpec Rows.fnExactRunScriptRow = true := by
  simp only [joinedFacts, Bool.and_eq_true]
  repeat' apply And.intro
  · kernel_rfl
  · exact laidOut_RunScript
  · exact RunScript_fd.1
  iterate 6 kernel_rfl
  · exact RunScript_fa.1
  · exact RunScript_fa.2
  · exact RunScript_fb.1
  · exact RunScript_fb.2
  iterate 9 kernel_rfl
  · exact RunScript_fd.2
  · kernel_rfl
  · exact RunScript_fc.2
  · exact RunScript_fc.1
  · exact RunScript_fe.1
  · exact RunScript_fe.2
  all_goals kernel_rfl
theorem RunScript_row : Rows.FnExactRunScriptSaid :=
  OpenClaim.holds_of_wide 3 f3 rfl rfl rfl rfl rfl rfl rfl ⟨rfl, rfl, rfl, rfl, rfl⟩ rfl rfl rfl rfl rfl (by kernel_rfl) func3 RunScript_facts
    (of_decide_eq_true (by kernel_rfl)) (by unfold Func.isWrapper; first | (rw [if_pos (by decide +kernel)]; kernel_rfl) | (rw [if_neg (by decide +kernel)]; exact ⟨rfl, rfl⟩))
    (fun os started H enc _ => RunScript_lifted os started H enc)
theorem RunScript_main : prog.mainIs = some (true, "2bfd9c9d9d1c2c7f01c66ab07ac7ca5ad1f4e10efea501ce9007939002e5affb".toList) := by kernel_rfl
theorem RunScript_looks : true = prog.looks [] := by kernel_rfl
theorem goes_none {P : Program} (h : P.funcs.any Func.goes = false) (c : OpenClaim) : false = c.goesBy P := by
  have hg : ∀ f, P.goes f = false := fun f => by
    unfold Program.goes
    rw [h, Bool.and_false, Bool.or_false, List.any_eq_false]
    intro g _
    cases hx : P.funcs[g]? with
    | none => exact Bool.false_ne_true
    | some fn =>
      rw [Array.any_eq_false] at h
      obtain ⟨hlt, he⟩ := Array.getElem?_eq_some_iff.1 hx
      exact he ▸ h g hlt
  have h2 : P.inits.toList.any P.goes = false := by
    rw [List.any_eq_false]
    exact fun x _ => Bool.eq_false_iff.1 (hg x)
  unfold OpenClaim.goesBy Program.goesAt Program.goesFrom
  rw [h2]
  cases P.funcNamed c.func with
  | none => cases c.start <;> rfl
  | some f =>
    rw [show (some f).any P.goes = false from hg f]
    cases c.start <;> rfl
theorem RunScript_goes : false = Rows.fnExactRunScriptRow.goesBy prog := goes_none (by kernel_rfl) _
theorem RunScript_named : prog.funcNamed "loop.example/g01110/laws.FnExactRunScript" = some 3 := by kernel_rfl
theorem RunScript_holds : Rows.FnExactRunScriptCardSaid :=
  Claim7.holds_tied_plain_at .later [] [.data, .data, .data, .data, .sentinel, .sentinel, .pinned] true (true, "2bfd9c9d9d1c2c7f01c66ab07ac7ca5ad1f4e10efea501ce9007939002e5affb") true
    RunScript_row (fun _ h => by cases h) (by kernel_rfl) (fun _ h => by cases h) fnExactRunScript_row_tie rfl ⟨rfl, rfl⟩ RunScript_main rfl
    (fun f fn hf hfn => by
      obtain rfl : f = 3 := (Option.some.inj (RunScript_named.symm.trans hf)).symm
      obtain rfl : fn = f3 := (Option.some.inj (func3.symm.trans hfn)).symm
      exact card_side RunScript_looks (by kernel_rfl))
    RunScript_goes
#print axioms RunScript_holds
end Go.Proofs.YteiekijgoifhoaaGreatDoor
