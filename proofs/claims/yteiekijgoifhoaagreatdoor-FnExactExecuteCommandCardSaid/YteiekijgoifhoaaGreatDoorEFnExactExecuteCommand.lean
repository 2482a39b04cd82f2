/-
 FnExactExecuteCommand hands back true whatever its arguments are, and leaves them as they were. The condition: tables and errors of the library hold what their texts say; the card ties them to the text.
-/
import Derived.Test.YteiekijgoifhoaaGreatDoorQ45
import Derived.Test.YteiekijgoifhoaaGreatDoorRows
import Derived.Test.YteiekijgoifhoaaGreatDoorCards
namespace Go.Proofs.YteiekijgoifhoaaGreatDoor
set_option linter.all false
open Go Go.Proofs.Tryz
theorem wrz : ownKnob prog.godebug = none := by kernel_rfl
theorem wiq : laidOutB prog = true := by kernel_rfl
theorem wpx (os : Os) (started : os.Started) (H : Type) (enc : TypeId × Value → H) :
    ReturnsInHanded {} checked os 8 .any (fun w args => (Rows.fnExactExecuteCommandSpec.pre enc prog f8 Rows.fnExactExecuteCommandRow.domain false w args ∧ laidMetH prog lM w) ∧ sizedMet enc prog f8 (OpenSpec.ofChange Rows.fnExactExecuteCommandSpec) false w args) (Rows.fnExactExecuteCommandSpec.post enc prog f8 false true false false) :=
  Vb (C := checked) (laid := lM) (fun _ h => F9 h) (d := aBa) (ts := [.pair (.pair (.pair (.slice (.int .i64)) (.slice (.slice (.int .i64)))) (.pair (.slice (.int .i64)) (.int .i64))) (.pair .str (.pair .str (.int .i64))), .str]) (n := 9) (tb := 4) (cv := fun h => (((h.1.1.1.1, (h.1.1.1.2, (h.1.1.2.1, (h.1.1.2.2, (h.1.2.1, (h.1.2.2.1, (h.1.2.2.2, ()))))))), (h.2.1, ())), ())) wrz started (by kernel_rfl) func8
    (ChangeSpec.witness_at (enc := enc) (C := checked) (os := os) (X := fun w _ => laidMetH prog lM w) false (A0 os) #[.agg #[.slice none 0 0, .slice none 0 0, .slice none 0 0, .int .i64 0, .string ⟨#[]⟩, .string ⟨#[]⟩, .int .i64 0], .string ⟨#[]⟩] 8 rfl (by kernel_rfl) (by kernel_rfl) (by kernel_rfl) (by kernel_rfl) (by kernel_rfl) (Sl os _))
    wiq (by kernel_rfl) rfl (by kernel_rfl) (by kernel_rfl) (fun ds hds => by
      match ds, hds with
      | [d0, d1], _ => rfl) (by kernel_rfl) (by kernel_rfl) (fun _ => rfl) (fun _ => rfl) aLA (fun h hf => ⟨true, wry h.1.1.1.1 h.1.1.1.2 h.1.1.2.1 h.1.1.2.2 h.1.2.1 h.1.2.2.1 h.1.2.2.2 h.2.1 hf.1.1.1.1 hf.1.1.1.2 hf.1.1.2.1 hf.1.1.2.2 hf.1.2.1 hf.1.2.2.1 hf.1.2.2.2 hf.2.1, rfl⟩)
theorem wke : (Rows.fnExactExecuteCommandRow.inPlace == prog.inPlace 8) = true ∧ (Rows.fnExactExecuteCommandRow.unfollowed == prog.unfollowed 8) = true := ⟨by kernel_rfl, by kernel_rfl⟩
theorem wkg : (Rows.fnExactExecuteCommandRow.recurses == prog.recurses 8) = true ∧ (Rows.fnExactExecuteCommandRow.named == prog.varsNamed 8) = true := ⟨by kernel_rfl, by kernel_rfl⟩
theorem wli : prog.mayEnter = true ∧ prog.stopsHeard = true := ⟨by kernel_rfl, by kernel_rfl⟩
theorem wlq : mapsRowed prog = true ∧ (Rows.fnExactExecuteCommandRow.plainKeys == prog.plainKeys) = true := ⟨by kernel_rfl, by kernel_rfl⟩
theorem wlr : (Rows.fnExactExecuteCommandRow.lifted == prog.liftsFinal) = true ∧ (prog.make == some Rows.fnExactExecuteCommandRow.make) = true := ⟨by kernel_rfl, by kernel_rfl⟩
theorem wqn : joinedFacts prog 8 f8 Rows.fnExactExecuteCommandSpec Rows.fnExactExecuteCommandRow = true := by
  simp only [joinedFacts, Bool.and_eq_true]
  repeat' apply And.intro
  · kernel_rfl
  · exact wiq
  · exact wlq.1
  iterate 6 kernel_rfl
  · exact wke.1
  · exact wke.2
  · exact wkg.1
  · exact wkg.2
  iterate 9 kernel_rfl
  · exact wlq.2
  · kernel_rfl
  · exact wli.2
  · exact wli.1
  · exact wlr.1
  · exact wlr.2
  all_goals kernel_rfl
theorem wsa : Rows.FnExactExecuteCommandSaid :=
  OpenClaim.holds_of_wide 8 f8 rfl rfl rfl rfl rfl rfl rfl ⟨rfl, rfl, rfl, rfl, rfl⟩ rfl rfl rfl rfl rfl (by kernel_rfl) func8 wqn
    (of_decide_eq_true (by kernel_rfl)) (by unfold Func.isWrapper; first | (rw [if_pos (by decide +kernel)]; kernel_rfl) | (rw [if_neg (by decide +kernel)]; exact ⟨rfl, rfl⟩))
    (fun os started H enc _ => wpx os started H enc)
theorem wrp : prog.mainIs = some (true, "2bfd9c9d9d1c2c7f01c66ab07ac7ca5ad1f4e10efea501ce9007939002e5affb".toList) := by kernel_rfl
theorem wqo : true = prog.looks [] := by kernel_rfl
theorem goes_none {P : Program} (h : P.funcs.any Func.goes = false) (c : OpenClaim) : false = c.goesBy P := by
  have hg : ∀ f, P.goes f = false := fun f => by
    unfold Program.goes
    rw [h, Bool.and_false, Bool.or_false, List.any_eq_false]
    intro g _
    cases hx : P.funcs[g]? with
    | none => exact Bool.false_ne_true
    | some fn =>
      rw [Array.any_eq_false] at h
      obtain ⟨hlt, he⟩ := Array.getElem?_eq_some_iff.1 hx
      exact he ▸ h g hlt
  have h2 : P.inits.toList.any P.goes = false := by
    rw [List.any_eq_false]
    exact fun x _ => Bool.eq_false_iff.1 (hg x)
  unfold OpenClaim.goesBy Program.goesAt Program.goesFrom
  rw [h2]
  cases P.funcNamed c.func with
  | none => cases c.start <;> rfl
  | some f =>
    rw [show (some f).any P.goes = false from hg f]
    cases c.start <;> rfl
theorem wrs : false = Rows.fnExactExecuteCommandRow.goesBy prog := goes_none (by kernel_rfl) _
theorem ExecuteCommand_named : prog.funcNamed "loop.example/g01110/laws.FnExactExecuteCommand" = some 8 := by kernel_rfl
theorem ExecuteCommand_holds : Rows.FnExactExecuteCommandCardSaid :=
  Claim7.holds_tied_plain_at .later [] [.data, .data, .data, .data, .sentinel, .sentinel, .pinned] true (true, "2bfd9c9d9d1c2c7f01c66ab07ac7ca5ad1f4e10efea501ce9007939002e5affb") true
    wsa (fun _ h => by cases h) (by kernel_rfl) (fun _ h => by cases h) fnExactExecuteCommand_row_tie rfl ⟨rfl, rfl⟩ wrp rfl
    (fun f fn hf hfn => by
      obtain rfl : f = 8 := (Option.some.inj (ExecuteCommand_named.symm.trans hf)).symm
      obtain rfl : fn = f8 := (Option.some.inj (func8.symm.trans hfn)).symm
      exact Lt wqo (by kernel_rfl))
    wrs
#print axioms ExecuteCommand_holds
end Go.Proofs.YteiekijgoifhoaaGreatDoor
