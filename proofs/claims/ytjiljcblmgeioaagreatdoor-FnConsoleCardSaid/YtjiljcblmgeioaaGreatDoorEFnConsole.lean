/-
 FnConsole hands back true whatever its arguments are, and leaves them as they were. The condition: tables and errors of the library hold what their texts say; the card ties them to the text.
-/
import Derived.Test.YtjiljcblmgeioaaGreatDoorQ44
import Derived.Test.YtjiljcblmgeioaaGreatDoorRows
import Derived.Test.YtjiljcblmgeioaaGreatDoorCards
namespace Go.Proofs.YtjiljcblmgeioaaGreatDoor
set_option linter.all false
open Go Go.Proofs.Tryz
theorem aRm : ownKnob prog.godebug = none := by kernel_rfl
theorem aKq : laidOutB prog = true := by kernel_rfl
theorem aNo (os : Os) (started : os.Started) (H : Type) (enc : TypeId × Value → H) :
    ReturnsInHanded {} checked os 3 .any (fun w args => (Rows.fnConsoleSpec.pre enc prog f3 Rows.fnConsoleRow.domain false w args ∧ laidMetH prog mS w) ∧ sizedMet enc prog f3 (OpenSpec.ofChange Rows.fnConsoleSpec) false w args) (Rows.fnConsoleSpec.post enc prog f3 false true false false) :=
  BD (C := checked) (laid := mS) (fun _ h => R5 h) (d := aGI) (ts := [.slice (.int .u8)]) (n := 9) (tb := 4) (cv := fun h => ((h.1, ()), ())) aRm started (by kernel_rfl) func3
    (ChangeSpec.witness_at (enc := enc) (C := checked) (os := os) (X := fun w _ => laidMetH prog mS w) false (L6 os) #[.slice none 0 0] 8 rfl (by kernel_rfl) (by kernel_rfl) (by kernel_rfl) (by kernel_rfl) (by kernel_rfl) (Wf os _))
    aKq (by kernel_rfl) rfl (by kernel_rfl) (by kernel_rfl) (fun ds hds => by
      match ds, hds with
      | [d0], _ => rfl) (by kernel_rfl) (by kernel_rfl) (fun _ => rfl) (fun _ => rfl) aRO (fun h hf => ⟨true, aNM h.1 hf.1, rfl⟩)
theorem wcxs : (Rows.fnConsoleRow.inPlace == prog.inPlace 3) = true ∧ (Rows.fnConsoleRow.unfollowed == prog.unfollowed 3) = true := ⟨by kernel_rfl, by kernel_rfl⟩
theorem wcxt : (Rows.fnConsoleRow.recurses == prog.recurses 3) = true ∧ (Rows.fnConsoleRow.named == prog.varsNamed 3) = true := ⟨by kernel_rfl, by kernel_rfl⟩
theorem wcxu : prog.mayEnter = true ∧ prog.stopsHeard = true := ⟨by kernel_rfl, by kernel_rfl⟩
theorem wcxv : mapsRowed prog = true ∧ (Rows.fnConsoleRow.plainKeys == prog.plainKeys) = true := ⟨by kernel_rfl, by kernel_rfl⟩
theorem wcxw : (Rows.fnConsoleRow.lifted == prog.liftsFinal) = true ∧ (prog.make == some Rows.fnConsoleRow.make) = true := ⟨by kernel_rfl, by kernel_rfl⟩
theorem aTO : joinedFacts prog 3 f3 Rows.fnConsoleSpec Rows.fnConsoleRow = true := by
  simp only [joinedFacts, Bool.and_eq_true]
  repeat' apply And.intro
  · kernel_rfl
  · exact aKq
  · exact wcxv.1
  iterate 6 kernel_rfl
  · exact wcxs.1
  · exact wcxs.2
  · exact wcxt.1
  · exact wcxt.2
  iterate 9 kernel_rfl
  · exact wcxv.2
  · kernel_rfl
  · exact wcxu.2
  · exact wcxu.1
  · exact wcxw.1
  · exact wcxw.2
  all_goals kernel_rfl
theorem aMW : Rows.FnConsoleSaid :=
  OpenClaim.holds_of_wide 3 f3 rfl rfl rfl rfl rfl rfl rfl ⟨rfl, rfl, rfl, rfl, rfl⟩ rfl rfl rfl rfl rfl (by kernel_rfl) func3 aTO
    (of_decide_eq_true (by kernel_rfl)) (by unfold Func.isWrapper; first | (rw [if_pos (by decide +kernel)]; kernel_rfl) | (rw [if_neg (by decide +kernel)]; exact ⟨rfl, rfl⟩))
    (fun os started H enc _ => aNo os started H enc)
theorem aTs : prog.mainIs = some (true, "3f50b19416b436a8eb6ebbf88fc377d7e78321a9e80cdcb40664f8b802c27565".toList) := by kernel_rfl
theorem aNK : true = prog.looks [] := by kernel_rfl
theorem goes_none {P : Program} (h : P.funcs.any Func.goes = false) (c : OpenClaim) : false = c.goesBy P := by
  have hg : ∀ f, P.goes f = false := fun f => by
    unfold Program.goes
    rw [h, Bool.and_false, Bool.or_false, List.any_eq_false]
    intro g _
    cases hx : P.funcs[g]? with
    | none => exact Bool.false_ne_true
    | some fn =>
      rw [Array.any_eq_false] at h
      obtain ⟨hlt, he⟩ := Array.getElem?_eq_some_iff.1 hx
      exact he ▸ h g hlt
  have h2 : P.inits.toList.any P.goes = false := by
    rw [List.any_eq_false]
    exact fun x _ => Bool.eq_false_iff.1 (hg x)
  unfold OpenClaim.goesBy Program.goesAt Program.goesFrom
  rw [h2]
  cases P.funcNamed c.func with
  | none => cases c.start <;> rfl
  | some f =>
    rw [show (some f).any P.goes = false from hg f]
    cases c.start <;> rfl
theorem aTN : false = Rows.fnConsoleRow.goesBy prog := goes_none (by kernel_rfl) _
theorem FnConsole_named : prog.funcNamed "loop.example/g01110/laws.FnConsole" = some 3 := by kernel_rfl
theorem FnConsole_holds : Rows.FnConsoleCardSaid :=
  Claim7.holds_tied_plain_at .later [] [.data, .data, .data, .data, .sentinel, .sentinel, .pinned] true (true, "3f50b19416b436a8eb6ebbf88fc377d7e78321a9e80cdcb40664f8b802c27565") true
    aMW (fun _ h => by cases h) (by kernel_rfl) (fun _ h => by cases h) fnConsole_row_tie rfl ⟨rfl, rfl⟩ aTs rfl
    (fun f fn hf hfn => by
      obtain rfl : f = 3 := (Option.some.inj (FnConsole_named.symm.trans hf)).symm
      obtain rfl : fn = f3 := (Option.some.inj (func3.symm.trans hfn)).symm
      exact Pa aNK (by kernel_rfl))
    aTN
#print axioms FnConsole_holds
end Go.Proofs.YtjiljcblmgeioaaGreatDoor
