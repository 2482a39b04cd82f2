/-
 FnReplay hands back true whatever its arguments are, and leaves them as they were. The condition: tables and errors of the library hold what their texts say; the card ties them to the text.
-/
import Derived.Test.YtjiljcblmgeioaaGreatDoorQ43
import Derived.Test.YtjiljcblmgeioaaGreatDoorRows
import Derived.Test.YtjiljcblmgeioaaGreatDoorCards
namespace Go.Proofs.YtjiljcblmgeioaaGreatDoor
set_option linter.all false
open Go Go.Proofs.Tryz
theorem R3 : ownKnob prog.godebug = none := by kernel_rfl
theorem mZ : laidOutB prog = true := by kernel_rfl
theorem yQ (os : Os) (started : os.Started) (H : Type) (enc : TypeId × Value → H) :
    ReturnsInHanded {} checked os 4 .any (fun w args => (Rows.fnReplaySpec.pre enc prog f4 Rows.fnReplayRow.domain false w args ∧ laidMetH prog mS w) ∧ sizedMet enc prog f4 (OpenSpec.ofChange Rows.fnReplaySpec) false w args) (Rows.fnReplaySpec.post enc prog f4 false true false false) :=
  Xd (C := checked) (laid := mS) (fun _ h => T4 h) (d := aKJ) (ts := [.slice (.int .u8)]) (n := 9) (tb := 4) (cv := fun h => ((h.1, ()), ())) R3 started (by kernel_rfl) func4
    (ChangeSpec.witness_at (enc := enc) (C := checked) (os := os) (X := fun w _ => laidMetH prog mS w) false (J2 os) #[.slice none 0 0] 8 rfl (by kernel_rfl) (by kernel_rfl) (by kernel_rfl) (by kernel_rfl) (by kernel_rfl) (IF os _))
    mZ (by kernel_rfl) rfl (by kernel_rfl) (by kernel_rfl) (fun ds hds => by
      match ds, hds with
      | [d0], _ => rfl) (by kernel_rfl) (by kernel_rfl) (fun _ => rfl) (fun _ => rfl) aNB (fun h hf => ⟨true, T7 h.1 hf.1, rfl⟩)
theorem FnReplay_fa : (Rows.fnReplayRow.inPlace == prog.inPlace 4) = true ∧ (Rows.fnReplayRow.unfollowed == prog.unfollowed 4) = true := ⟨by kernel_rfl, by kernel_rfl⟩
theorem FnReplay_fb : (Rows.fnReplayRow.recurses == prog.recurses 4) = true ∧ (Rows.fnReplayRow.named == prog.varsNamed 4) = true := ⟨by kernel_rfl, by kernel_rfl⟩
theorem FnReplay_fc : prog.mayEnter = true ∧ prog.stopsHeard = true := ⟨by kernel_rfl, by kernel_rfl⟩
theorem FnReplay_fd : mapsRowed prog = true ∧ (Rows.fnReplayRow.plainKeys == prog.plainKeys) = true := ⟨by kernel_rfl, by kernel_rfl⟩
theorem FnReplay_fe : (Rows.fnReplayRow.lifted == prog.liftsFinal) = true ∧ (prog.make == some Rows.fnReplayRow.make) = true := ⟨by kernel_rfl, by kernel_rfl⟩
theorem x6 : joinedFacts prog 4 f4 Rows.fnReplaySpec Rows.fnReplayRow = true := by
  simp only [joinedFacts, Bool.and_eq_true]
  repeat' apply And.intro
  · kernel_rfl
  · exact mZ
  · exact FnReplay_fd.1
  iterate 6 kernel_rfl
  · exact FnReplay_fa.1
  · exact FnReplay_fa.2
  · exact FnReplay_fb.1
  · exact FnReplay_fb.2
  iterate 9 kernel_rfl
  · exact FnReplay_fd.2
  · kernel_rfl
  · exact FnReplay_fc.2
  · exact FnReplay_fc.1
  · exact FnReplay_fe.1
  · exact FnReplay_fe.2
  all_goals kernel_rfl
theorem U9 : Rows.FnReplaySaid :=
  OpenClaim.holds_of_wide 4 f4 rfl rfl rfl rfl rfl rfl rfl ⟨rfl, rfl, rfl, rfl, rfl⟩ rfl rfl rfl rfl rfl (by kernel_rfl) func4 x6
    (of_decide_eq_true (by kernel_rfl)) (by unfold Func.isWrapper; first | (rw [if_pos (by decide +kernel)]; kernel_rfl) | (rw [if_neg (by decide +kernel)]; exact ⟨rfl, rfl⟩))
    (fun os started H enc _ => yQ os started H enc)
theorem E1 : prog.mainIs = some (true, "3f50b19416b436a8eb6ebbf88fc377d7e78321a9e80cdcb40664f8b802c27565".toList) := by kernel_rfl
theorem f9 : true = prog.looks [] := by kernel_rfl
theorem goes_none {P : Program} (h : P.funcs.any Func.goes = false) (c : OpenClaim) : false = c.goesBy P := by
  have hg : ∀ f, P.goes f = false := fun f => by
    unfold Program.goes
    rw [h, Bool.and_false, Bool.or_false, List.any_eq_false]
    intro g _
    cases hx : P.funcs[g]? with
    | none => exact Bool.false_ne_true
    | some fn =>
      rw [Array.any_eq_false] at h
      obtain ⟨hlt, he⟩ := Array.getElem?_eq_some_iff.1 hx
      exact he ▸ h g hlt
  have h2 : P.inits.toList.any P.goes = false := by
    rw [List.any_eq_false]
    exact fun x _ => Bool.eq_false_iff.1 (hg x)
  unfold OpenClaim.goesBy Program.goesAt Program.goesFrom
  rw [h2]
  cases P.funcNamed c.func with
  | none => cases c.start <;> rfl
  | some f =>
    rw [show (some f).any P.goes = false from hg f]
    cases c.start <;> rfl
theorem D8 : false = Rows.fnReplayRow.goesBy prog := goes_none (by kernel_rfl) _
theorem FnReplay_named : prog.funcNamed "loop.example/g01110/laws.FnReplay" = some 4 := by kernel_rfl
theorem FnReplay_holds : Rows.FnReplayCardSaid :=
  Claim7.holds_tied_plain_at .later [] [.data, .data, .data, .data, .sentinel, .sentinel, .pinned] true (true, "3f50b19416b436a8eb6ebbf88fc377d7e78321a9e80cdcb40664f8b802c27565") true
    U9 (fun _ h => by cases h) (by kernel_rfl) (fun _ h => by cases h) fnReplay_row_tie rfl ⟨rfl, rfl⟩ E1 rfl
    (fun f fn hf hfn => by
      obtain rfl : f = 4 := (Option.some.inj (FnReplay_named.symm.trans hf)).symm
      obtain rfl : fn = f4 := (Option.some.inj (func4.symm.trans hfn)).symm
      exact Rp f9 (by kernel_rfl))
    D8
#print axioms FnReplay_holds
end Go.Proofs.YtjiljcblmgeioaaGreatDoor
