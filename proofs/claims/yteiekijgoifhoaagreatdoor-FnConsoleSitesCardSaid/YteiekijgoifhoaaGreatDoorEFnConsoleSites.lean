/-
  FnConsoleSites hands back true whatever its arguments are, and leaves them as they were. The condition: tables and errors of the library hold what their texts say; the card ties them to the text.
-/
import Derived.Test.YteiekijgoifhoaaGreatDoorRows
import Derived.Test.YteiekijgoifhoaaGreatDoorCards
import Derived.Test.YteiekijgoifhoaaGreatDoorB55
import Derived.Test.YteiekijgoifhoaaGreatDoorC2
import Derived.Test.YteiekijgoifhoaaGreatDoorQ40
namespace Go.Proofs.YteiekijgoifhoaaGreatDoor
open Go Go.Proofs.Tryz
theorem own_FnConsoleSites : ownKnob prog.godebug = none := by kernel_rfl
theorem laidOut_FnConsoleSites : laidOutB prog = true := by kernel_rfl
theorem FnConsoleSites_lifted (os : Os) (started : os.Started) (H : Type) (enc : TypeId × Value → H) :
    ReturnsInHanded {} checked os 6 .any (fun w args => (Rows.fnConsoleSitesSpec.pre enc prog f6 Rows.fnConsoleSitesRow.domain false w args ∧ laidMetH prog seatLaid w) ∧ sizedMet enc prog f6 (OpenSpec.ofChange Rows.fnConsoleSitesSpec) false w args) (Rows.fnConsoleSitesSpec.post enc prog f6 false true false false) :=
  row_laid (C := checked) (laid := seatLaid) (fun _ h => tabs_of_laid h) (d := waeo) (ts := [.slice (.int .u8)]) (n := 9) (tb := 4) (cv := fun h => ((h.1, ()), ())) own_FnConsoleSites started (by kernel_rfl) func6
    (ChangeSpec.witness_at (enc := enc) (C := checked) (os := os) (X := fun w _ => laidMetH prog seatLaid w) false (laidWorld os) #[.slice none 0 0] 8 rfl (by kernel_rfl) (by kernel_rfl) (by kernel_rfl) (by kernel_rfl) (by kernel_rfl) (laid_met os _))
    laidOut_FnConsoleSites (by kernel_rfl) rfl (by kernel_rfl) (by kernel_rfl) (fun ds hds => by
      match ds, hds with
      | [d0], _ => rfl) (by kernel_rfl) (by kernel_rfl) (fun _ => rfl) (fun _ => rfl) waep (fun h hf => ⟨true, law_FnConsoleSites h.1 hf.1, rfl⟩)
theorem FnConsoleSites_fa : (Rows.fnConsoleSitesRow.inPlace == prog.inPlace 6) = true ∧ (Rows.fnConsoleSitesRow.unfollowed == prog.unfollowed 6) = true := ⟨by kernel_rfl, by kernel_rfl⟩
theorem FnConsoleSites_fb : (Rows.fnConsoleSitesRow.recurses == prog.recurses 6) = true ∧ (Rows.fnConsoleSitesRow.named == prog.varsNamed 6) = true := ⟨by kernel_rfl, by kernel_rfl⟩
theorem FnConsoleSites_fc : prog.mayEnter = true ∧ prog.stopsHeard = true := ⟨by kernel_rfl, by kernel_rfl⟩
theorem FnConsoleSites_fd : mapsRowed prog = true ∧ (Rows.fnConsoleSitesRow.plainKeys == prog.plainKeys) = true := ⟨by kernel_rfl, by kernel_rfl⟩
theorem FnConsoleSites_fe : (Rows.fnConsoleSitesRow.lifted == prog.liftsFinal) = true ∧ (prog.make == some Rows.fnConsoleSitesRow.make) = true := ⟨by kernel_rfl, by kernel_rfl⟩
theorem FnConsoleSites_facts : joinedFacts prog 6 f6 Rows.fnConsoleSitesSpec Rows.fnConsoleSitesRow = true := by
  simp only [joinedFacts, Bool.and_eq_true]
  repeat' apply And.intro
  · kernel_rfl
  · exact laidOut_FnConsoleSites
  · exact FnConsoleSites_fd.1
  iterate 6 kernel_rfl
  · exact FnConsoleSites_fa.1
  · exact FnConsoleSites_fa.2
  · exact FnConsoleSites_fb.1
  · exact FnConsoleSites_fb.2
  iterate 9 kernel_rfl
  · exact FnConsoleSites_fd.2
  · kernel_rfl
  · exact FnConsoleSites_fc.2
  · exact FnConsoleSites_fc.1
  · exact FnConsoleSites_fe.1
  · exact FnConsoleSites_fe.2
  all_goals kernel_rfl
theorem FnConsoleSites_row : Rows.FnConsoleSitesSaid :=
  OpenClaim.holds_of_wide 6 f6 rfl rfl rfl rfl rfl rfl rfl ⟨rfl, rfl, rfl, rfl, rfl⟩ rfl rfl rfl rfl rfl (by kernel_rfl) func6 FnConsoleSites_facts
    (of_decide_eq_true (by kernel_rfl)) (by unfold Func.isWrapper; first | (rw [if_pos (by decide +kernel)]; kernel_rfl) | (rw [if_neg (by decide +kernel)]; exact ⟨rfl, rfl⟩))
    (fun os started H enc _ => FnConsoleSites_lifted os started H enc)
theorem FnConsoleSites_main : prog.mainIs = some (true, "2bfd9c9d9d1c2c7f01c66ab07ac7ca5ad1f4e10efea501ce9007939002e5affb".toList) := by kernel_rfl
theorem FnConsoleSites_looks : true = prog.looks [] := by kernel_rfl
theorem goes_none {P : Program} (h : P.funcs.any Func.goes = false) (c : OpenClaim) : false = c.goesBy P := by
  have hg : ∀ f, P.goes f = false := fun f => by
    unfold Program.goes
    rw [h, Bool.and_false, Bool.or_false, List.any_eq_false]
    intro g _
    cases hx : P.funcs[g]? with
    | none => exact Bool.false_ne_true
    | some fn =>
      rw [Array.any_eq_false] at h
      obtain ⟨hlt, he⟩ := Array.getElem?_eq_some_iff.1 hx
      exact he ▸ h g hlt
  have h2 : P.inits.toList.any P.goes = false := by
    rw [List.any_eq_false]
    exact fun x _ => Bool.eq_false_iff.1 (hg x)
  unfold OpenClaim.goesBy Program.goesAt Program.goesFrom
  rw [h2]
  cases P.funcNamed c.func with
  | none => cases c.start <;> rfl
  | some f =>
    rw [show (some f).any P.goes = false from hg f]
    cases c.start <;> rfl
theorem FnConsoleSites_goes : false = Rows.fnConsoleSitesRow.goesBy prog := goes_none (by kernel_rfl) _
theorem FnConsoleSites_named : prog.funcNamed "loop.example/g01110/laws.FnConsoleSites" = some 6 := by kernel_rfl
theorem FnConsoleSites_holds : Rows.FnConsoleSitesCardSaid :=
  Claim7.holds_tied_plain_at .later [] [.data, .data, .data, .data, .sentinel, .sentinel, .pinned] true (true, "2bfd9c9d9d1c2c7f01c66ab07ac7ca5ad1f4e10efea501ce9007939002e5affb") true
    FnConsoleSites_row (fun _ h => by cases h) (by kernel_rfl) (fun _ h => by cases h) fnConsoleSites_row_tie rfl ⟨rfl, rfl⟩ FnConsoleSites_main rfl
    (fun f fn hf hfn => by
      obtain rfl : f = 6 := (Option.some.inj (FnConsoleSites_named.symm.trans hf)).symm
      obtain rfl : fn = f6 := (Option.some.inj (func6.symm.trans hfn)).symm
      exact card_side FnConsoleSites_looks (by kernel_rfl))
    FnConsoleSites_goes
#print axioms FnConsoleSites_holds
end Go.Proofs.YteiekijgoifhoaaGreatDoor
