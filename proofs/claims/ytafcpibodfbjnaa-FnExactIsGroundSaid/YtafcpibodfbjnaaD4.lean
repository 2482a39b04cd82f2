/-
  Plain laws: FnExactIsGround.
-/
import Derived.Test.YtafcpibodfbjnaaD3
namespace Go.Proofs.Ytafcpibodfbjnaa

theorem findSome_any {R : Type} {q : Nat → Bool} {r : Nat → R} : ∀ (l : List Nat), (l.findSome? fun i => match q i with | true => some (r i) | false => none) = none ↔ l.any q = false
  | [] => by simp
  | i :: l => by
    rw [List.findSome?_cons, List.any_cons]
    cases hq : q i with
    | true => simp
    | false => simp only [Bool.false_or]; exact findSome_any l

theorem indexFunc_eq {l : List Int} (hl : Low1 l) {p : HL [.int .i64] → Option Bool} {q : Int → Bool} (hp : ∀ n ∈ l, p (n, ()) = some (q n)) :
    ∃ r, F_slices_IndexFunc_Sint_int l p = some r ∧ (0 ≤ r ↔ (List.range l.length).any (fun i => q (l.getD i 0)) = true) := by
  unfold Low1 at hl
  unfold F_slices_IndexFunc_Sint_int T_slices_IndexFunc_Sint_int
  have hs : L_slices_IndexFunc_Sint_int_0 (l, (p, ((l.length : Nat) : Int))) 0 = _ := iter_scan (f := fun v => (S_slices_IndexFunc_Sint_int_0 (l, (p, ((l.length : Nat) : Int))) v).ev) (n := l.length)
      (stop := fun i => match q (l.getD i 0) with | true => some (.inr (i : Int)) | false => none) (fin := .inl ()) (by omega) (fun i hi _ => by
    unfold S_slices_IndexFunc_Sint_int_0
    simp only [Tr.ev_t, Tr.ev_l, Tr.ev_g, Tr.ev_c, Bool.cond_decide, toNat_nat]
    rw [if_pos (by omega), inR_nat hi, hp _ (getD_mem hi)]
    simp only [cond_true, Option.bind_some]
    cases q (l.getD i 0) <;> rfl) (by
    unfold S_slices_IndexFunc_Sint_int_0
    simp)
  simp only [Tr.ev_c, Tr.ev_l]
  rw [hs]
  simp only [Option.bind_some]
  have hany := findSome_any (q := fun i => q (l.getD i 0)) (r := fun i => (.inr (i : Int) : Unit ⊕ Int)) (List.range l.length)
  cases hf : (List.range l.length).findSome? (fun i => match q (l.getD i 0) with | true => some (.inr (i : Int) : Unit ⊕ Int) | false => none) with
  | none =>
    refine ⟨-1, rfl, ?_⟩
    rw [hany.1 hf]
    simp
  | some r =>
    obtain ⟨i, _, hi⟩ := List.exists_of_findSome?_eq_some hf
    have : ¬ (List.range l.length).any (fun i => q (l.getD i 0)) = false := fun h => by rw [hany.2 h] at hf; cases hf
    cases hq : q (l.getD i 0) with
    | false => rw [hq] at hi; cases hi
    | true =>
      rw [hq] at hi
      cases hi
      refine ⟨(i : Int), rfl, ?_⟩
      simp only [Bool.not_eq_false] at this
      simp only [this, iff_true]
      omega

theorem containsFunc_eq {l : List Int} (hl : Low1 l) {p : HL [.int .i64] → Option Bool} {q : Int → Bool} (hp : ∀ n ∈ l, p (n, ()) = some (q n)) :
    F_slices_ContainsFunc_Sint_int l p = some ((List.range l.length).any fun i => q (l.getD i 0)) := by
  unfold F_slices_ContainsFunc_Sint_int T_slices_ContainsFunc_Sint_int
  obtain ⟨r, h1, h2⟩ := indexFunc_eq hl hp
  simp only [Tr.ev_c, Tr.ev_l, h1, Option.bind_some]
  congr 1
  rw [Bool.eq_iff_iff, ← h2]
  simp

theorem areBetween_eq {l : List Int} (hl : Low1 l) (a b : Int) : F_im_areBetween l a b = some ((List.range l.length).all fun i => decide (a ≤ l.getD i 0) && decide (l.getD i 0 ≤ b)) := by
  unfold F_im_areBetween T_im_areBetween
  rw [Tr.ev_c, containsFunc_eq hl (q := fun n => !(decide (a ≤ n) && decide (n ≤ b))) fun n _ => by
    unfold F_im_areBetween_1 T_im_areBetween_1
    simp only [Tr.ev_c, Tr.ev_l, between_eq, Option.bind_some]]
  simp only [Option.bind_some, Tr.ev_l]
  rw [List.any_eq_not_all_not]
  simp

theorem im_loop4 {x : List (List Int)} {i : Nat} (hx : Low2 x) (hi : i < x.length) (hrow : ∀ j, j < x.length → rowOK x x.length j = true) :
    L_im_IsGround_4 (x, ((i : Int), (x, (((x.length : Nat) : Int), ((i : Int), ((x.getD i []), (((x.getD i []).length : Nat) : Int))))))) 0 =
      some (match (List.range (x.getD i []).length).all fun j => (at2 x i j == at2 x j i) && (!(i == j) || at2 x i j == 0) with | true => .inl () | false => .inr ()) := by
  have hl := hx.2 _ (getD_mem (d := []) hi)
  unfold Low1 at hl
  have h1 := rowOK_len (hrow i hi)
  refine iter_all (f := fun v => (S_im_IsGround_4 (x, ((i : Int), (x, (((x.length : Nat) : Int), ((i : Int), ((x.getD i []), (((x.getD i []).length : Nat) : Int))))))) v).ev) (by omega) (fun j hj _ => ?_) ?_
  · unfold S_im_IsGround_4
    have h2 := rowOK_len (hrow j (by omega))
    simp only [Tr.ev_t, Tr.ev_l, Tr.ev_g, Bool.cond_decide, toNat_nat, h2]
    rw [if_pos (by omega), inR_nat hj, inR_nat (show j < x.length by omega), inR_nat hi]
    simp only [cond_true, bne]
    have e1 : (x.getD i []).getD j 0 = at2 x i j := rfl
    have e2 : (x.getD j []).getD i 0 = at2 x j i := rfl
    rw [e1, e2]
    have e3 : ((i : Int) == (j : Int)) = (i == j) := by
      rw [Bool.eq_iff_iff, beq_iff_eq, beq_iff_eq]
      omega
    rw [e3]
    cases (at2 x i j == at2 x j i) with
    | false => rfl
    | true =>
      simp only [Bool.not_true, cond_false, Bool.true_and]
      cases (i == j) with
      | false => rfl
      | true =>
        simp only [cond_true, Bool.not_true, Bool.false_or]
        cases (at2 x i j == 0) <;> rfl
  · unfold S_im_IsGround_4
    simp

theorem imG {x : List (List Int)} (hx : Low2 x) : ∃ b, F_im_IsGround x = some b ∧ (b = true ↔ isG x ∧ (x.length : Int) ≤ 7) := by
  unfold F_im_IsGround T_im_IsGround
  have hl := hx.1
  simp only [Tr.ev_t, Tr.ev_l, Bool.cond_decide]
  by_cases h7 : (7 : Int) < (x.length : Int)
  · rw [if_pos h7]
    exact ⟨false, rfl, by simp; intro _; omega⟩
  · rw [if_neg h7]
    have hs : L_im_IsGround_0 (x, (x, ((x.length : Nat) : Int))) 0 = _ := iter_all (f := fun v => (S_im_IsGround_0 (x, (x, ((x.length : Nat) : Int))) v).ev) (n := x.length) (p := fun i => rowOK x x.length i) (by omega) (fun i hi _ => by
      unfold S_im_IsGround_0
      simp only [Tr.ev_t, Tr.ev_l, Tr.ev_g, Tr.ev_c, Bool.cond_decide, toNat_nat]
      rw [if_pos (by omega), inR_nat hi, areBetween_eq (hx.2 _ (getD_mem hi))]
      simp only [cond_true, Option.bind_some, bne]
      unfold rowOK allIn
      cases (((x.getD i []).length : Int) == ((x.length : Nat) : Int)) with
      | false => simp
      | true =>
        simp only [Bool.not_true, cond_false, Bool.and_true]
        cases (List.range (x.getD i []).length).all fun k => decide (0 ≤ (x.getD i []).getD k 0) && decide ((x.getD i []).getD k 0 ≤ 99) <;> rfl) (by
      unfold S_im_IsGround_0
      simp)
    simp only [Tr.ev_c]
    rw [hs]
    simp only [Option.bind_some]
    cases hr : (List.range x.length).all fun i => rowOK x x.length i with
    | false =>
      refine ⟨false, rfl, ?_⟩
      simp only [Bool.false_eq_true, false_iff, not_and]
      intro hg
      rw [Bool.eq_false_iff] at hr
      exact absurd (List.all_eq_true.2 fun i hi => hg.1 i (List.mem_range.1 hi)) hr
    | true =>
      have hrow : ∀ j, j < x.length → rowOK x x.length j = true := fun j hj => List.all_eq_true.1 hr j (List.mem_range.2 hj)
      have hs2 : L_im_IsGround_2 (x, (x, ((x.length : Nat) : Int))) 0 = _ := iter_all (f := fun v => (S_im_IsGround_2 (x, (x, ((x.length : Nat) : Int))) v).ev) (n := x.length)
          (p := fun i => (List.range (x.getD i []).length).all fun j => (at2 x i j == at2 x j i) && (!(i == j) || at2 x i j == 0)) (by omega) (fun i hi _ => by
        unfold S_im_IsGround_2
        simp only [Tr.ev_t, Tr.ev_l, Tr.ev_g, Tr.ev_c, Bool.cond_decide, toNat_nat]
        rw [if_pos (by omega), inR_nat hi, im_loop4 hx hi hrow]
        simp only [cond_true, Option.bind_some]
        cases (List.range (x.getD i []).length).all fun j => (at2 x i j == at2 x j i) && (!(i == j) || at2 x i j == 0) <;> rfl) (by
        unfold S_im_IsGround_2
        simp)
      simp only [Tr.ev]
      rw [hs2]
      simp only [Option.bind_some]
      refine ⟨(List.range x.length).all fun i => (List.range (x.getD i []).length).all fun j => (at2 x i j == at2 x j i) && (!(i == j) || at2 x i j == 0), ?_, ?_⟩
      · cases (List.range x.length).all fun i => (List.range (x.getD i []).length).all fun j => (at2 x i j == at2 x j i) && (!(i == j) || at2 x i j == 0) <;> rfl
      · simp only [List.all_eq_true, List.mem_range, Bool.and_eq_true, Bool.or_eq_true, Bool.not_eq_true', beq_iff_eq, beq_eq_false_iff_ne]
        constructor
        · intro h
          refine ⟨⟨hrow, fun i hi => ?_, fun i j hi hj => ?_⟩, by omega⟩
          · have := (h i hi i (by rw [rowOK_len (hrow i hi)]; exact hi)).2
            exact this.resolve_left fun h => h rfl
          · exact (h i hi j (by rw [rowOK_len (hrow i hi)]; exact hj)).1
        · rintro ⟨⟨h1, h2, h3⟩, _⟩ i hi j hj
          rw [rowOK_len (hrow i hi)] at hj
          refine ⟨h3 i j hi hj, ?_⟩
          by_cases e : i = j
          · subst e; exact .inr (h2 i hi)
          · exact .inl e

theorem law_IsGround {x : List (List Int)} (hx : Fit2 x) : F_lw_FnExactIsGround x = some true := by
  unfold F_lw_FnExactIsGround T_lw_FnExactIsGround
  obtain ⟨r, h1, h2⟩ := szIntSS_eq hx
  simp only [Tr.ev_c, Tr.ev_t, Tr.ev_l, h1, Option.bind_some, Bool.cond_decide]
  split
  · rfl
  · rename_i hr
    obtain ⟨hl, _⟩ := h2 (by omega)
    obtain ⟨b, hb, hiff⟩ := imG hl
    have hsp : F_sp_IsGround x = some b := by
      unfold F_sp_IsGround T_sp_IsGround
      rw [Tr.ev_c, spG hl]
      simp only [Option.bind_some, Tr.ev_l]
      congr 1
      rw [Bool.eq_iff_iff, Bool.and_eq_true, spG_iff, hiff]
      simp
    rw [toIntSS_eq hl]
    simp only [Option.bind_some]
    rw [hsp]
    simp only [Option.bind_some]
    rw [hb]
    simp only [Option.bind_some]
    rw [eqIntSS_eq hl]
    simp
end Go.Proofs.Ytafcpibodfbjnaa
