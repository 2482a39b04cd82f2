/-
  Plain laws: grounds, metric grounds.
-/
import Derived.Test.YthkafleokepjeaaP2
namespace Go.Proofs.Ythkafleokepjeaa

def at2 (x : List (List Int)) (i j : Nat) : Int := (x.getD i []).getD j 0
def rowOK (x : List (List Int)) (n i : Nat) : Bool := allIn (x.getD i []) 0 99 && (((x.getD i []).length : Int) == (n : Int))
/-- What both ask of a ground. -/
structure Ground (x : List (List Int)) : Prop where
  row : ∀ i, i < x.length → rowOK x x.length i = true
  diag : ∀ i, i < x.length → at2 x i i = 0
  sym : ∀ i j, i < x.length → j < x.length → at2 x i j = at2 x j i
  len : x.length ≤ 7
def groundB (x : List (List Int)) : Bool := ((List.range x.length).all fun i => rowOK x x.length i && at2 x i i == 0 && (List.range i).all fun j => at2 x i j == at2 x j i) && decide ((x.length : Int) ≤ 7)

theorem rowOK_len {x : List (List Int)} {n i : Nat} (h : rowOK x n i = true) : (x.getD i []).length = n := by
  simp only [rowOK, Bool.and_eq_true, beq_iff_eq] at h
  omega
theorem rowOK_in {x : List (List Int)} {n i j : Nat} (h : rowOK x n i = true) (hj : j < n) : 0 ≤ at2 x i j ∧ at2 x i j ≤ 99 := by
  have hl := rowOK_len h
  simp only [rowOK, Bool.and_eq_true] at h
  exact allIn_getD h.1 (by omega)
theorem Ground.in {x : List (List Int)} (h : Ground x) {i j : Nat} (hi : i < x.length) (hj : j < x.length) : 0 ≤ at2 x i j ∧ at2 x i j ≤ 99 := rowOK_in (h.row i hi) hj
theorem Ground.rowLen {x : List (List Int)} (h : Ground x) {i : Nat} (hi : i < x.length) : (x.getD i []).length = x.length := rowOK_len (h.row i hi)

theorem groundB_iff (x : List (List Int)) : groundB x = true ↔ Ground x := by
  unfold groundB
  simp only [List.all_eq_true, List.mem_range, Bool.and_eq_true, beq_iff_eq, decide_eq_true_eq]
  constructor
  · rintro ⟨h, h7⟩
    refine ⟨fun i hi => (h i hi).1.1, fun i hi => (h i hi).1.2, fun i j hi hj => ?_, by omega⟩
    rcases Nat.lt_trichotomy i j with h1 | h1 | h1
    · exact ((h j hj).2 i h1).symm
    · rw [h1]
    · exact (h i hi).2 j h1
  · rintro ⟨h1, h2, h3, h4⟩
    exact ⟨fun i hi => ⟨⟨h1 i hi, h2 i hi⟩, fun j hj => h3 i j hi (by omega)⟩, by omega⟩

theorem l11Ground_eq {x : List (List Int)} (hx : Low2 x) : F_sp_l11Ground x = some (groundB x) := by
  obtain ⟨hl, hr⟩ := hx
  have h2 : ∀ i, i < x.length → (∀ j, j ≤ i → rowOK x x.length j = true) → L_sp_l11Ground_2 (x, ((x.length : Int), (i : Int))) 0 = some (bif (List.range i).all fun j => at2 x i j == at2 x j i then .inl () else .inr ()) := fun i hi hrow =>
    iter_allR (f := fun v => (S_sp_l11Ground_2 (x, ((x.length : Int), (i : Int))) v).ev) (n := i) (mk := fun i => (i : Int)) (p := fun j => at2 x i j == at2 x j i) (yes := .inl ()) (no := .inr ()) (fun j hj _ => by
      have h1 := rowOK_len (hrow i (Nat.le_refl _))
      have h2 := rowOK_len (hrow j (by omega))
      have hj' : j < x.length := by omega
      simp (disch := omega) only [EV, S_sp_l11Ground_2, hi, hj, hj', h1, h2, bne]
      unfold at2
      cases ((x.getD i []).getD j 0 == (x.getD j []).getD i 0) <;> rfl) (by simp (disch := omega) only [EV, S_sp_l11Ground_2, Nat.lt_irrefl])
  have h0 : L_sp_l11Ground_0 (x, (x.length : Int)) 0 = _ := iter_allR (f := fun v => (S_sp_l11Ground_0 (x, (x.length : Int)) v).ev) (n := x.length) (mk := fun i => (i : Int))
    (p := fun i => rowOK x x.length i && at2 x i i == 0 && (List.range i).all fun j => at2 x i j == at2 x j i) (yes := .inl ()) (no := .inr ()) (fun i hi hp => by
      simp (disch := omega) only [EV, S_sp_l11Ground_0, hi, l2Row_eq (hr _ (getD_mem (d := []) hi))]
      have e : (allIn (x.getD i []) 0 99 && (((x.getD i []).length : Int) == ((x.length : Nat) : Int))) = rowOK x x.length i := rfl
      rw [e]
      cases hb : rowOK x x.length i with
      | false => rfl
      | true =>
        have hd : (x.getD i []).getD i 0 = at2 x i i := rfl
        simp (disch := omega) only [EV, rowOK_len hb, hi, bne, hd, h2 i hi fun j hj => by
          by_cases e : j = i
          · rw [e]; exact hb
          · have := hp j (by omega)
            simp only [Bool.and_eq_true] at this
            exact this.1.1]
        cases (at2 x i i == 0) <;> cases (List.range i).all fun j => at2 x i j == at2 x j i <;> rfl) (by simp (disch := omega) only [EV, S_sp_l11Ground_0, Nat.lt_irrefl])
  unfold F_sp_l11Ground T_sp_l11Ground
  simp (disch := omega) only [EV, h0]
  unfold groundB
  cases (List.range x.length).all fun i => rowOK x x.length i && at2 x i i == 0 && (List.range i).all fun j => at2 x i j == at2 x j i <;> rfl
theorem im_IsGround_eq {x : List (List Int)} (hx : Low2 x) : F_im_IsGround x = some (groundB x) := by
  have hl := hx.1
  unfold F_im_IsGround T_im_IsGround
  by_cases h7 : (7 : Int) < (x.length : Int)
  · simp (disch := omega) only [EV, h7]
    unfold groundB
    rw [show decide ((x.length : Int) ≤ 7) = false by simp; omega, Bool.and_false]
  · have h0 : L_im_IsGround_0 (x, (x, ((x.length : Nat) : Int))) 0 = _ := iter_allR (f := fun v => (S_im_IsGround_0 (x, (x, ((x.length : Nat) : Int))) v).ev) (n := x.length) (mk := fun i => (i : Int)) (p := fun i => rowOK x x.length i) (yes := .inl ()) (no := .inr ()) (fun i hi _ => by
      simp (disch := omega) only [EV, S_im_IsGround_0, hi, areBetween_eq (hx.2 _ (getD_mem (d := []) hi)), bne]
      unfold rowOK
      cases (((x.getD i []).length : Int) == ((x.length : Nat) : Int)) <;> cases allIn (x.getD i []) 0 99 <;> rfl) (by simp (disch := omega) only [EV, S_im_IsGround_0, Nat.lt_irrefl])
    simp (disch := omega) only [EV, h7, h0]
    cases hr : (List.range x.length).all fun i => rowOK x x.length i with
    | false =>
      simp only [cond_false, ev_s_inr, Tr.ev_l]
      congr 1
      refine Eq.symm (Bool.eq_false_iff.2 fun h => ?_)
      rw [Bool.eq_false_iff] at hr
      exact hr (List.all_eq_true.2 fun i hi => ((groundB_iff x).1 h).row i (List.mem_range.1 hi))
    | true =>
      have hrow : ∀ j, j < x.length → rowOK x x.length j = true := fun j hj => List.all_eq_true.1 hr j (List.mem_range.2 hj)
      have h4 : ∀ i, i < x.length → L_im_IsGround_4 (x, ((i : Int), (x, (((x.length : Nat) : Int), ((i : Int), ((x.getD i []), (((x.getD i []).length : Nat) : Int))))))) 0 =
          some (bif (List.range x.length).all fun j => (at2 x i j == at2 x j i) && (!(i == j) || at2 x i j == 0) then .inl () else .inr ()) := fun i hi => by
        have h1 := rowOK_len (hrow i hi)
        refine iter_allR (f := fun v => (S_im_IsGround_4 (x, ((i : Int), (x, (((x.length : Nat) : Int), ((i : Int), ((x.getD i []), (((x.getD i []).length : Nat) : Int))))))) v).ev) (n := x.length) (mk := fun i => (i : Int)) (p := fun j => (at2 x i j == at2 x j i) && (!(i == j) || at2 x i j == 0)) (yes := .inl ()) (no := .inr ()) (fun j hj _ => ?_) ?_
        · have h2 := rowOK_len (hrow j hj)
          have e1 : (x.getD i []).getD j 0 = at2 x i j := rfl
          have e2 : (x.getD j []).getD i 0 = at2 x j i := rfl
          have e3 : ((i : Int) == (j : Int)) = (i == j) := by
            rw [Bool.eq_iff_iff, beq_iff_eq, beq_iff_eq]
            omega
          simp (disch := omega) only [EV, S_im_IsGround_4, h1, h2, hi, hj, bne, e1, e2, e3]
          cases (at2 x i j == at2 x j i) <;> cases (i == j) <;> cases (at2 x i j == 0) <;> rfl
        · simp (disch := omega) only [EV, S_im_IsGround_4, h1, Nat.lt_irrefl]
      have h2 : L_im_IsGround_2 (x, (x, ((x.length : Nat) : Int))) 0 = _ := iter_allR (f := fun v => (S_im_IsGround_2 (x, (x, ((x.length : Nat) : Int))) v).ev) (n := x.length) (mk := fun i => (i : Int))
          (p := fun i => (List.range x.length).all fun j => (at2 x i j == at2 x j i) && (!(i == j) || at2 x i j == 0)) (yes := .inl ()) (no := .inr ()) (fun i hi _ => by
        simp (disch := omega) only [EV, S_im_IsGround_2, hi, h4 i hi]
        cases (List.range x.length).all fun j => (at2 x i j == at2 x j i) && (!(i == j) || at2 x i j == 0) <;> rfl) (by simp (disch := omega) only [EV, S_im_IsGround_2, Nat.lt_irrefl])
      simp (disch := omega) only [EV, h2]
      rw [show groundB x = (List.range x.length).all fun i => (List.range x.length).all fun j => (at2 x i j == at2 x j i) && (!(i == j) || at2 x i j == 0) from ?_]
      · cases (List.range x.length).all fun i => (List.range x.length).all fun j => (at2 x i j == at2 x j i) && (!(i == j) || at2 x i j == 0) <;> rfl
      · rw [Bool.eq_iff_iff, groundB_iff]
        simp only [List.all_eq_true, List.mem_range, Bool.and_eq_true, Bool.or_eq_true, Bool.not_eq_true', beq_iff_eq, beq_eq_false_iff_ne]
        constructor
        · rintro ⟨h1, h2, h3, _⟩ i hi j hj
          refine ⟨h3 i j hi hj, ?_⟩
          by_cases e : i = j
          · subst e; exact .inr (h2 i hi)
          · exact .inl e
        · intro h
          exact ⟨hrow, fun i hi => ((h i hi i hi).2).resolve_left fun h => h rfl, fun i j hi hj => (h i hi j hj).1, by omega⟩

/-! ### Metric grounds -/
def metricB (x : List (List Int)) : Bool := (List.range x.length).all fun i => (List.range x.length).all fun j => (List.range x.length).all fun k => decide (at2 x i j ≤ at2 x i k + at2 x k j)

end Go.Proofs.Ythkafleokepjeaa
