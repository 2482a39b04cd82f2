/-
  Plain laws: FnExactIsGround, the two functions.
-/
import Derived.Test.YtafcpibodfbjnaaD2
namespace Go.Proofs.Ytafcpibodfbjnaa

def at2 (x : List (List Int)) (i j : Nat) : Int := (x.getD i []).getD j 0
def rowOK (x : List (List Int)) (n i : Nat) : Bool := allIn (x.getD i []) 0 99 && (((x.getD i []).length : Int) == (n : Int))
/-- What both ask of a ground, but for its size. -/
def isG (x : List (List Int)) : Prop := (∀ i, i < x.length → rowOK x x.length i = true) ∧ (∀ i, i < x.length → at2 x i i = 0) ∧ ∀ i j, i < x.length → j < x.length → at2 x i j = at2 x j i

theorem rowOK_len {x : List (List Int)} {n i : Nat} (h : rowOK x n i = true) : (x.getD i []).length = n := by
  simp only [rowOK, Bool.and_eq_true, beq_iff_eq] at h
  omega

theorem sp_loop2 {x : List (List Int)} {n i : Nat} (hx : Low2 x) (hi : i < x.length) (hrow : ∀ j, j ≤ i → rowOK x x.length j = true) :
    L_sp_l11Ground_2 (x, ((n : Int), (i : Int))) 0 = some (match (List.range i).all fun j => at2 x i j == at2 x j i with | true => .inl () | false => .inr ()) := by
  obtain ⟨hl, _⟩ := hx
  refine iter_all (f := fun v => (S_sp_l11Ground_2 (x, ((n : Int), (i : Int))) v).ev) (by omega) (fun j hj _ => ?_) ?_
  · unfold S_sp_l11Ground_2
    have h1 := rowOK_len (hrow i (Nat.le_refl _))
    have h2 := rowOK_len (hrow j (by omega))
    simp only [Tr.ev_t, Tr.ev_l, Tr.ev_g, Bool.cond_decide, toNat_nat, h1, h2]
    rw [if_pos (by omega), inR_nat hi, inR_nat (show j < x.length by omega)]
    simp only [cond_true, bne]
    unfold at2
    cases ((x.getD i []).getD j 0 == (x.getD j []).getD i 0) <;> rfl
  · unfold S_sp_l11Ground_2
    simp

theorem spG {x : List (List Int)} (hx : Low2 x) : F_sp_l11Ground x = some (((List.range x.length).all fun i => rowOK x x.length i && at2 x i i == 0 && (List.range i).all fun j => at2 x i j == at2 x j i) && decide ((x.length : Int) ≤ 7)) := by
  unfold F_sp_l11Ground T_sp_l11Ground
  have hl := hx.1
  have hs : L_sp_l11Ground_0 (x, ((x.length : Nat) : Int)) 0 = _ := iter_all (f := fun v => (S_sp_l11Ground_0 (x, ((x.length : Nat) : Int)) v).ev) (n := x.length) (p := fun i => rowOK x x.length i && at2 x i i == 0 && (List.range i).all fun j => at2 x i j == at2 x j i) (by omega) (fun i hi hp => by
    unfold S_sp_l11Ground_0
    simp only [Tr.ev_t, Tr.ev_l, Tr.ev_g, Tr.ev_c, Bool.cond_decide, toNat_nat]
    rw [if_pos (by omega), inR_nat hi, l2Row_eq (hx.2 _ (getD_mem hi))]
    simp only [cond_true, Option.bind_some]
    have hr : (allIn (x.getD i []) 0 99 && (((x.getD i []).length : Int) == ((x.length : Nat) : Int))) = rowOK x x.length i := rfl
    rw [hr]
    cases hb : rowOK x x.length i with
    | false => rfl
    | true =>
      simp only [Bool.not_true, cond_false, Bool.true_and]
      rw [inR_nat (show i < (x.getD i []).length by rw [rowOK_len hb]; exact hi)]
      simp only [cond_true, bne]
      have hd : (x.getD i []).getD i 0 = at2 x i i := rfl
      rw [hd]
      cases (at2 x i i == 0) with
      | false => rfl
      | true =>
        simp only [Bool.not_true, cond_false, Bool.true_and]
        rw [sp_loop2 hx hi fun j hj => by
          by_cases e : j = i
          · rw [e]; exact hb
          · have := hp j (by omega)
            simp only [Bool.and_eq_true] at this
            exact this.1.1]
        cases (List.range i).all fun j => at2 x i j == at2 x j i <;> rfl) (by
    unfold S_sp_l11Ground_0
    simp)
  simp only [Tr.ev_c, Tr.ev_l]
  rw [hs]
  simp only [Option.bind_some]
  cases (List.range x.length).all fun i => rowOK x x.length i && at2 x i i == 0 && (List.range i).all fun j => at2 x i j == at2 x j i <;> rfl

theorem spG_iff (x : List (List Int)) : ((List.range x.length).all fun i => rowOK x x.length i && at2 x i i == 0 && (List.range i).all fun j => at2 x i j == at2 x j i) = true ↔ isG x := by
  simp only [List.all_eq_true, List.mem_range, Bool.and_eq_true, beq_iff_eq]
  constructor
  · intro h
    refine ⟨fun i hi => (h i hi).1.1, fun i hi => (h i hi).1.2, fun i j hi hj => ?_⟩
    rcases Nat.lt_trichotomy i j with h1 | h1 | h1
    · exact ((h j hj).2 i h1).symm
    · rw [h1]
    · exact (h i hi).2 j h1
  · rintro ⟨h1, h2, h3⟩ i hi
    exact ⟨⟨h1 i hi, h2 i hi⟩, fun j hj => h3 i j hi (by omega)⟩
end Go.Proofs.Ytafcpibodfbjnaa
