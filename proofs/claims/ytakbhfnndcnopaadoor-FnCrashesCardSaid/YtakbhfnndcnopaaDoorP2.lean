/-
  Plain laws: small functions of both sides; grounds.
-/
import Derived.Test.YtakbhfnndcnopaaDoorP1
namespace Go.Proofs.YtakbhfnndcnopaaDoor

theorem all_range {α : Type} (l : List α) (d : α) (p : α → Bool) : ((List.range l.length).all fun i => p (l.getD i d)) = l.all p := by
  induction l with
  | nil => rfl
  | cons x l ih =>
    rw [List.length_cons, List.range_succ_eq_map, List.all_cons, List.all_map, List.all_cons]
    exact congrArg (p x && ·) ih
theorem any_range {α : Type} (l : List α) (d : α) (p : α → Bool) : ((List.range l.length).any fun i => p (l.getD i d)) = l.any p := by
  induction l with
  | nil => rfl
  | cons x l ih =>
    rw [List.length_cons, List.range_succ_eq_map, List.any_cons, List.any_map, List.any_cons]
    exact congrArg (p x || ·) ih

/-- Is n from a to b? -/
def isIn (n a b : Int) : Bool := decide (a ≤ n) && decide (n ≤ b)
def allIn (l : List Int) (a b : Int) : Bool := l.all fun x => isIn x a b
theorem isIn_iff {n a b : Int} : isIn n a b = true ↔ a ≤ n ∧ n ≤ b := by simp [isIn]
theorem allIn_iff {l : List Int} {a b : Int} : allIn l a b = true ↔ ∀ x ∈ l, a ≤ x ∧ x ≤ b := by simp [allIn, isIn]
theorem allIn_getD {l : List Int} {a b : Int} (h : allIn l a b = true) {i : Nat} (hi : i < l.length) : a ≤ l.getD i 0 ∧ l.getD i 0 ≤ b := allIn_iff.1 h _ (getD_mem hi)

theorem bif_all {α : Type} (b : Bool) (x y : α) : (bif b then some x else some y) = some (bif b then x else y) := by cases b <;> rfl

theorem l1In_eq (n a b : Int) : F_sp_l1In n a b = some (isIn n a b) := by
  unfold F_sp_l1In T_sp_l1In isIn
  simp only [Tr.ev_t, Tr.ev_l]
  cases decide (a ≤ n) <;> rfl
theorem between_eq (n a b : Int) : F_im_between n a b = some (isIn n a b) := by
  unfold F_im_between T_im_between isIn
  simp only [Tr.ev_t, Tr.ev_l]
  cases decide (a ≤ n) <;> rfl

/-- Rounds that look for the first element with q. -/
theorem iter_forE {V R α : Type} {f : V → Option (V ⊕ R)} {l : List α} (d : α) (q : α → Bool) (mk : Nat → V) (yes : Nat → R) (no : R)
    (h : ∀ i : Nat, i < l.length → f (mk i) = some (bif q (l.getD i d) then .inr (yes i) else .inl (mk (i + 1)))) (hend : f (mk l.length) = some (.inr no)) :
    iter f (mk 0) = some ((l.findIdx? q).elim no yes) := by
  have key : ∀ (k i : Nat), i + k = l.length → iter f (mk i) = some (((l.drop i).findIdx? q).elim no (fun j => yes (j + i))) := by
    intro k
    induction k with
    | zero =>
      intro i hk
      have : i = l.length := by omega
      subst this
      rw [iter_eq, hend]
      simp
    | succ k ih =>
      intro i hk
      rw [iter_eq, h i (by omega), List.drop_eq_getElem_cons (by omega), List.findIdx?_cons]
      have e : l.getD i d = l[i] := by rw [List.getD_eq_getElem?_getD, List.getElem?_eq_getElem (by omega)]; rfl
      rw [e]
      cases q l[i] with
      | true => simp
      | false =>
        simp only [cond_false, Bool.false_eq_true, if_false]
        rw [ih (i + 1) (by omega)]
        cases (l.drop (i + 1)).findIdx? q with
        | none => rfl
        | some j => simp [Nat.add_comm, Nat.add_left_comm]
  have := key l.length 0 (by omega)
  simpa using this
theorem findIdx_any {α : Type} {l : List α} {q : α → Bool} : l.any q = true ↔ (l.findIdx? q).isSome = true := by
  simp [List.findIdx?_isSome]


end Go.Proofs.YtakbhfnndcnopaaDoor
