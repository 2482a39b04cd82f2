/-
  Plain laws: small functions of both sides; grounds.
-/
import Derived.Test.YtlmbhkmaflhagaaP1
namespace Go.Proofs.Ytlmbhkmaflhagaa

theorem all_range {α : Type} (l : List α) (d : α) (p : α → Bool) : ((List.range l.length).all fun i => p (l.getD i d)) = l.all p := by
  induction l with
  | nil => rfl
  | cons x l ih =>
    rw [List.length_cons, List.range_succ_eq_map, List.all_cons, List.all_map, List.all_cons]
    exact congrArg (p x && ·) ih
theorem any_range {α : Type} (l : List α) (d : α) (p : α → Bool) : ((List.range l.length).any fun i => p (l.getD i d)) = l.any p := by
  induction l with
  | nil => rfl
  | cons x l ih =>
    rw [List.length_cons, List.range_succ_eq_map, List.any_cons, List.any_map, List.any_cons]
    exact congrArg (p x || ·) ih

/-- Is n from a to b? -/
def isIn (n a b : Int) : Bool := decide (a ≤ n) && decide (n ≤ b)
def allIn (l : List Int) (a b : Int) : Bool := l.all fun x => isIn x a b
theorem isIn_iff {n a b : Int} : isIn n a b = true ↔ a ≤ n ∧ n ≤ b := by simp [isIn]
theorem allIn_iff {l : List Int} {a b : Int} : allIn l a b = true ↔ ∀ x ∈ l, a ≤ x ∧ x ≤ b := by simp [allIn, isIn]
theorem allIn_getD {l : List Int} {a b : Int} (h : allIn l a b = true) {i : Nat} (hi : i < l.length) : a ≤ l.getD i 0 ∧ l.getD i 0 ≤ b := allIn_iff.1 h _ (getD_mem hi)

theorem bif_all {α : Type} (b : Bool) (x y : α) : (bif b then some x else some y) = some (bif b then x else y) := by cases b <;> rfl

theorem l1In_eq (n a b : Int) : F_sp_l1In n a b = some (isIn n a b) := by
  unfold F_sp_l1In T_sp_l1In isIn
  simp only [Tr.ev_t, Tr.ev_l]
  cases decide (a ≤ n) <;> rfl
theorem between_eq (n a b : Int) : F_im_between n a b = some (isIn n a b) := by
  unfold F_im_between T_im_between isIn
  simp only [Tr.ev_t, Tr.ev_l]
  cases decide (a ≤ n) <;> rfl
theorem l2Row_eq {l : List Int} (hl : Low1 l) (n b : Int) : F_sp_l2Row l n b = some (allIn l 0 b && ((l.length : Int) == n)) := by
  unfold Low1 at hl
  unfold F_sp_l2Row T_sp_l2Row
  have hs : L_sp_l2Row_0 (l, (n, b)) 0 = _ := iter_allR (f := fun v => (S_sp_l2Row_0 (l, (n, b)) v).ev) (n := l.length) (mk := fun i => (i : Int)) (p := fun i => isIn (l.getD i 0) 0 b) (yes := .inl ()) (no := .inr ()) (fun i hi _ => by
    simp (disch := omega) only [EV, S_sp_l2Row_0, hi, l1In_eq]
    cases isIn (l.getD i 0) 0 b <;> rfl) (by simp (disch := omega) only [EV, S_sp_l2Row_0, Nat.lt_irrefl])
  rw [all_range l 0 (fun x => isIn x 0 b)] at hs
  simp (disch := omega) only [EV, hs]
  unfold allIn
  cases l.all fun x => isIn x 0 b <;> rfl

/-- Rounds that look for the first element with q. -/
theorem iter_forE {V R α : Type} {f : V → Option (V ⊕ R)} {l : List α} (d : α) (q : α → Bool) (mk : Nat → V) (yes : Nat → R) (no : R)
    (h : ∀ i : Nat, i < l.length → f (mk i) = some (bif q (l.getD i d) then .inr (yes i) else .inl (mk (i + 1)))) (hend : f (mk l.length) = some (.inr no)) :
    iter f (mk 0) = some ((l.findIdx? q).elim no yes) := by
  have key : ∀ (k i : Nat), i + k = l.length → iter f (mk i) = some (((l.drop i).findIdx? q).elim no (fun j => yes (j + i))) := by
    intro k
    induction k with
    | zero =>
      intro i hk
      have : i = l.length := by omega
      subst this
      rw [iter_eq, hend]
      simp
    | succ k ih =>
      intro i hk
      rw [iter_eq, h i (by omega), List.drop_eq_getElem_cons (by omega), List.findIdx?_cons]
      have e : l.getD i d = l[i] := by rw [List.getD_eq_getElem?_getD, List.getElem?_eq_getElem (by omega)]; rfl
      rw [e]
      cases q l[i] with
      | true => simp
      | false =>
        simp only [cond_false, Bool.false_eq_true, if_false]
        rw [ih (i + 1) (by omega)]
        cases (l.drop (i + 1)).findIdx? q with
        | none => rfl
        | some j => simp [Nat.add_comm, Nat.add_left_comm]
  have := key l.length 0 (by omega)
  simpa using this
theorem findIdx_any {α : Type} {l : List α} {q : α → Bool} : l.any q = true ↔ (l.findIdx? q).isSome = true := by
  simp [List.findIdx?_isSome]

theorem indexFunc_int {l : List (Int)} (hl : (l.length : Int) < 9223372036854775807) {p : HL [.int .i64] → Option Bool} {q : Int → Bool} (hp : ∀ n ∈ l, p (n, ()) = some (q n)) :
    F_slices_IndexFunc_Sint_int l p = some ((l.findIdx? q).elim (-1) (fun i => (i : Int))) := by
  unfold F_slices_IndexFunc_Sint_int T_slices_IndexFunc_Sint_int
  have hs : L_slices_IndexFunc_Sint_int_0 (l, (p, ((l.length : Nat) : Int))) 0 = _ := iter_forE (f := fun v => (S_slices_IndexFunc_Sint_int_0 (l, (p, ((l.length : Nat) : Int))) v).ev) (l := l) 0 q (mk := fun i => (i : Int)) (yes := fun i => .inr (i : Int)) (no := .inl ()) (fun i hi => by
    simp (disch := omega) only [EV, S_slices_IndexFunc_Sint_int_0, hi, hp _ (getD_mem hi)]
    cases q (l.getD i 0) <;> rfl) (by simp (disch := omega) only [EV, S_slices_IndexFunc_Sint_int_0, Nat.lt_irrefl])
  simp (disch := omega) only [EV, hs]
  cases l.findIdx? q <;> rfl
theorem containsFunc_int {l : List (Int)} (hl : (l.length : Int) < 9223372036854775807) {p : HL [.int .i64] → Option Bool} {q : Int → Bool} (hp : ∀ n ∈ l, p (n, ()) = some (q n)) :
    F_slices_ContainsFunc_Sint_int l p = some (l.any q) := by
  unfold F_slices_ContainsFunc_Sint_int T_slices_ContainsFunc_Sint_int
  simp (disch := omega) only [EV, indexFunc_int hl hp]
  congr 1
  rw [Bool.eq_iff_iff, findIdx_any]
  cases l.findIdx? q <;> simp
theorem indexFunc_Sint {l : List (List Int)} (hl : (l.length : Int) < 9223372036854775807) {p : HL [.slice (.int .i64)] → Option Bool} {q : List Int → Bool} (hp : ∀ n ∈ l, p (n, ()) = some (q n)) :
    F_slices_IndexFunc_SSint_Sint l p = some ((l.findIdx? q).elim (-1) (fun i => (i : Int))) := by
  unfold F_slices_IndexFunc_SSint_Sint T_slices_IndexFunc_SSint_Sint
  have hs : L_slices_IndexFunc_SSint_Sint_0 (l, (p, ((l.length : Nat) : Int))) 0 = _ := iter_forE (f := fun v => (S_slices_IndexFunc_SSint_Sint_0 (l, (p, ((l.length : Nat) : Int))) v).ev) (l := l) [] q (mk := fun i => (i : Int)) (yes := fun i => .inr (i : Int)) (no := .inl ()) (fun i hi => by
    simp (disch := omega) only [EV, S_slices_IndexFunc_SSint_Sint_0, hi, hp _ (getD_mem hi)]
    cases q (l.getD i []) <;> rfl) (by simp (disch := omega) only [EV, S_slices_IndexFunc_SSint_Sint_0, Nat.lt_irrefl])
  simp (disch := omega) only [EV, hs]
  cases l.findIdx? q <;> rfl
theorem containsFunc_Sint {l : List (List Int)} (hl : (l.length : Int) < 9223372036854775807) {p : HL [.slice (.int .i64)] → Option Bool} {q : List Int → Bool} (hp : ∀ n ∈ l, p (n, ()) = some (q n)) :
    F_slices_ContainsFunc_SSint_Sint l p = some (l.any q) := by
  unfold F_slices_ContainsFunc_SSint_Sint T_slices_ContainsFunc_SSint_Sint
  simp (disch := omega) only [EV, indexFunc_Sint hl hp]
  congr 1
  rw [Bool.eq_iff_iff, findIdx_any]
  cases l.findIdx? q <;> simp

theorem areBetween_eq {l : List Int} (hl : Low1 l) (a b : Int) : F_im_areBetween l a b = some (allIn l a b) := by
  unfold Low1 at hl
  unfold F_im_areBetween T_im_areBetween
  rw [Tr.ev_c, containsFunc_int (by omega) (q := fun n => !(isIn n a b)) fun n _ => by
    unfold F_im_areBetween_1 T_im_areBetween_1
    simp (disch := omega) only [EV, between_eq]]
  simp (disch := omega) only [EV]
  unfold allIn
  rw [List.any_eq_not_all_not]
  simp
end Go.Proofs.Ytlmbhkmaflhagaa
