/-
 Plain rules: evaluation of trees, rounds that count.
-/
import Derived.Test.YtnagpmhaddfgmaaGreatB30
import Derived.Test.YtnagpmhaddfgmaaGreatC1
namespace Go.Proofs.YtnagpmhaddfgmaaGreat
theorem ev_s_inl {A B L : Type} (a : A) (k : A → Tr L) (k' : B → Tr L) : (Tr.s A B (.inl a) k k').ev = (k a).ev := rfl
theorem ev_s_inr {A B L : Type} (a : B) (k : A → Tr L) (k' : B → Tr L) : (Tr.s A B (.inr a) k k').ev = (k' a).ev := rfl
theorem inR_cast (i n : Nat) : inR (i : Int) n = decide (i < n) := by
 unfold inR; simp
theorem inR_int {i : Int} {n : Nat} (h0 : 0 ≤ i) (h1 : i < n) : inR i n = true := by unfold inR; simp; omega
theorem getD_mem {α : Type} {l : List α} {i : Nat} {d : α} (h : i < l.length) : l.getD i d ∈ l := by
 rw [List.getD_eq_getElem?_getD, List.getElem?_eq_getElem h]
 exact List.getElem_mem h
theorem EV : (∀ {L : Type} (b : Bool) (x y : Tr L), (Tr.t b x y).ev = bif b then x.ev else y.ev) ∧
  (∀ {L : Type} (R : Type) (x : Option R) (k : R → Tr L), (Tr.c R x k).ev = x.bind fun r => (k r).ev) ∧
  (∀ {L : Type} (b : Bool) (x : Tr L), (Tr.g b x).ev = bif b then x.ev else none) ∧
  (∀ {L : Type} (x : L), (Tr.l x).ev = some x) ∧
  (∀ {A B L : Type} (a : A) (k : A → Tr L) (k' : B → Tr L), (Tr.s A B (.inl a) k k').ev = (k a).ev) ∧
  (∀ {A B L : Type} (a : B) (k : A → Tr L) (k' : B → Tr L), (Tr.s A B (.inr a) k k').ev = (k' a).ev) ∧
  (∀ i n : Nat, inR (i : Int) n = decide (i < n)) ∧
  (∀ {i : Int} {n : Nat}, 0 ≤ i → i < n → inR i n = true) ∧
  (∀ {n m : Nat}, ((n : Int) < (m : Int)) ↔ n < m) ∧
  (∀ h : Decidable True, @decide True h = true) ∧
  (∀ h : Decidable False, @decide False h = false) ∧
  (∀ {α : Type} (a b : α), (bif true then a else b) = a) ∧
  (∀ {α : Type} (a b : α), (bif false then a else b) = b) ∧
  (∀ {α β : Type} (a : α) (f : α → Option β), (some a).bind f = f a) ∧
  (∀ n : Nat, ((n : Int)).toNat = n) ∧
  (∀ {n : Int}, -9223372036854775808 ≤ n → n < 9223372036854775808 → IntKind.wrap .i64 n = n) ∧
  ((!true) = false) ∧ ((!false) = true) ∧ (∀ b : Bool, (true && b) = b) ∧ (∀ b : Bool, (b && true) = b) ∧ (∀ b : Bool, (false && b) = false) ∧ (∀ b : Bool, (b && false) = false) ∧
  (∀ {α : Type} (p : Prop) (h : Decidable p) (a b : α), (bif @decide p h then a else b) = if p then a else b) ∧
  (∀ {α : Type} (h : Decidable True) (a b : α), (@ite α True h a b) = a) ∧
  (∀ {α : Type} (h : Decidable False) (a b : α), (@ite α False h a b) = b) := by
 refine ⟨fun b x y => rfl, fun R x k => rfl, fun b x => rfl, fun x => rfl, fun a k k' => rfl, fun a k k' => rfl, inR_cast, inR_int, Int.ofNat_lt, fun h => by simp, fun h => by simp, fun a b => rfl, fun a b => rfl, fun a f => rfl, fun n => rfl, wrap64,
  rfl, rfl, fun b => by simp, fun b => by simp, fun b => by simp, fun b => by simp, fun p h a b => ?_, fun h a b => by simp, fun h a b => by simp⟩
 by_cases hp : p <;> simp [hp]
theorem foldl_range_succ {S : Type} (g : S → Nat → S) (s : S) (n : Nat) : (List.range (n + 1)).foldl g s = g ((List.range n).foldl g s) n := by
 rw [List.range_succ, List.foldl_append]; rfl
theorem iter_fold {V S R : Type} {f : V → Option (V ⊕ R)} {n : Nat} (mk : Nat → S → V) (I : Nat → S → Prop) (g : S → Nat → S) (fin : S → R) {s0 : S} (h0 : I 0 s0)
  (hstep : ∀ i s, i < n → I i s → f (mk i s) = some (.inl (mk (i + 1) (g s i))) ∧ I (i + 1) (g s i))
  (hend : ∀ s, I n s → f (mk n s) = some (.inr (fin s))) :
  iter f (mk 0 s0) = some (fin ((List.range n).foldl g s0)) ∧ I n ((List.range n).foldl g s0) := by
 have hI : ∀ i, i ≤ n → I i ((List.range i).foldl g s0) := by
  intro i
  induction i with
  | zero => intro _; exact h0
  | succ i ih => intro hi; rw [foldl_range_succ]; exact (hstep i _ (by omega) (ih (by omega))).2
 have key : ∀ k i, i + k = n → iter f (mk i ((List.range i).foldl g s0)) = some (fin ((List.range n).foldl g s0)) := by
  intro k
  induction k with
  | zero =>
   intro i hi
   have : i = n := by omega
   subst this
   rw [iter_eq, hend _ (hI i (Nat.le_refl _))]
  | succ k ih =>
   intro i hi
   rw [iter_eq, (hstep i _ (by omega) (hI i (by omega))).1]
   have := ih (i + 1) (by omega)
   rw [foldl_range_succ] at this
   exact this
 exact ⟨key n 0 (by omega), hI n (Nat.le_refl _)⟩
theorem foldl_getD {α S : Type} (l : List α) (d : α) (g : S → α → S) (s : S) : (List.range l.length).foldl (fun s i => g s (l.getD i d)) s = l.foldl g s := by
 induction l generalizing s with
 | nil => rfl
 | cons x l ih =>
  rw [List.length_cons, List.range_succ_eq_map, List.foldl_cons, List.foldl_map, List.foldl_cons]
  exact ih _
theorem iter_foldl {V S R α : Type} {f : V → Option (V ⊕ R)} (l : List α) (d : α) (mk : Nat → S → V) (I : Nat → S → Prop) (g : S → α → S) (fin : S → R) {s0 : S} (h0 : I 0 s0)
  (hstep : ∀ i s, i < l.length → I i s → f (mk i s) = some (.inl (mk (i + 1) (g s (l.getD i d)))) ∧ I (i + 1) (g s (l.getD i d)))
  (hend : ∀ s, I l.length s → f (mk l.length s) = some (.inr (fin s))) :
  iter f (mk 0 s0) = some (fin (l.foldl g s0)) ∧ I l.length (l.foldl g s0) := by
 have := iter_fold mk I (fun s i => g s (l.getD i d)) fin h0 hstep hend
 rw [foldl_getD] at this
 exact this
theorem iter_allR {V R : Type} {f : V → Option (V ⊕ R)} {n : Nat} (mk : Nat → V) (p : Nat → Bool) (yes : R) (no : R)
  (h : ∀ i : Nat, i < n → (∀ j, j < i → p j = true) → f (mk i) = some (bif p i then .inl (mk (i + 1)) else .inr no)) (hend : f (mk n) = some (.inr yes)) :
  iter f (mk 0) = some (bif (List.range n).all p then yes else no) := by
 have key : ∀ (k i : Nat), i + k = n → (∀ j, j < i → p j = true) → iter f (mk i) = some (bif (List.range' i k).all p then yes else no) := by
  intro k
  induction k with
  | zero =>
   intro i hk _
   have : i = n := by omega
   subst this
   rw [iter_eq, hend]
   rfl
  | succ k ih =>
   intro i hk hj
   rw [iter_eq, h i (by omega) hj, List.range'_succ, List.all_cons]
   cases hs : p i with
   | false => rfl
   | true =>
    simp only [cond_true, Bool.true_and]
    exact ih (i + 1) (by omega) fun j hj' => by
     by_cases e : j = i
     ·rw [e]; exact hs
     ·exact hj j (by omega)
 have := key n 0 (by omega) fun j hj => absurd hj (Nat.not_lt_zero _)
 rw [List.range_eq_range']
 exact this
end Go.Proofs.YtnagpmhaddfgmaaGreat
/-
 Plain laws: what the laws' own helpers compute: sizes, copies, comparisons.
-/
namespace Go.Proofs.YtnagpmhaddfgmaaGreat
def Low1 (l : List Int) : Prop := (l.length : Int) ≤ 1048576
def Low2 (x : List (List Int)) : Prop := (x.length : Int) ≤ 1048576 ∧ ∀ r ∈ x, Low1 r
theorem all_getD {α : Type} [BEq α] [LawfulBEq α] {a b : List α} {d : α} (h : a.length = b.length) : ((List.range a.length).all fun i => a.getD i d == b.getD i d) = (a == b) := by
 rw [Bool.eq_iff_iff, List.all_eq_true, beq_iff_eq]
 constructor
 ·intro h1
  refine List.ext_getElem h fun i hi hi' => ?_
  have := h1 i (List.mem_range.2 hi)
  rw [List.getD_eq_getElem?_getD, List.getD_eq_getElem?_getD, List.getElem?_eq_getElem hi, List.getElem?_eq_getElem hi'] at this
  simpa using this
 ·rintro rfl i _
  simp
theorem int_ne (a b : Nat) : (((a : Nat) : Int) != ((b : Nat) : Int)) = !(decide (a = b)) := by
 by_cases h : a = b
 ·subst h; simp
 ·have : ((a : Nat) : Int) ≠ ((b : Nat) : Int) := by omega
  simp [h, bne, this]
theorem int_eq (a b : Nat) : (((a : Nat) : Int) == ((b : Nat) : Int)) = decide (a = b) := by
 by_cases h : a = b
 ·subst h; simp
 ·have : ((a : Nat) : Int) ≠ ((b : Nat) : Int) := by omega
  simp [h, this]
theorem eq_loop {α : Type} [BEq α] [LawfulBEq α] {f : Int → Option (Int ⊕ (Unit ⊕ Unit))} {a b : List α} (d : α) (hl : a.length = b.length)
  (hstep : ∀ i : Nat, i < a.length → f (i : Int) = some (bif a.getD i d == b.getD i d then .inl ((i + 1 : Nat) : Int) else .inr (.inr ())))
  (hend : f (a.length : Int) = some (.inr (.inl ()))) : iter f 0 = some (bif a == b then .inl () else .inr ()) := by
 have := iter_allR (f := f) (n := a.length) (mk := fun i => (i : Int)) (p := fun i => a.getD i d == b.getD i d) (yes := .inl ()) (no := .inr ()) (fun i hi _ => hstep i hi) hend
 rw [all_getD hl] at this
 exact this
end Go.Proofs.YtnagpmhaddfgmaaGreat
/-
 Plain laws: small functions of both sides; grounds.
-/
namespace Go.Proofs.YtnagpmhaddfgmaaGreat
theorem all_range {α : Type} (l : List α) (d : α) (p : α → Bool) : ((List.range l.length).all fun i => p (l.getD i d)) = l.all p := by
 induction l with
 | nil => rfl
 | cons x l ih =>
  rw [List.length_cons, List.range_succ_eq_map, List.all_cons, List.all_map, List.all_cons]
  exact congrArg (p x && ·) ih
def isIn (n a b : Int) : Bool := decide (a ≤ n) && decide (n ≤ b)
def allIn (l : List Int) (a b : Int) : Bool := l.all fun x => isIn x a b
theorem isIn_iff {n a b : Int} : isIn n a b = true ↔ a ≤ n ∧ n ≤ b := by simp [isIn]
theorem allIn_iff {l : List Int} {a b : Int} : allIn l a b = true ↔ ∀ x ∈ l, a ≤ x ∧ x ≤ b := by simp [allIn, isIn]
theorem allIn_getD {l : List Int} {a b : Int} (h : allIn l a b = true) {i : Nat} (hi : i < l.length) : a ≤ l.getD i 0 ∧ l.getD i 0 ≤ b := allIn_iff.1 h _ (getD_mem hi)
theorem l1In_eq (n a b : Int) : wap n a b = some (isIn n a b) := by
 unfold wap wtg isIn
 simp only [Tr.ev_t, Tr.ev_l]
 cases decide (a ≤ n) <;> rfl
theorem between_eq (n a b : Int) : wcs n a b = some (isIn n a b) := by
 unfold wcs wsh isIn
 simp only [Tr.ev_t, Tr.ev_l]
 cases decide (a ≤ n) <;> rfl
theorem l1Least_eq (a b : Int) : whr a b = some (min a b) := by
 unfold whr wry
 simp (disch := omega) only [EV]
 by_cases h : a < b
 ·rw [if_pos h, Int.min_eq_left (by omega)]
 ·rw [if_neg h, Int.min_eq_right (by omega)]
theorem l1Most_eq (a b : Int) : whm a b = some (max a b) := by
 unfold whm wro
 simp (disch := omega) only [EV]
 by_cases h : b < a
 ·rw [if_pos h, Int.max_eq_left (by omega)]
 ·rw [if_neg h, Int.max_eq_right (by omega)]
theorem l2Row_eq {l : List Int} (hl : Low1 l) (n b : Int) : wjm l n b = some (allIn l 0 b && ((l.length : Int) == n)) := by
 unfold Low1 at hl
 unfold wjm wth
 have hs : wjl (l, (n, b)) 0 = _ := iter_allR (f := fun v => (wbx (l, (n, b)) v).ev) (n := l.length) (mk := fun i => (i : Int)) (p := fun i => isIn (l.getD i 0) 0 b) (yes := .inl ()) (no := .inr ()) (fun i hi _ => by
  simp (disch := omega) only [EV, wbx, hi, l1In_eq]
  cases isIn (l.getD i 0) 0 b <;> rfl) (by simp (disch := omega) only [EV, wbx, Nat.lt_irrefl])
 rw [all_range l 0 (fun x => isIn x 0 b)] at hs
 simp (disch := omega) only [EV, hs]
 unfold allIn
 cases l.all fun x => isIn x 0 b <;> rfl
theorem iter_forE {V R α : Type} {f : V → Option (V ⊕ R)} {l : List α} (d : α) (q : α → Bool) (mk : Nat → V) (yes : Nat → R) (no : R)
  (h : ∀ i : Nat, i < l.length → f (mk i) = some (bif q (l.getD i d) then .inr (yes i) else .inl (mk (i + 1)))) (hend : f (mk l.length) = some (.inr no)) :
  iter f (mk 0) = some ((l.findIdx? q).elim no yes) := by
 have key : ∀ (k i : Nat), i + k = l.length → iter f (mk i) = some (((l.drop i).findIdx? q).elim no (fun j => yes (j + i))) := by
  intro k
  induction k with
  | zero =>
   intro i hk
   have : i = l.length := by omega
   subst this
   rw [iter_eq, hend]
   simp
  | succ k ih =>
   intro i hk
   rw [iter_eq, h i (by omega), List.drop_eq_getElem_cons (by omega), List.findIdx?_cons]
   have e : l.getD i d = l[i] := by rw [List.getD_eq_getElem?_getD, List.getElem?_eq_getElem (by omega)]; rfl
   rw [e]
   cases q l[i] with
   | true => simp
   | false =>
    simp only [cond_false, Bool.false_eq_true, if_false]
    rw [ih (i + 1) (by omega)]
    cases (l.drop (i + 1)).findIdx? q with
    | none => rfl
    | some j => simp [Nat.add_comm, Nat.add_left_comm]
 have := key l.length 0 (by omega)
 simpa using this
theorem findIdx_any {α : Type} {l : List α} {q : α → Bool} : l.any q = true ↔ (l.findIdx? q).isSome = true := by
 simp [List.findIdx?_isSome]
theorem indexFunc_int {l : List (Int)} (hl : (l.length : Int) < 9223372036854775807) {p : HL [.int .i64] → Option Bool} {q : Int → Bool} (hp : ∀ n ∈ l, p (n, ()) = some (q n)) :
  wmz l p = some ((l.findIdx? q).elim (-1) (fun i => (i : Int))) := by
 unfold wmz wsi
 have hs : wjg (l, (p, ((l.length : Nat) : Int))) 0 = _ := iter_forE (f := fun v => (wbu (l, (p, ((l.length : Nat) : Int))) v).ev) (l := l) 0 q (mk := fun i => (i : Int)) (yes := fun i => .inr (i : Int)) (no := .inl ()) (fun i hi => by
  simp (disch := omega) only [EV, wbu, hi, hp _ (getD_mem hi)]
  cases q (l.getD i 0) <;> rfl) (by simp (disch := omega) only [EV, wbu, Nat.lt_irrefl])
 simp (disch := omega) only [EV, hs]
 cases l.findIdx? q <;> rfl
theorem containsFunc_int {l : List (Int)} (hl : (l.length : Int) < 9223372036854775807) {p : HL [.int .i64] → Option Bool} {q : Int → Bool} (hp : ∀ n ∈ l, p (n, ()) = some (q n)) :
  wna l p = some (l.any q) := by
 unfold wna wsn
 simp (disch := omega) only [EV, indexFunc_int hl hp]
 congr 1
 rw [Bool.eq_iff_iff, findIdx_any]
 cases l.findIdx? q <;> simp
theorem indexFunc_Sint {l : List (List Int)} (hl : (l.length : Int) < 9223372036854775807) {p : HL [.slice (.int .i64)] → Option Bool} {q : List Int → Bool} (hp : ∀ n ∈ l, p (n, ()) = some (q n)) :
  wnd l p = some ((l.findIdx? q).elim (-1) (fun i => (i : Int))) := by
 unfold wnd wss
 have hs : wji (l, (p, ((l.length : Nat) : Int))) 0 = _ := iter_forE (f := fun v => (wbv (l, (p, ((l.length : Nat) : Int))) v).ev) (l := l) [] q (mk := fun i => (i : Int)) (yes := fun i => .inr (i : Int)) (no := .inl ()) (fun i hi => by
  simp (disch := omega) only [EV, wbv, hi, hp _ (getD_mem hi)]
  cases q (l.getD i []) <;> rfl) (by simp (disch := omega) only [EV, wbv, Nat.lt_irrefl])
 simp (disch := omega) only [EV, hs]
 cases l.findIdx? q <;> rfl
theorem containsFunc_Sint {l : List (List Int)} (hl : (l.length : Int) < 9223372036854775807) {p : HL [.slice (.int .i64)] → Option Bool} {q : List Int → Bool} (hp : ∀ n ∈ l, p (n, ()) = some (q n)) :
  wne l p = some (l.any q) := by
 unfold wne wsy
 simp (disch := omega) only [EV, indexFunc_Sint hl hp]
 congr 1
 rw [Bool.eq_iff_iff, findIdx_any]
 cases l.findIdx? q <;> simp
theorem areBetween_eq {l : List Int} (hl : Low1 l) (a b : Int) : wjh l a b = some (allIn l a b) := by
 unfold Low1 at hl
 unfold wjh wsr
 rw [Tr.ev_c, containsFunc_int (by omega) (q := fun n => !(isIn n a b)) fun n _ => by
  unfold wsp wso
  simp (disch := omega) only [EV, between_eq]]
 simp (disch := omega) only [EV]
 unfold allIn
 rw [List.any_eq_not_all_not]
 simp
end Go.Proofs.YtnagpmhaddfgmaaGreat
/-
 Plain laws: marks that are written into a result, and read again.
-/
namespace Go.Proofs.YtnagpmhaddfgmaaGreat
theorem take_snoc {α : Type} {l : List α} {i : Nat} (d : α) (h : i < l.length) : l.take (i + 1) = l.take i ++ [l.getD i d] := by
 rw [List.take_succ_eq_append_getElem h, List.getD_eq_getElem?_getD, List.getElem?_eq_getElem h]
 rfl
end Go.Proofs.YtnagpmhaddfgmaaGreat
/-
 Plain laws: the first one of the least ones.
-/
namespace Go.Proofs.YtnagpmhaddfgmaaGreat
def lstMin : List Int → Int
 | [] => 0
 | x :: l => l.foldl min x
theorem foldl_min_spec : ∀ (l : List Int) (a : Int), (l.foldl min a = a ∨ l.foldl min a ∈ l) ∧ l.foldl min a ≤ a ∧ ∀ x ∈ l, l.foldl min a ≤ x
 | [], a => ⟨.inl rfl, Int.le_refl _, fun x h => by cases h⟩
 | y :: l, a => by
  obtain ⟨h1, h2, h3⟩ := foldl_min_spec l (min a y)
  simp only [List.foldl_cons]
  refine ⟨?_, by omega, fun x hx => ?_⟩
  ·rcases h1 with h1 | h1
   ·rw [h1]
    rcases Int.le_total a y with h | h
    ·left; omega
    ·right; rw [Int.min_eq_right h]; exact List.mem_cons_self
   ·exact .inr (List.mem_cons_of_mem _ h1)
  ·rcases List.mem_cons.1 hx with rfl | hx
   ·omega
   ·exact h3 x hx
theorem lstMin_spec {l : List Int} (h : l ≠ []) : lstMin l ∈ l ∧ ∀ x ∈ l, lstMin l ≤ x := by
 cases l with
 | nil => exact absurd rfl h
 | cons a l =>
  obtain ⟨h1, h2, h3⟩ := foldl_min_spec l a
  refine ⟨?_, fun x hx => ?_⟩
  ·rcases h1 with h1 | h1
   ·show l.foldl min a ∈ a :: l
    rw [h1]; exact List.mem_cons_self
   ·exact List.mem_cons_of_mem _ h1
  ·rcases List.mem_cons.1 hx with rfl | hx
   ·exact h2
   ·exact h3 x hx
def firstMin (g : List Int → Int) (l : List (List Int)) : List Int := (l.find? fun s => decide (g s = lstMin (l.map g))).getD []
theorem firstMin_spec {g : List Int → Int} {l : List (List Int)} (h : l ≠ []) : firstMin g l ∈ l ∧ g (firstMin g l) = lstMin (l.map g) := by
 obtain ⟨h1, _⟩ := lstMin_spec (l := l.map g) (by simpa using h)
 obtain ⟨s, hs, e⟩ := List.mem_map.1 h1
 unfold firstMin
 cases hf : l.find? fun s => decide (g s = lstMin (l.map g)) with
 | none =>
  have := List.find?_eq_none.1 hf s hs
  simp at this
  exact absurd e this
 | some t =>
  have := List.find?_some hf
  exact ⟨List.mem_of_find?_eq_some hf, by simpa using this⟩
theorem lstMin_snoc {l : List Int} (h : l ≠ []) (x : Int) : lstMin (l ++ [x]) = min (lstMin l) x := by
 cases l with
 | nil => exact absurd rfl h
 | cons a l => simp [lstMin, List.foldl_append]
theorem firstMin_snoc {g : List Int → Int} {l : List (List Int)} (h : l ≠ []) (s : List Int) : firstMin g (l ++ [s]) = if g s < g (firstMin g l) then s else firstMin g l := by
 obtain ⟨h1, h2⟩ := firstMin_spec (g := g) h
 have hm : l.map g ≠ [] := by simpa using h
 have hle := (lstMin_spec hm).2
 rw [h2]
 unfold firstMin
 rw [List.map_append, List.map_singleton, lstMin_snoc hm, List.find?_append]
 by_cases hs : g s < lstMin (l.map g)
 ·rw [if_pos hs, Int.min_eq_right (by omega)]
  have : l.find? (fun t => decide (g t = g s)) = none := List.find?_eq_none.2 fun t ht => by
   have := hle (g t) (List.mem_map_of_mem ht)
   simp only [decide_eq_true_eq]
   omega
  rw [this]
  simp
 ·rw [if_neg hs, Int.min_eq_left (by omega)]
  cases hf : l.find? (fun t => decide (g t = lstMin (l.map g))) with
  | some t => rfl
  | none =>
   have := List.find?_eq_none.1 hf _ h1
   rw [h2] at this
   simp at this
theorem firstMin_one {g : List Int → Int} (s : List Int) : firstMin g [s] = s := by
 unfold firstMin
 simp [lstMin]
end Go.Proofs.YtnagpmhaddfgmaaGreat
