/-
 Plain rules: evaluation of trees, rounds that count.
-/
import Derived.Test.YtnagpmhaddfgmaaGreatB30
import Derived.Test.YtnagpmhaddfgmaaGreatC1
namespace Go.Proofs.YtnagpmhaddfgmaaGreat
theorem ev_s_inl {A B L : Type} (a : A) (k : A → Tr L) (k' : B → Tr L) : (Tr.s A B (.inl a) k k').ev = (k a).ev := rfl
theorem ev_s_inr {A B L : Type} (a : B) (k : A → Tr L) (k' : B → Tr L) : (Tr.s A B (.inr a) k k').ev = (k' a).ev := rfl
theorem inR_cast (i n : Nat) : inR (i : Int) n = decide (i < n) := by
 unfold inR; simp
theorem inR_int {i : Int} {n : Nat} (h0 : 0 ≤ i) (h1 : i < n) : inR i n = true := by unfold inR; simp; omega
theorem getD_mem {α : Type} {l : List α} {i : Nat} {d : α} (h : i < l.length) : l.getD i d ∈ l := by
 rw [List.getD_eq_getElem?_getD, List.getElem?_eq_getElem h]
 exact List.getElem_mem h
theorem EV : (∀ {L : Type} (b : Bool) (x y : Tr L), (Tr.t b x y).ev = bif b then x.ev else y.ev) ∧
  (∀ {L : Type} (R : Type) (x : Option R) (k : R → Tr L), (Tr.c R x k).ev = x.bind fun r => (k r).ev) ∧
  (∀ {L : Type} (b : Bool) (x : Tr L), (Tr.g b x).ev = bif b then x.ev else none) ∧
  (∀ {L : Type} (x : L), (Tr.l x).ev = some x) ∧
  (∀ {A B L : Type} (a : A) (k : A → Tr L) (k' : B → Tr L), (Tr.s A B (.inl a) k k').ev = (k a).ev) ∧
  (∀ {A B L : Type} (a : B) (k : A → Tr L) (k' : B → Tr L), (Tr.s A B (.inr a) k k').ev = (k' a).ev) ∧
  (∀ i n : Nat, inR (i : Int) n = decide (i < n)) ∧
  (∀ {i : Int} {n : Nat}, 0 ≤ i → i < n → inR i n = true) ∧
  (∀ {n m : Nat}, ((n : Int) < (m : Int)) ↔ n < m) ∧
  (∀ h : Decidable True, @decide True h = true) ∧
  (∀ h : Decidable False, @decide False h = false) ∧
  (∀ {α : Type} (a b : α), (bif true then a else b) = a) ∧
  (∀ {α : Type} (a b : α), (bif false then a else b) = b) ∧
  (∀ {α β : Type} (a : α) (f : α → Option β), (some a).bind f = f a) ∧
  (∀ n : Nat, ((n : Int)).toNat = n) ∧
  (∀ {n : Int}, -9223372036854775808 ≤ n → n < 9223372036854775808 → IntKind.wrap .i64 n = n) ∧
  ((!true) = false) ∧ ((!false) = true) ∧ (∀ b : Bool, (true && b) = b) ∧ (∀ b : Bool, (b && true) = b) ∧ (∀ b : Bool, (false && b) = false) ∧ (∀ b : Bool, (b && false) = false) ∧
  (∀ {α : Type} (p : Prop) (h : Decidable p) (a b : α), (bif @decide p h then a else b) = if p then a else b) ∧
  (∀ {α : Type} (h : Decidable True) (a b : α), (@ite α True h a b) = a) ∧
  (∀ {α : Type} (h : Decidable False) (a b : α), (@ite α False h a b) = b) := by
 refine ⟨fun b x y => rfl, fun R x k => rfl, fun b x => rfl, fun x => rfl, fun a k k' => rfl, fun a k k' => rfl, inR_cast, inR_int, Int.ofNat_lt, fun h => by simp, fun h => by simp, fun a b => rfl, fun a b => rfl, fun a f => rfl, fun n => rfl, wrap64,
  rfl, rfl, fun b => by simp, fun b => by simp, fun b => by simp, fun b => by simp, fun p h a b => ?_, fun h a b => by simp, fun h a b => by simp⟩
 by_cases hp : p <;> simp [hp]
theorem foldl_range_succ {S : Type} (g : S → Nat → S) (s : S) (n : Nat) : (List.range (n + 1)).foldl g s = g ((List.range n).foldl g s) n := by
 rw [List.range_succ, List.foldl_append]; rfl
theorem iter_fold {V S R : Type} {f : V → Option (V ⊕ R)} {n : Nat} (mk : Nat → S → V) (I : Nat → S → Prop) (g : S → Nat → S) (fin : S → R) {s0 : S} (h0 : I 0 s0)
  (hstep : ∀ i s, i < n → I i s → f (mk i s) = some (.inl (mk (i + 1) (g s i))) ∧ I (i + 1) (g s i))
  (hend : ∀ s, I n s → f (mk n s) = some (.inr (fin s))) :
  iter f (mk 0 s0) = some (fin ((List.range n).foldl g s0)) ∧ I n ((List.range n).foldl g s0) := by
 have hI : ∀ i, i ≤ n → I i ((List.range i).foldl g s0) := by
  intro i
  induction i with
  | zero => intro _; exact h0
  | succ i ih => intro hi; rw [foldl_range_succ]; exact (hstep i _ (by omega) (ih (by omega))).2
 have key : ∀ k i, i + k = n → iter f (mk i ((List.range i).foldl g s0)) = some (fin ((List.range n).foldl g s0)) := by
  intro k
  induction k with
  | zero =>
   intro i hi
   have : i = n := by omega
   subst this
   rw [iter_eq, hend _ (hI i (Nat.le_refl _))]
  | succ k ih =>
   intro i hi
   rw [iter_eq, (hstep i _ (by omega) (hI i (by omega))).1]
   have := ih (i + 1) (by omega)
   rw [foldl_range_succ] at this
   exact this
 exact ⟨key n 0 (by omega), hI n (Nat.le_refl _)⟩
theorem foldl_getD {α S : Type} (l : List α) (d : α) (g : S → α → S) (s : S) : (List.range l.length).foldl (fun s i => g s (l.getD i d)) s = l.foldl g s := by
 induction l generalizing s with
 | nil => rfl
 | cons x l ih =>
  rw [List.length_cons, List.range_succ_eq_map, List.foldl_cons, List.foldl_map, List.foldl_cons]
  exact ih _
theorem iter_foldl {V S R α : Type} {f : V → Option (V ⊕ R)} (l : List α) (d : α) (mk : Nat → S → V) (I : Nat → S → Prop) (g : S → α → S) (fin : S → R) {s0 : S} (h0 : I 0 s0)
  (hstep : ∀ i s, i < l.length → I i s → f (mk i s) = some (.inl (mk (i + 1) (g s (l.getD i d)))) ∧ I (i + 1) (g s (l.getD i d)))
  (hend : ∀ s, I l.length s → f (mk l.length s) = some (.inr (fin s))) :
  iter f (mk 0 s0) = some (fin (l.foldl g s0)) ∧ I l.length (l.foldl g s0) := by
 have := iter_fold mk I (fun s i => g s (l.getD i d)) fin h0 hstep hend
 rw [foldl_getD] at this
 exact this
theorem iter_inv {V S R : Type} {f : V → Option (V ⊕ R)} {n : Nat} (mk : Nat → S → V) (I : Nat → S → Prop) (Q : R → Prop) {s0 : S} (h0 : I 0 s0)
  (hstep : ∀ i s, i < n → I i s → (∃ s', f (mk i s) = some (.inl (mk (i + 1) s')) ∧ I (i + 1) s') ∨ ∃ r, f (mk i s) = some (.inr r) ∧ Q r)
  (hend : ∀ s, I n s → ∃ r, f (mk n s) = some (.inr r) ∧ Q r) : ∃ r, iter f (mk 0 s0) = some r ∧ Q r := by
 have key : ∀ k i s, i + k = n → I i s → ∃ r, iter f (mk i s) = some r ∧ Q r := by
  intro k
  induction k with
  | zero =>
   intro i s hi hI
   have : i = n := by omega
   subst this
   obtain ⟨r, h1, h2⟩ := hend s hI
   exact ⟨r, by rw [iter_eq, h1], h2⟩
  | succ k ih =>
   intro i s hi hI
   rcases hstep i s (by omega) hI with ⟨s', h1, h2⟩ | ⟨r, h1, h2⟩
   ·obtain ⟨r, h3, h4⟩ := ih (i + 1) s' (by omega) h2
    exact ⟨r, by rw [iter_eq, h1]; exact h3, h4⟩
   ·exact ⟨r, by rw [iter_eq, h1], h2⟩
 exact key n 0 s0 (by omega) h0
theorem iter_allR {V R : Type} {f : V → Option (V ⊕ R)} {n : Nat} (mk : Nat → V) (p : Nat → Bool) (yes : R) (no : R)
  (h : ∀ i : Nat, i < n → (∀ j, j < i → p j = true) → f (mk i) = some (bif p i then .inl (mk (i + 1)) else .inr no)) (hend : f (mk n) = some (.inr yes)) :
  iter f (mk 0) = some (bif (List.range n).all p then yes else no) := by
 have key : ∀ (k i : Nat), i + k = n → (∀ j, j < i → p j = true) → iter f (mk i) = some (bif (List.range' i k).all p then yes else no) := by
  intro k
  induction k with
  | zero =>
   intro i hk _
   have : i = n := by omega
   subst this
   rw [iter_eq, hend]
   rfl
  | succ k ih =>
   intro i hk hj
   rw [iter_eq, h i (by omega) hj, List.range'_succ, List.all_cons]
   cases hs : p i with
   | false => rfl
   | true =>
    simp only [cond_true, Bool.true_and]
    exact ih (i + 1) (by omega) fun j hj' => by
     by_cases e : j = i
     ·rw [e]; exact hs
     ·exact hj j (by omega)
 have := key n 0 (by omega) fun j hj => absurd hj (Nat.not_lt_zero _)
 rw [List.range_eq_range']
 exact this
end Go.Proofs.YtnagpmhaddfgmaaGreat
/-
 Plain laws: what the laws' own helpers compute: sizes, copies, comparisons.
-/
namespace Go.Proofs.YtnagpmhaddfgmaaGreat
def Fit1 (l : List Int) : Prop := (l.length : Int) < 9223372036854775808
def Fit2 (x : List (List Int)) : Prop := (x.length : Int) < 9223372036854775808 ∧ ∀ r ∈ x, Fit1 r
def Low1 (l : List Int) : Prop := (l.length : Int) ≤ 1048576
def Low2 (x : List (List Int)) : Prop := (x.length : Int) ≤ 1048576 ∧ ∀ r ∈ x, Low1 r
theorem set_copy {α : Type} {l : List α} {i : Nat} {d : α} (h : i < l.length) (d' : α) : (l.take i ++ List.replicate (l.length - i) d).set i (l.getD i d') = l.take (i + 1) ++ List.replicate (l.length - (i + 1)) d := by
 have hl : (l.take i).length = i := by simp; omega
 rw [List.set_append_right _ _ (by omega), hl, Nat.sub_self, show l.length - i = (l.length - (i + 1)) + 1 by omega, List.replicate_succ, List.set_cons_zero, List.take_succ_eq_append_getElem h,
  List.getD_eq_getElem?_getD, List.getElem?_eq_getElem h, List.append_assoc]
 rfl
theorem copy_loop {α : Type} {f : Int × List α → Option ((Int × List α) ⊕ List α)} {l : List α} (d : α)
  (hstep : ∀ (i : Nat) (r : List α), i < l.length → r.length = l.length → f ((i : Int), r) = some (.inl (((i + 1 : Nat) : Int), r.set i (l.getD i d))))
  (hend : ∀ r : List α, f ((l.length : Int), r) = some (.inr r)) : iter f (0, List.replicate l.length d) = some l := by
 have := (iter_fold (f := f) (n := l.length) (mk := fun i (_ : Unit) => ((i : Int), l.take i ++ List.replicate (l.length - i) d)) (I := fun _ _ => True) (g := fun s _ => s) (fin := fun _ => l) (s0 := ()) trivial
  (fun i s hi _ => ⟨by
   rw [hstep i _ hi (by simp; omega), set_copy hi], trivial⟩)
  (fun s _ => by rw [hend]; simp)).1
 simpa using this
theorem all_getD {α : Type} [BEq α] [LawfulBEq α] {a b : List α} {d : α} (h : a.length = b.length) : ((List.range a.length).all fun i => a.getD i d == b.getD i d) = (a == b) := by
 rw [Bool.eq_iff_iff, List.all_eq_true, beq_iff_eq]
 constructor
 ·intro h1
  refine List.ext_getElem h fun i hi hi' => ?_
  have := h1 i (List.mem_range.2 hi)
  rw [List.getD_eq_getElem?_getD, List.getD_eq_getElem?_getD, List.getElem?_eq_getElem hi, List.getElem?_eq_getElem hi'] at this
  simpa using this
 ·rintro rfl i _
  simp
theorem int_ne (a b : Nat) : (((a : Nat) : Int) != ((b : Nat) : Int)) = !(decide (a = b)) := by
 by_cases h : a = b
 ·subst h; simp
 ·have : ((a : Nat) : Int) ≠ ((b : Nat) : Int) := by omega
  simp [h, bne, this]
theorem int_eq (a b : Nat) : (((a : Nat) : Int) == ((b : Nat) : Int)) = decide (a = b) := by
 by_cases h : a = b
 ·subst h; simp
 ·have : ((a : Nat) : Int) ≠ ((b : Nat) : Int) := by omega
  simp [h, this]
theorem eq_loop {α : Type} [BEq α] [LawfulBEq α] {f : Int → Option (Int ⊕ (Unit ⊕ Unit))} {a b : List α} (d : α) (hl : a.length = b.length)
  (hstep : ∀ i : Nat, i < a.length → f (i : Int) = some (bif a.getD i d == b.getD i d then .inl ((i + 1 : Nat) : Int) else .inr (.inr ())))
  (hend : f (a.length : Int) = some (.inr (.inl ()))) : iter f 0 = some (bif a == b then .inl () else .inr ()) := by
 have := iter_allR (f := f) (n := a.length) (mk := fun i => (i : Int)) (p := fun i => a.getD i d == b.getD i d) (yes := .inl ()) (no := .inr ()) (fun i hi _ => hstep i hi) hend
 rw [all_getD hl] at this
 exact this
theorem sz_loop {α : Type} {f : Int × Int → Option ((Int × Int) ⊕ (Int ⊕ Unit))} {l : List α} (d : α) (Q : α → Prop) {b : Int} (h0 : 0 ≤ b) (h1 : b ≤ 1048576)
  (hstep : ∀ (i : Nat) (s : Int), i < l.length → 0 ≤ s → s ≤ 1048576 → (∃ s', f (s, (i : Int)) = some (.inl (s', ((i + 1 : Nat) : Int))) ∧ 0 ≤ s' ∧ s' ≤ 1048576 ∧ Q (l.getD i d)) ∨ f (s, (i : Int)) = some (.inr (.inr ())))
  (hend : ∀ s, f (s, (l.length : Int)) = some (.inr (.inl s))) : iter f (b, 0) = some (.inr ()) ∨ ∃ s, iter f (b, 0) = some (.inl s) ∧ 0 ≤ s ∧ s ≤ 1048576 ∧ ∀ x ∈ l, Q x := by
 have := iter_inv (f := f) (n := l.length) (mk := fun i s => (s, (i : Int))) (I := fun i s => 0 ≤ s ∧ s ≤ 1048576 ∧ ∀ j, j < i → Q (l.getD j d)) (Q := fun r => r = .inr () ∨ ∃ s, r = .inl s ∧ 0 ≤ s ∧ s ≤ 1048576 ∧ ∀ x ∈ l, Q x) (s0 := b)
  ⟨h0, h1, fun j hj => absurd hj (Nat.not_lt_zero _)⟩ (fun i s hi hs => by
   rcases hstep i s hi hs.1 hs.2.1 with ⟨s', k1, k2, k3, k4⟩ | k
   ·exact .inl ⟨s', k1, k2, k3, fun j hj => by
     by_cases e : j = i
     ·rw [e]; exact k4
     ·exact hs.2.2 j (by omega)⟩
   ·exact .inr ⟨_, k, .inl rfl⟩) (fun s hs => ⟨_, hend s, .inr ⟨s, rfl, hs.1, hs.2.1, fun x hx => by
    obtain ⟨j, hj, e⟩ := List.getElem_of_mem hx
    have := hs.2.2 j hj
    rw [List.getD_eq_getElem?_getD, List.getElem?_eq_getElem hj] at this
    rw [← e]; exact this⟩⟩)
 obtain ⟨r, h2, h3⟩ := this
 rcases h3 with rfl | ⟨s, rfl, h4⟩
 ·exact .inl h2
 ·exact .inr ⟨s, h2, h4⟩
def Sz (o : Option Int) (Q : Prop) : Prop := ∃ r, o = some r ∧ r ≤ 1048576 ∧ (0 ≤ r → Q)
theorem szIntS_eq {l : List Int} {b : Int} (hl : Fit1 l) (h0 : 0 ≤ b) (h1 : b ≤ 1048576) : wcf l b = some (if b - (l.length : Int) < 0 then -1 else b - (l.length : Int)) := by
 unfold Fit1 at hl
 unfold wcf wnw
 simp (disch := omega) only [EV]
 split <;> rfl
theorem szIntS_sz {l : List Int} {b : Int} (hl : Fit1 l) (h0 : 0 ≤ b) (h1 : b ≤ 1048576) : Sz (wcf l b) (Low1 l) := by
 refine ⟨_, szIntS_eq hl h0 h1, ?_, fun h => ?_⟩
 ·split <;> omega
 ·unfold Low1
  split at h <;> omega
theorem szIntSS_sz {x : List (List Int)} {b : Int} (hx : Fit2 x) (h0 : 0 ≤ b) (h1 : b ≤ 1048576) : Sz (wjv x b) (Low2 x) := by
 obtain ⟨hx1, hx2⟩ := hx
 unfold wjv wnx
 simp (disch := omega) only [EV]
 by_cases hb : b - (x.length : Int) < 0
 ·simp (disch := omega) only [EV, hb]
  exact ⟨_, rfl, by omega, fun h => by omega⟩
 ·have := sz_loop (f := fun v => (waq x v).ev) (l := x) [] Low1 (b := b - (x.length : Int)) (by omega) (by omega) (fun i s hi k0 k1 => by
   obtain ⟨r, k2, k3, k4⟩ := szIntS_sz (hx2 _ (getD_mem (d := []) hi)) k0 k1
   simp (disch := omega) only [EV, waq, hi, k2]
   by_cases hr : r < 0
   ·right; simp (disch := omega) only [EV, hr]
   ·left
    simp (disch := omega) only [EV, hr]
    exact ⟨r, rfl, by omega, by omega, k4 (by omega)⟩) (fun s => by simp (disch := omega) only [EV, waq, Nat.lt_irrefl])
  rcases this with h | ⟨s, h, k0, k1, k2⟩
  ·simp (disch := omega) only [EV, hb, wcx, h]
   exact ⟨_, rfl, by omega, fun h => by omega⟩
  ·simp (disch := omega) only [EV, hb, wcx, h]
   exact ⟨_, rfl, by omega, fun _ => ⟨by omega, k2⟩⟩
theorem toIntS_eq {l : List Int} (hl : Low1 l) : wcz l = some l := by
 unfold Low1 at hl
 unfold wcz won
 rw [Tr.ev_g, show (decide ((0 : Int) ≤ ((l.length : Nat) : Int)) && decide (((l.length : Nat) : Int) ≤ ((l.length : Nat) : Int)) && decide (((8 : Nat) : Int) * ((l.length : Nat) : Int) ≤ 281474976710656)) = true by simp; omega]
 have := copy_loop (f := fun v => (war l v).ev) (l := l) 0 (fun i r hi hr => by simp (disch := omega) only [EV, war, hr, hi]; rfl) (fun r => by simp (disch := omega) only [EV, war, Nat.lt_irrefl])
 simp (disch := omega) only [EV, wgg, this]
theorem toIntSS_eq {x : List (List Int)} (hx : Low2 x) : wkc x = some x := by
 obtain ⟨hl, hr⟩ := hx
 unfold wkc wor
 rw [Tr.ev_g, show (decide ((0 : Int) ≤ ((x.length : Nat) : Int)) && decide (((x.length : Nat) : Int) ≤ ((x.length : Nat) : Int)) && decide (((24 : Nat) : Int) * ((x.length : Nat) : Int) ≤ 281474976710656)) = true by simp; omega]
 have := copy_loop (f := fun v => (wat x v).ev) (l := x) [] (fun i r hi hr' => by simp (disch := omega) only [EV, wat, hr', hi, toIntS_eq (hr _ (getD_mem (d := []) hi))]; rfl) (fun r => by simp (disch := omega) only [EV, wat, Nat.lt_irrefl])
 simp (disch := omega) only [EV, wgh, this]
theorem eqIntS_eq {a b : List Int} (ha : Low1 a) : wdk a b = some (a == b) := by
 unfold Low1 at ha
 unfold wdk wwu
 by_cases h : a.length = b.length
 ·have hs := eq_loop (f := fun v => (wbq (a, b) v).ev) (a := a) (b := b) 0 h (fun i hi => by
   have hi' : i < b.length := by omega
   simp (disch := omega) only [EV, wbq, hi, hi', bne]
   cases (a.getD i 0 == b.getD i 0) <;> rfl) (by simp (disch := omega) only [EV, wbq, Nat.lt_irrefl])
  simp (disch := omega) only [EV, int_ne, h, wje, hs]
  cases (a == b) <;> rfl
 ·have : (a == b) = false := by
   rw [beq_eq_false_iff_ne]
   exact fun e => h (by rw [e])
  simp (disch := omega) only [EV, int_ne, h, this]
theorem eqIntSS_eq {a b : List (List Int)} (ha : Low2 a) : wmj a b = some (a == b) := by
 obtain ⟨ha, hr⟩ := ha
 unfold wmj wwy
 by_cases h : a.length = b.length
 ·have hs := eq_loop (f := fun v => (wbr (a, b) v).ev) (a := a) (b := b) [] h (fun i hi => by
   have hi' : i < b.length := by omega
   simp (disch := omega) only [EV, wbr, hi, hi', eqIntS_eq (hr _ (getD_mem (d := []) hi))]
   cases (a.getD i [] == b.getD i []) <;> rfl) (by simp (disch := omega) only [EV, wbr, Nat.lt_irrefl])
  simp (disch := omega) only [EV, int_ne, h, wjf, hs]
  cases (a == b) <;> rfl
 ·have : (a == b) = false := by
   rw [beq_eq_false_iff_ne]
   exact fun e => h (by rw [e])
  simp (disch := omega) only [EV, int_ne, h, this]
end Go.Proofs.YtnagpmhaddfgmaaGreat
/-
 Plain laws: small functions of both sides; grounds.
-/
namespace Go.Proofs.YtnagpmhaddfgmaaGreat
theorem all_range {α : Type} (l : List α) (d : α) (p : α → Bool) : ((List.range l.length).all fun i => p (l.getD i d)) = l.all p := by
 induction l with
 | nil => rfl
 | cons x l ih =>
  rw [List.length_cons, List.range_succ_eq_map, List.all_cons, List.all_map, List.all_cons]
  exact congrArg (p x && ·) ih
def isIn (n a b : Int) : Bool := decide (a ≤ n) && decide (n ≤ b)
def allIn (l : List Int) (a b : Int) : Bool := l.all fun x => isIn x a b
theorem isIn_iff {n a b : Int} : isIn n a b = true ↔ a ≤ n ∧ n ≤ b := by simp [isIn]
theorem allIn_iff {l : List Int} {a b : Int} : allIn l a b = true ↔ ∀ x ∈ l, a ≤ x ∧ x ≤ b := by simp [allIn, isIn]
theorem allIn_getD {l : List Int} {a b : Int} (h : allIn l a b = true) {i : Nat} (hi : i < l.length) : a ≤ l.getD i 0 ∧ l.getD i 0 ≤ b := allIn_iff.1 h _ (getD_mem hi)
theorem l1In_eq (n a b : Int) : wac n a b = some (isIn n a b) := by
 unfold wac wpj isIn
 simp only [Tr.ev_t, Tr.ev_l]
 cases decide (a ≤ n) <;> rfl
theorem between_eq (n a b : Int) : wby n a b = some (isIn n a b) := by
 unfold wby wtq isIn
 simp only [Tr.ev_t, Tr.ev_l]
 cases decide (a ≤ n) <;> rfl
theorem l2Row_eq {l : List Int} (hl : Low1 l) (n b : Int) : wgk l n b = some (allIn l 0 b && ((l.length : Int) == n)) := by
 unfold Low1 at hl
 unfold wgk wpk
 have hs : wgj (l, (n, b)) 0 = _ := iter_allR (f := fun v => (wav (l, (n, b)) v).ev) (n := l.length) (mk := fun i => (i : Int)) (p := fun i => isIn (l.getD i 0) 0 b) (yes := .inl ()) (no := .inr ()) (fun i hi _ => by
  simp (disch := omega) only [EV, wav, hi, l1In_eq]
  cases isIn (l.getD i 0) 0 b <;> rfl) (by simp (disch := omega) only [EV, wav, Nat.lt_irrefl])
 rw [all_range l 0 (fun x => isIn x 0 b)] at hs
 simp (disch := omega) only [EV, hs]
 unfold allIn
 cases l.all fun x => isIn x 0 b <;> rfl
theorem iter_forE {V R α : Type} {f : V → Option (V ⊕ R)} {l : List α} (d : α) (q : α → Bool) (mk : Nat → V) (yes : Nat → R) (no : R)
  (h : ∀ i : Nat, i < l.length → f (mk i) = some (bif q (l.getD i d) then .inr (yes i) else .inl (mk (i + 1)))) (hend : f (mk l.length) = some (.inr no)) :
  iter f (mk 0) = some ((l.findIdx? q).elim no yes) := by
 have key : ∀ (k i : Nat), i + k = l.length → iter f (mk i) = some (((l.drop i).findIdx? q).elim no (fun j => yes (j + i))) := by
  intro k
  induction k with
  | zero =>
   intro i hk
   have : i = l.length := by omega
   subst this
   rw [iter_eq, hend]
   simp
  | succ k ih =>
   intro i hk
   rw [iter_eq, h i (by omega), List.drop_eq_getElem_cons (by omega), List.findIdx?_cons]
   have e : l.getD i d = l[i] := by rw [List.getD_eq_getElem?_getD, List.getElem?_eq_getElem (by omega)]; rfl
   rw [e]
   cases q l[i] with
   | true => simp
   | false =>
    simp only [cond_false, Bool.false_eq_true, if_false]
    rw [ih (i + 1) (by omega)]
    cases (l.drop (i + 1)).findIdx? q with
    | none => rfl
    | some j => simp [Nat.add_comm, Nat.add_left_comm]
 have := key l.length 0 (by omega)
 simpa using this
theorem findIdx_any {α : Type} {l : List α} {q : α → Bool} : l.any q = true ↔ (l.findIdx? q).isSome = true := by
 simp [List.findIdx?_isSome]
theorem indexFunc_int {l : List (Int)} (hl : (l.length : Int) < 9223372036854775807) {p : HL [.int .i64] → Option Bool} {q : Int → Bool} (hp : ∀ n ∈ l, p (n, ()) = some (q n)) :
  wll l p = some ((l.findIdx? q).elim (-1) (fun i => (i : Int))) := by
 unfold wll wtr
 have hs : whn (l, (p, ((l.length : Nat) : Int))) 0 = _ := iter_forE (f := fun v => (wbk (l, (p, ((l.length : Nat) : Int))) v).ev) (l := l) 0 q (mk := fun i => (i : Int)) (yes := fun i => .inr (i : Int)) (no := .inl ()) (fun i hi => by
  simp (disch := omega) only [EV, wbk, hi, hp _ (getD_mem hi)]
  cases q (l.getD i 0) <;> rfl) (by simp (disch := omega) only [EV, wbk, Nat.lt_irrefl])
 simp (disch := omega) only [EV, hs]
 cases l.findIdx? q <;> rfl
theorem containsFunc_int {l : List (Int)} (hl : (l.length : Int) < 9223372036854775807) {p : HL [.int .i64] → Option Bool} {q : Int → Bool} (hp : ∀ n ∈ l, p (n, ()) = some (q n)) :
  wlm l p = some (l.any q) := by
 unfold wlm wtx
 simp (disch := omega) only [EV, indexFunc_int hl hp]
 congr 1
 rw [Bool.eq_iff_iff, findIdx_any]
 cases l.findIdx? q <;> simp
theorem indexFunc_Sint {l : List (List Int)} (hl : (l.length : Int) < 9223372036854775807) {p : HL [.slice (.int .i64)] → Option Bool} {q : List Int → Bool} (hp : ∀ n ∈ l, p (n, ()) = some (q n)) :
  wlp l p = some ((l.findIdx? q).elim (-1) (fun i => (i : Int))) := by
 unfold wlp wty
 have hs : whp (l, (p, ((l.length : Nat) : Int))) 0 = _ := iter_forE (f := fun v => (wbl (l, (p, ((l.length : Nat) : Int))) v).ev) (l := l) [] q (mk := fun i => (i : Int)) (yes := fun i => .inr (i : Int)) (no := .inl ()) (fun i hi => by
  simp (disch := omega) only [EV, wbl, hi, hp _ (getD_mem hi)]
  cases q (l.getD i []) <;> rfl) (by simp (disch := omega) only [EV, wbl, Nat.lt_irrefl])
 simp (disch := omega) only [EV, hs]
 cases l.findIdx? q <;> rfl
theorem containsFunc_Sint {l : List (List Int)} (hl : (l.length : Int) < 9223372036854775807) {p : HL [.slice (.int .i64)] → Option Bool} {q : List Int → Bool} (hp : ∀ n ∈ l, p (n, ()) = some (q n)) :
  wlq l p = some (l.any q) := by
 unfold wlq wud
 simp (disch := omega) only [EV, indexFunc_Sint hl hp]
 congr 1
 rw [Bool.eq_iff_iff, findIdx_any]
 cases l.findIdx? q <;> simp
theorem areBetween_eq {l : List Int} (hl : Low1 l) (a b : Int) : F_zx l a b = some (allIn l a b) := by
 unfold Low1 at hl
 unfold F_zx T_zx
 rw [Tr.ev_c, containsFunc_int (by omega) (q := fun n => !(isIn n a b)) fun n _ => by
  unfold F_zy T_zy
  simp (disch := omega) only [EV, between_eq]]
 simp (disch := omega) only [EV]
 unfold allIn
 rw [List.any_eq_not_all_not]
 simp
end Go.Proofs.YtnagpmhaddfgmaaGreat
/-
 Plain laws: marks that are written into a result, and read again.
-/
namespace Go.Proofs.YtnagpmhaddfgmaaGreat
def markL (k : Int) (n : Nat) : List Int := (List.range n).map fun (i : Nat) => k + (i : Int)
theorem markL_len (k : Int) (n : Nat) : (markL k n).length = n := by simp [markL]
theorem markL_succ (k : Int) (n : Nat) : markL k (n + 1) = markL k n ++ [k + (n : Int)] := by simp [markL, List.range_succ]
theorem markL_getD {k : Int} {n i : Nat} (h : i < n) : (markL k n).getD i 0 = k + (i : Int) := by
 simp [markL, List.getD_eq_getElem?_getD, h]
theorem mark_set (k : Int) {l : List Int} {i : Nat} (h : i < l.length) : (markL k i ++ l.drop i).set i (k + (i : Int)) = markL k (i + 1) ++ l.drop (i + 1) := by
 rw [List.set_append_right _ _ (by rw [markL_len]; omega), markL_len, Nat.sub_self, List.drop_eq_getElem_cons h, List.set_cons_zero, markL_succ, List.append_assoc]
 rfl
theorem markIntS_eq {l : List Int} (hl : Low1 l) {k : Int} (h0 : 0 ≤ k) (h1 : k ≤ 4611686018427387904) : wge k l = some (k + (l.length : Int), markL k l.length) := by
 unfold Low1 at hl
 unfold wge wxo
 have hs := (iter_fold (f := fun v => (wbt () v).ev) (n := l.length) (mk := fun i (_ : Unit) => (k + (i : Int), ((i : Int), markL k i ++ l.drop i))) (I := fun _ _ => True) (g := fun s _ => s) (fin := fun _ => (k + (l.length : Int), markL k l.length)) (s0 := ()) trivial
  (fun i s hi _ => ⟨by
   have hlen : (markL k i ++ l.drop i).length = l.length := by simp [markL_len]; omega
   simp (disch := omega) only [EV, wbt, hlen, hi, mark_set k hi, ← Int.add_assoc]
   congr 1; congr 1; congr 1
   omega, trivial⟩)
  (fun s _ => by
   have hlen : (markL k l.length ++ l.drop l.length).length = l.length := by simp [markL_len]
   simp (disch := omega) only [EV, wbt, markL_len, Nat.lt_irrefl, List.drop_length, List.append_nil])).1
 simp only [show markL k 0 ++ l.drop 0 = l by simp [markL], Int.natCast_zero, Int.add_zero] at hs
 simp (disch := omega) only [EV, wjh, hs]
theorem heldIntS_eq {n : Nat} (hn : (n : Int) ≤ 1048576) {k : Int} (h0 : 0 ≤ k) (h1 : k ≤ 4611686018427387904) : wgf (markL k n) k = some (k + (n : Int)) := by
 unfold wgf wyd
 have hs := (iter_fold (f := fun v => (wbv (markL k n) v).ev) (n := n) (mk := fun i (_ : Unit) => (k + (i : Int), (i : Int))) (I := fun _ _ => True) (g := fun s _ => s) (fin := fun _ => .inl (k + (n : Int))) (s0 := ()) trivial
  (fun i s hi _ => ⟨by
   simp (disch := omega) only [EV, wbv, markL_len, hi, markL_getD hi, bne_self_eq_false]
   congr 1; congr 1; congr 1
   omega, trivial⟩)
  (fun s _ => by simp (disch := omega) only [EV, wbv, markL_len, Nat.lt_irrefl])).1
 simp only [Int.natCast_zero, Int.add_zero] at hs
 simp (disch := omega) only [EV, wjl, hs]
def markLL : Int → List (List Int) → List (List Int)
 | _, [] => []
 | k, r :: x => markL k r.length :: markLL (k + (r.length : Int)) x
def tot : Int → List (List Int) → Int
 | k, [] => k
 | k, r :: x => tot (k + (r.length : Int)) x
theorem tot_snoc (r : List Int) : ∀ (x : List (List Int)) (k : Int), tot k (x ++ [r]) = tot k x + (r.length : Int)
 | [], k => rfl
 | q :: x, k => by simp only [List.cons_append, tot]; exact tot_snoc r x _
theorem markLL_snoc (r : List Int) : ∀ (x : List (List Int)) (k : Int), markLL k (x ++ [r]) = markLL k x ++ [markL (tot k x) r.length]
 | [], k => rfl
 | q :: x, k => by simp only [List.cons_append, markLL, tot]; rw [markLL_snoc r x]
theorem markLL_len : ∀ (x : List (List Int)) (k : Int), (markLL k x).length = x.length
 | [], _ => rfl
 | q :: x, k => by simp [markLL, markLL_len x]
theorem tot_bound : ∀ {x : List (List Int)} {k : Int}, (∀ r ∈ x, Low1 r) → k ≤ tot k x ∧ tot k x ≤ k + (x.length : Int) * 1048576
 | [], k, _ => by simp [tot]
 | r :: x, k, h => by
  have h1 := h r List.mem_cons_self
  unfold Low1 at h1
  obtain ⟨h2, h3⟩ := tot_bound (x := x) (k := k + (r.length : Int)) fun r hr => h r (List.mem_cons_of_mem _ hr)
  simp only [tot, List.length_cons]
  constructor
  ·omega
  ·have : ((x.length + 1 : Nat) : Int) * 1048576 = (x.length : Int) * 1048576 + 1048576 := by omega
   omega
theorem take_snoc {α : Type} {l : List α} {i : Nat} (d : α) (h : i < l.length) : l.take (i + 1) = l.take i ++ [l.getD i d] := by
 rw [List.take_succ_eq_append_getElem h, List.getD_eq_getElem?_getD, List.getElem?_eq_getElem h]
 rfl
theorem tot_take {x : List (List Int)} (hx : Low2 x) {k : Int} (i : Nat) : k ≤ tot k (x.take i) ∧ tot k (x.take i) ≤ k + 1099511627776 := by
 obtain ⟨h1, h2⟩ := tot_bound (x := x.take i) (k := k) fun r hr => hx.2 r (List.mem_of_mem_take hr)
 have h3 : ((x.take i).length : Int) ≤ 1048576 := by
  have := hx.1
  rw [List.length_take]
  omega
 refine ⟨h1, ?_⟩
 have : ((x.take i).length : Int) * 1048576 ≤ 1048576 * 1048576 := Int.mul_le_mul_of_nonneg_right h3 (by omega)
 omega
theorem markIntSS_eq {x : List (List Int)} (hx : Low2 x) {k : Int} (h0 : 0 ≤ k) (h1 : k ≤ 2305843009213693952) : wmn k x = some (tot k x, markLL k x) := by
 have hl := hx.1
 unfold wmn wxs
 have hs := (iter_fold (f := fun v => (wbu () v).ev) (n := x.length) (mk := fun i (_ : Unit) => (tot k (x.take i), ((i : Int), markLL k (x.take i) ++ x.drop i))) (I := fun _ _ => True) (g := fun s _ => s) (fin := fun _ => (tot k x, markLL k x)) (s0 := ()) trivial
  (fun i s hi _ => ⟨by
   have hml : (markLL k (x.take i)).length = i := by rw [markLL_len, List.length_take]; omega
   have hlen : (markLL k (x.take i) ++ x.drop i).length = x.length := by rw [List.length_append, hml, List.length_drop]; omega
   have hget : (markLL k (x.take i) ++ x.drop i).getD i [] = x.getD i [] := by
    rw [List.getD_eq_getElem?_getD, List.getElem?_append_right (by omega), hml, Nat.sub_self, List.getElem?_drop, List.getD_eq_getElem?_getD, Nat.add_zero]
   have hb := tot_take hx (k := k) i
   have hset : (markLL k (x.take i) ++ x.drop i).set i (markL (tot k (x.take i)) (x.getD i []).length) = markLL k (x.take (i + 1)) ++ x.drop (i + 1) := by
    rw [List.set_append_right _ _ (by omega), hml, Nat.sub_self, List.drop_eq_getElem_cons hi, List.set_cons_zero, take_snoc [] hi, markLL_snoc, List.append_assoc]
    rfl
   have htot : tot k (x.take (i + 1)) = tot k (x.take i) + ((x.getD i []).length : Int) := by rw [take_snoc [] hi, tot_snoc]
   simp (disch := omega) only [EV, wbu, hlen, hi, hget, markIntS_eq (hx.2 _ (getD_mem (d := []) hi)) (k := tot k (x.take i)) (by omega) (by omega), hset, htot]
   rfl, trivial⟩)
  (fun s _ => by
   have hlen : (markLL k (x.take x.length) ++ x.drop x.length).length = x.length := by simp [markLL_len]
   simp (disch := omega) only [EV, wbu, markLL_len, Nat.lt_irrefl, List.drop_length, List.append_nil, List.take_length])).1
 simp only [List.take_zero, List.drop_zero, markLL, tot, List.nil_append, Int.natCast_zero] at hs
 simp (disch := omega) only [EV, wjj, hs]
theorem markLL_getD : ∀ (x : List (List Int)) (k : Int) (i : Nat), i < x.length → (markLL k x).getD i [] = markL (tot k (x.take i)) (x.getD i []).length
 | [], _, _, h => by simp at h
 | r :: x, k, 0, _ => rfl
 | r :: x, k, i + 1, h => by
  simp only [markLL, List.getD_cons_succ, List.take_succ_cons, tot]
  exact markLL_getD x _ i (by simpa using h)
theorem heldIntSS_eq {x : List (List Int)} (hx : Low2 x) {k : Int} (h0 : 0 ≤ k) (h1 : k ≤ 2305843009213693952) : wmp (markLL k x) k = some (tot k x) := by
 have hl := hx.1
 unfold wmp wyh
 have hs := (iter_fold (f := fun v => (wbw (markLL k x) v).ev) (n := x.length) (mk := fun i (_ : Unit) => (tot k (x.take i), (i : Int))) (I := fun _ _ => True) (g := fun s _ => s) (fin := fun _ => .inl (tot k x)) (s0 := ()) trivial
  (fun i s hi _ => ⟨by
   have hb := tot_take hx (k := k) i
   have hr := hx.2 _ (getD_mem (d := []) hi)
   have htot : tot k (x.take (i + 1)) = tot k (x.take i) + ((x.getD i []).length : Int) := by rw [take_snoc [] hi, tot_snoc]
   have hneg : ¬ tot k (x.take i) + ((x.getD i []).length : Int) < 0 := by omega
   simp (disch := omega) only [EV, wbw, markLL_len, hi, markLL_getD x k i hi, heldIntS_eq hr (k := tot k (x.take i)) (by omega) (by omega), hneg, htot]
   rfl, trivial⟩)
  (fun s _ => by simp (disch := omega) only [EV, wbw, markLL_len, Nat.lt_irrefl, List.take_length])).1
 simp only [List.take_zero, tot, Int.natCast_zero] at hs
 simp (disch := omega) only [EV, wjn, hs]
theorem markField_eq {o : List Int} {ds : List (List Int)} (ho : Low1 o) (hd : Low2 ds) {k : Int} (h0 : 0 ≤ k) (h1 : k ≤ 1099511627776) : ∃ m, wmo k o ds = some (m, markL k o.length, markLL (k + (o.length : Int)) ds) ∧ m = tot (k + (o.length : Int)) ds ∧ k ≤ m ∧ m ≤ k + 2199023255552 := by
 have hl := ho
 unfold Low1 at hl
 have hb := tot_take hd (k := k + (o.length : Int)) ds.length
 rw [List.take_length] at hb
 unfold wmo wxy
 simp (disch := omega) only [EV, markIntS_eq ho h0 (by omega), markIntSS_eq hd (k := k + (o.length : Int)) (by omega) (by omega)]
 exact ⟨_, rfl, rfl, by omega, by omega⟩
theorem heldField_eq {o : List Int} {ds : List (List Int)} (ho : Low1 o) (hd : Low2 ds) {k : Int} (h0 : 0 ≤ k) (h1 : k ≤ 1099511627776) : wmq (markL k o.length) (markLL (k + (o.length : Int)) ds) k = some (tot (k + (o.length : Int)) ds) := by
 have hl := ho
 unfold Low1 at hl
 have hb := tot_take hd (k := k + (o.length : Int)) ds.length
 rw [List.take_length] at hb
 have hn : ¬ k + (o.length : Int) < 0 := by omega
 have hn2 : ¬ tot (k + (o.length : Int)) ds < 0 := by omega
 unfold wmq wym
 simp (disch := omega) only [EV, heldIntS_eq (n := o.length) hl h0 (by omega), hn, heldIntSS_eq hd (k := k + (o.length : Int)) (by omega) (by omega), hn2]
end Go.Proofs.YtnagpmhaddfgmaaGreat
/-
 Plain laws: the first one of the least ones.
-/
namespace Go.Proofs.YtnagpmhaddfgmaaGreat
def lstMin : List Int → Int
 | [] => 0
 | x :: l => l.foldl min x
theorem foldl_min_spec : ∀ (l : List Int) (a : Int), (l.foldl min a = a ∨ l.foldl min a ∈ l) ∧ l.foldl min a ≤ a ∧ ∀ x ∈ l, l.foldl min a ≤ x
 | [], a => ⟨.inl rfl, Int.le_refl _, fun x h => by cases h⟩
 | y :: l, a => by
  obtain ⟨h1, h2, h3⟩ := foldl_min_spec l (min a y)
  simp only [List.foldl_cons]
  refine ⟨?_, by omega, fun x hx => ?_⟩
  ·rcases h1 with h1 | h1
   ·rw [h1]
    rcases Int.le_total a y with h | h
    ·left; omega
    ·right; rw [Int.min_eq_right h]; exact List.mem_cons_self
   ·exact .inr (List.mem_cons_of_mem _ h1)
  ·rcases List.mem_cons.1 hx with rfl | hx
   ·omega
   ·exact h3 x hx
theorem lstMin_spec {l : List Int} (h : l ≠ []) : lstMin l ∈ l ∧ ∀ x ∈ l, lstMin l ≤ x := by
 cases l with
 | nil => exact absurd rfl h
 | cons a l =>
  obtain ⟨h1, h2, h3⟩ := foldl_min_spec l a
  refine ⟨?_, fun x hx => ?_⟩
  ·rcases h1 with h1 | h1
   ·show l.foldl min a ∈ a :: l
    rw [h1]; exact List.mem_cons_self
   ·exact List.mem_cons_of_mem _ h1
  ·rcases List.mem_cons.1 hx with rfl | hx
   ·exact h2
   ·exact h3 x hx
def firstMin (g : List Int → Int) (l : List (List Int)) : List Int := (l.find? fun s => decide (g s = lstMin (l.map g))).getD []
theorem firstMin_spec {g : List Int → Int} {l : List (List Int)} (h : l ≠ []) : firstMin g l ∈ l ∧ g (firstMin g l) = lstMin (l.map g) := by
 obtain ⟨h1, _⟩ := lstMin_spec (l := l.map g) (by simpa using h)
 obtain ⟨s, hs, e⟩ := List.mem_map.1 h1
 unfold firstMin
 cases hf : l.find? fun s => decide (g s = lstMin (l.map g)) with
 | none =>
  have := List.find?_eq_none.1 hf s hs
  simp at this
  exact absurd e this
 | some t =>
  have := List.find?_some hf
  exact ⟨List.mem_of_find?_eq_some hf, by simpa using this⟩
theorem lstMin_snoc {l : List Int} (h : l ≠ []) (x : Int) : lstMin (l ++ [x]) = min (lstMin l) x := by
 cases l with
 | nil => exact absurd rfl h
 | cons a l => simp [lstMin, List.foldl_append]
theorem firstMin_snoc {g : List Int → Int} {l : List (List Int)} (h : l ≠ []) (s : List Int) : firstMin g (l ++ [s]) = if g s < g (firstMin g l) then s else firstMin g l := by
 obtain ⟨h1, h2⟩ := firstMin_spec (g := g) h
 have hm : l.map g ≠ [] := by simpa using h
 have hle := (lstMin_spec hm).2
 rw [h2]
 unfold firstMin
 rw [List.map_append, List.map_singleton, lstMin_snoc hm, List.find?_append]
 by_cases hs : g s < lstMin (l.map g)
 ·rw [if_pos hs, Int.min_eq_right (by omega)]
  have : l.find? (fun t => decide (g t = g s)) = none := List.find?_eq_none.2 fun t ht => by
   have := hle (g t) (List.mem_map_of_mem ht)
   simp only [decide_eq_true_eq]
   omega
  rw [this]
  simp
 ·rw [if_neg hs, Int.min_eq_left (by omega)]
  cases hf : l.find? (fun t => decide (g t = lstMin (l.map g))) with
  | some t => rfl
  | none =>
   have := List.find?_eq_none.1 hf _ h1
   rw [h2] at this
   simp at this
theorem firstMin_one {g : List Int → Int} (s : List Int) : firstMin g [s] = s := by
 unfold firstMin
 simp [lstMin]
end Go.Proofs.YtnagpmhaddfgmaaGreat
