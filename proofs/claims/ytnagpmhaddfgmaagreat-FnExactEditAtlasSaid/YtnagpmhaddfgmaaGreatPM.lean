/-
 Plain rules: evaluation of trees, rounds that count.
-/
import Derived.Test.YtnagpmhaddfgmaaGreatB28
import Derived.Test.YtnagpmhaddfgmaaGreatC1
namespace Go.Proofs.YtnagpmhaddfgmaaGreat
theorem wacp {A B L : Type} (a : A) (k : A → Tr L) (k' : B → Tr L) : (Tr.s A B (.inl a) k k').ev = (k a).ev := rfl
theorem wata {A B L : Type} (a : B) (k : A → Tr L) (k' : B → Tr L) : (Tr.s A B (.inr a) k k').ev = (k' a).ev := rfl
theorem watb (i n : Nat) : inR (i : Int) n = decide (i < n) := by
 unfold inR; simp
theorem weg {i : Int} {n : Nat} (h0 : 0 ≤ i) (h1 : i < n) : inR i n = true := by unfold inR; simp; omega
theorem getD_mem {α : Type} {l : List α} {i : Nat} {d : α} (h : i < l.length) : l.getD i d ∈ l := by
 rw [List.getD_eq_getElem?_getD, List.getElem?_eq_getElem h]
 exact List.getElem_mem h
theorem EV : (∀ {L : Type} (b : Bool) (x y : Tr L), (Tr.t b x y).ev = bif b then x.ev else y.ev) ∧
  (∀ {L : Type} (R : Type) (x : Option R) (k : R → Tr L), (Tr.c R x k).ev = x.bind fun r => (k r).ev) ∧
  (∀ {L : Type} (b : Bool) (x : Tr L), (Tr.g b x).ev = bif b then x.ev else none) ∧
  (∀ {L : Type} (x : L), (Tr.l x).ev = some x) ∧
  (∀ {A B L : Type} (a : A) (k : A → Tr L) (k' : B → Tr L), (Tr.s A B (.inl a) k k').ev = (k a).ev) ∧
  (∀ {A B L : Type} (a : B) (k : A → Tr L) (k' : B → Tr L), (Tr.s A B (.inr a) k k').ev = (k' a).ev) ∧
  (∀ i n : Nat, inR (i : Int) n = decide (i < n)) ∧
  (∀ {i : Int} {n : Nat}, 0 ≤ i → i < n → inR i n = true) ∧
  (∀ {n m : Nat}, ((n : Int) < (m : Int)) ↔ n < m) ∧
  (∀ h : Decidable True, @decide True h = true) ∧
  (∀ h : Decidable False, @decide False h = false) ∧
  (∀ {α : Type} (a b : α), (bif true then a else b) = a) ∧
  (∀ {α : Type} (a b : α), (bif false then a else b) = b) ∧
  (∀ {α β : Type} (a : α) (f : α → Option β), (some a).bind f = f a) ∧
  (∀ n : Nat, ((n : Int)).toNat = n) ∧
  (∀ {n : Int}, -9223372036854775808 ≤ n → n < 9223372036854775808 → IntKind.wrap .i64 n = n) ∧
  ((!true) = false) ∧ ((!false) = true) ∧ (∀ b : Bool, (true && b) = b) ∧ (∀ b : Bool, (b && true) = b) ∧ (∀ b : Bool, (false && b) = false) ∧ (∀ b : Bool, (b && false) = false) ∧
  (∀ {α : Type} (p : Prop) (h : Decidable p) (a b : α), (bif @decide p h then a else b) = if p then a else b) ∧
  (∀ {α : Type} (h : Decidable True) (a b : α), (@ite α True h a b) = a) ∧
  (∀ {α : Type} (h : Decidable False) (a b : α), (@ite α False h a b) = b) := by
 refine ⟨fun b x y => rfl, fun R x k => rfl, fun b x => rfl, fun x => rfl, fun a k k' => rfl, fun a k k' => rfl, watb, weg, Int.ofNat_lt, fun h => by simp, fun h => by simp, fun a b => rfl, fun a b => rfl, fun a f => rfl, fun n => rfl, wrap64,
  rfl, rfl, fun b => by simp, fun b => by simp, fun b => by simp, fun b => by simp, fun p h a b => ?_, fun h a b => by simp, fun h a b => by simp⟩
 by_cases hp : p <;> simp [hp]
theorem wbg {S : Type} (g : S → Nat → S) (s : S) (n : Nat) : (List.range (n + 1)).foldl g s = g ((List.range n).foldl g s) n := by
 rw [List.range_succ, List.foldl_append]; rfl
theorem wap {V S R : Type} {f : V → Option (V ⊕ R)} {n : Nat} (mk : Nat → S → V) (I : Nat → S → Prop) (g : S → Nat → S) (fin : S → R) {s0 : S} (h0 : I 0 s0)
  (hstep : ∀ i s, i < n → I i s → f (mk i s) = some (.inl (mk (i + 1) (g s i))) ∧ I (i + 1) (g s i))
  (hend : ∀ s, I n s → f (mk n s) = some (.inr (fin s))) :
  iter f (mk 0 s0) = some (fin ((List.range n).foldl g s0)) ∧ I n ((List.range n).foldl g s0) := by
 have hI : ∀ i, i ≤ n → I i ((List.range i).foldl g s0) := by
  intro i
  induction i with
  | zero => intro _; exact h0
  | succ i ih => intro hi; rw [wbg]; exact (hstep i _ (by omega) (ih (by omega))).2
 have key : ∀ k i, i + k = n → iter f (mk i ((List.range i).foldl g s0)) = some (fin ((List.range n).foldl g s0)) := by
  intro k
  induction k with
  | zero =>
   intro i hi
   have : i = n := by omega
   subst this
   rw [wbn, hend _ (hI i (Nat.le_refl _))]
  | succ k ih =>
   intro i hi
   rw [wbn, (hstep i _ (by omega) (hI i (by omega))).1]
   have := ih (i + 1) (by omega)
   rw [wbg] at this
   exact this
 exact ⟨key n 0 (by omega), hI n (Nat.le_refl _)⟩
theorem waey {α S : Type} (l : List α) (d : α) (g : S → α → S) (s : S) : (List.range l.length).foldl (fun s i => g s (l.getD i d)) s = l.foldl g s := by
 induction l generalizing s with
 | nil => rfl
 | cons x l ih =>
  rw [List.length_cons, List.range_succ_eq_map, List.foldl_cons, List.foldl_map, List.foldl_cons]
  exact ih _
theorem wjs {V S R α : Type} {f : V → Option (V ⊕ R)} (l : List α) (d : α) (mk : Nat → S → V) (I : Nat → S → Prop) (g : S → α → S) (fin : S → R) {s0 : S} (h0 : I 0 s0)
  (hstep : ∀ i s, i < l.length → I i s → f (mk i s) = some (.inl (mk (i + 1) (g s (l.getD i d)))) ∧ I (i + 1) (g s (l.getD i d)))
  (hend : ∀ s, I l.length s → f (mk l.length s) = some (.inr (fin s))) :
  iter f (mk 0 s0) = some (fin (l.foldl g s0)) ∧ I l.length (l.foldl g s0) := by
 have := wap mk I (fun s i => g s (l.getD i d)) fin h0 hstep hend
 rw [waey] at this
 exact this
theorem watc {V S R : Type} {f : V → Option (V ⊕ R)} {n : Nat} (mk : Nat → S → V) (I : Nat → S → Prop) (Q : R → Prop) {s0 : S} (h0 : I 0 s0)
  (hstep : ∀ i s, i < n → I i s → (∃ s', f (mk i s) = some (.inl (mk (i + 1) s')) ∧ I (i + 1) s') ∨ ∃ r, f (mk i s) = some (.inr r) ∧ Q r)
  (hend : ∀ s, I n s → ∃ r, f (mk n s) = some (.inr r) ∧ Q r) : ∃ r, iter f (mk 0 s0) = some r ∧ Q r := by
 have key : ∀ k i s, i + k = n → I i s → ∃ r, iter f (mk i s) = some r ∧ Q r := by
  intro k
  induction k with
  | zero =>
   intro i s hi hI
   have : i = n := by omega
   subst this
   obtain ⟨r, h1, h2⟩ := hend s hI
   exact ⟨r, by rw [wbn, h1], h2⟩
  | succ k ih =>
   intro i s hi hI
   rcases hstep i s (by omega) hI with ⟨s', h1, h2⟩ | ⟨r, h1, h2⟩
   ·obtain ⟨r, h3, h4⟩ := ih (i + 1) s' (by omega) h2
    exact ⟨r, by rw [wbn, h1]; exact h3, h4⟩
   ·exact ⟨r, by rw [wbn, h1], h2⟩
 exact key n 0 s0 (by omega) h0
theorem wfv {V R : Type} {f : V → Option (V ⊕ R)} {n : Nat} (mk : Nat → V) (p : Nat → Bool) (yes : R) (no : R)
  (h : ∀ i : Nat, i < n → (∀ j, j < i → p j = true) → f (mk i) = some (bif p i then .inl (mk (i + 1)) else .inr no)) (hend : f (mk n) = some (.inr yes)) :
  iter f (mk 0) = some (bif (List.range n).all p then yes else no) := by
 have key : ∀ (k i : Nat), i + k = n → (∀ j, j < i → p j = true) → iter f (mk i) = some (bif (List.range' i k).all p then yes else no) := by
  intro k
  induction k with
  | zero =>
   intro i hk _
   have : i = n := by omega
   subst this
   rw [wbn, hend]
   rfl
  | succ k ih =>
   intro i hk hj
   rw [wbn, h i (by omega) hj, List.range'_succ, List.all_cons]
   cases hs : p i with
   | false => rfl
   | true =>
    simp only [cond_true, Bool.true_and]
    exact ih (i + 1) (by omega) fun j hj' => by
     by_cases e : j = i
     ·rw [e]; exact hs
     ·exact hj j (by omega)
 have := key n 0 (by omega) fun j hj => absurd hj (Nat.not_lt_zero _)
 rw [List.range_eq_range']
 exact this
end Go.Proofs.YtnagpmhaddfgmaaGreat
/-
 Plain laws: what the laws' own helpers compute: sizes, copies, comparisons.
-/
namespace Go.Proofs.YtnagpmhaddfgmaaGreat
def Fit1 (l : List Int) : Prop := (l.length : Int) < 9223372036854775808
def Fit2 (x : List (List Int)) : Prop := (x.length : Int) < 9223372036854775808 ∧ ∀ r ∈ x, Fit1 r
def waw (l : List Int) : Prop := (l.length : Int) ≤ 1048576
def wfw (x : List (List Int)) : Prop := (x.length : Int) ≤ 1048576 ∧ ∀ r ∈ x, waw r
theorem wate {α : Type} {l : List α} {i : Nat} {d : α} (h : i < l.length) (d' : α) : (l.take i ++ List.replicate (l.length - i) d).set i (l.getD i d') = l.take (i + 1) ++ List.replicate (l.length - (i + 1)) d := by
 have hl : (l.take i).length = i := by simp; omega
 rw [List.set_append_right _ _ (by omega), hl, Nat.sub_self, show l.length - i = (l.length - (i + 1)) + 1 by omega, List.replicate_succ, List.set_cons_zero, List.take_succ_eq_append_getElem h,
  List.getD_eq_getElem?_getD, List.getElem?_eq_getElem h, List.append_assoc]
 rfl
theorem wvg {α : Type} {f : Int × List α → Option ((Int × List α) ⊕ List α)} {l : List α} (d : α)
  (hstep : ∀ (i : Nat) (r : List α), i < l.length → r.length = l.length → f ((i : Int), r) = some (.inl (((i + 1 : Nat) : Int), r.set i (l.getD i d))))
  (hend : ∀ r : List α, f ((l.length : Int), r) = some (.inr r)) : iter f (0, List.replicate l.length d) = some l := by
 have := (wap (f := f) (n := l.length) (mk := fun i (_ : Unit) => ((i : Int), l.take i ++ List.replicate (l.length - i) d)) (I := fun _ _ => True) (g := fun s _ => s) (fin := fun _ => l) (s0 := ()) trivial
  (fun i s hi _ => ⟨by
   rw [hstep i _ hi (by simp; omega), wate hi], trivial⟩)
  (fun s _ => by rw [hend]; simp)).1
 simpa using this
theorem watf {α : Type} [BEq α] [LawfulBEq α] {a b : List α} {d : α} (h : a.length = b.length) : ((List.range a.length).all fun i => a.getD i d == b.getD i d) = (a == b) := by
 rw [Bool.eq_iff_iff, List.all_eq_true, beq_iff_eq]
 constructor
 ·intro h1
  refine List.ext_getElem h fun i hi hi' => ?_
  have := h1 i (List.mem_range.2 hi)
  rw [List.getD_eq_getElem?_getD, List.getD_eq_getElem?_getD, List.getElem?_eq_getElem hi, List.getElem?_eq_getElem hi'] at this
  simpa using this
 ·rintro rfl i _
  simp
theorem int_ne (a b : Nat) : (((a : Nat) : Int) != ((b : Nat) : Int)) = !(decide (a = b)) := by
 by_cases h : a = b
 ·subst h; simp
 ·have : ((a : Nat) : Int) ≠ ((b : Nat) : Int) := by omega
  simp [h, bne, this]
theorem int_eq (a b : Nat) : (((a : Nat) : Int) == ((b : Nat) : Int)) = decide (a = b) := by
 by_cases h : a = b
 ·subst h; simp
 ·have : ((a : Nat) : Int) ≠ ((b : Nat) : Int) := by omega
  simp [h, this]
theorem walb {α : Type} [BEq α] [LawfulBEq α] {f : Int → Option (Int ⊕ (Unit ⊕ Unit))} {a b : List α} (d : α) (hl : a.length = b.length)
  (hstep : ∀ i : Nat, i < a.length → f (i : Int) = some (bif a.getD i d == b.getD i d then .inl ((i + 1 : Nat) : Int) else .inr (.inr ())))
  (hend : f (a.length : Int) = some (.inr (.inl ()))) : iter f 0 = some (bif a == b then .inl () else .inr ()) := by
 have := wfv (f := f) (n := a.length) (mk := fun i => (i : Int)) (p := fun i => a.getD i d == b.getD i d) (yes := .inl ()) (no := .inr ()) (fun i hi _ => hstep i hi) hend
 rw [watf hl] at this
 exact this
theorem wbkb {α : Type} {f : Int × Int → Option ((Int × Int) ⊕ (Int ⊕ Unit))} {l : List α} (d : α) (Q : α → Prop) {b : Int} (h0 : 0 ≤ b) (h1 : b ≤ 1048576)
  (hstep : ∀ (i : Nat) (s : Int), i < l.length → 0 ≤ s → s ≤ 1048576 → (∃ s', f (s, (i : Int)) = some (.inl (s', ((i + 1 : Nat) : Int))) ∧ 0 ≤ s' ∧ s' ≤ 1048576 ∧ Q (l.getD i d)) ∨ f (s, (i : Int)) = some (.inr (.inr ())))
  (hend : ∀ s, f (s, (l.length : Int)) = some (.inr (.inl s))) : iter f (b, 0) = some (.inr ()) ∨ ∃ s, iter f (b, 0) = some (.inl s) ∧ 0 ≤ s ∧ s ≤ 1048576 ∧ ∀ x ∈ l, Q x := by
 have := watc (f := f) (n := l.length) (mk := fun i s => (s, (i : Int))) (I := fun i s => 0 ≤ s ∧ s ≤ 1048576 ∧ ∀ j, j < i → Q (l.getD j d)) (Q := fun r => r = .inr () ∨ ∃ s, r = .inl s ∧ 0 ≤ s ∧ s ≤ 1048576 ∧ ∀ x ∈ l, Q x) (s0 := b)
  ⟨h0, h1, fun j hj => absurd hj (Nat.not_lt_zero _)⟩ (fun i s hi hs => by
   rcases hstep i s hi hs.1 hs.2.1 with ⟨s', k1, k2, k3, k4⟩ | k
   ·exact .inl ⟨s', k1, k2, k3, fun j hj => by
     by_cases e : j = i
     ·rw [e]; exact k4
     ·exact hs.2.2 j (by omega)⟩
   ·exact .inr ⟨_, k, .inl rfl⟩) (fun s hs => ⟨_, hend s, .inr ⟨s, rfl, hs.1, hs.2.1, fun x hx => by
    obtain ⟨j, hj, e⟩ := List.getElem_of_mem hx
    have := hs.2.2 j hj
    rw [List.getD_eq_getElem?_getD, List.getElem?_eq_getElem hj] at this
    rw [← e]; exact this⟩⟩)
 obtain ⟨r, h2, h3⟩ := this
 rcases h3 with rfl | ⟨s, rfl, h4⟩
 ·exact .inl h2
 ·exact .inr ⟨s, h2, h4⟩
def Sz (o : Option Int) (Q : Prop) : Prop := ∃ r, o = some r ∧ r ≤ 1048576 ∧ (0 ≤ r → Q)
theorem walc {l : List Int} {b : Int} (hl : Fit1 l) (h0 : 0 ≤ b) (h1 : b ≤ 1048576) : wup l b = some (if b - (l.length : Int) < 0 then -1 else b - (l.length : Int)) := by
 unfold Fit1 at hl
 unfold wup wayq
 simp (disch := omega) only [EV]
 split <;> rfl
theorem wic {l : List Int} {b : Int} (hl : Fit1 l) (h0 : 0 ≤ b) (h1 : b ≤ 1048576) : Sz (wup l b) (waw l) := by
 refine ⟨_, walc hl h0 h1, ?_, fun h => ?_⟩
 ·split <;> omega
 ·unfold waw
  split at h <;> omega
theorem waez {x : List (List Int)} {b : Int} (hx : Fit2 x) (h0 : 0 ≤ b) (h1 : b ≤ 1048576) : Sz (wapk x b) (wfw x) := by
 obtain ⟨hx1, hx2⟩ := hx
 unfold wapk wayr
 simp (disch := omega) only [EV]
 by_cases hb : b - (x.length : Int) < 0
 ·simp (disch := omega) only [EV, hb]
  exact ⟨_, rfl, by omega, fun h => by omega⟩
 ·have := wbkb (f := fun v => (wmo x v).ev) (l := x) [] waw (b := b - (x.length : Int)) (by omega) (by omega) (fun i s hi k0 k1 => by
   obtain ⟨r, k2, k3, k4⟩ := wic (hx2 _ (getD_mem (d := []) hi)) k0 k1
   simp (disch := omega) only [EV, wmo, hi, k2]
   by_cases hr : r < 0
   ·right; simp (disch := omega) only [EV, hr]
   ·left
    simp (disch := omega) only [EV, hr]
    exact ⟨r, rfl, by omega, by omega, k4 (by omega)⟩) (fun s => by simp (disch := omega) only [EV, wmo, Nat.lt_irrefl])
  rcases this with h | ⟨s, h, k0, k1, k2⟩
  ·simp (disch := omega) only [EV, hb, wxo, h]
   exact ⟨_, rfl, by omega, fun h => by omega⟩
  ·simp (disch := omega) only [EV, hb, wxo, h]
   exact ⟨_, rfl, by omega, fun _ => ⟨by omega, k2⟩⟩
theorem wie {l : List Int} (hl : waw l) : wxp l = some l := by
 unfold waw at hl
 unfold wxp wazc
 rw [Tr.ev_g, show (decide ((0 : Int) ≤ ((l.length : Nat) : Int)) && decide (((l.length : Nat) : Int) ≤ ((l.length : Nat) : Int)) && decide (((8 : Nat) : Int) * ((l.length : Nat) : Int) ≤ 281474976710656)) = true by simp; omega]
 have := wvg (f := fun v => (wmp l v).ev) (l := l) 0 (fun i r hi hr => by simp (disch := omega) only [EV, wmp, hr, hi]; rfl) (fun r => by simp (disch := omega) only [EV, wmp, Nat.lt_irrefl])
 simp (disch := omega) only [EV, waim, this]
theorem wafa {x : List (List Int)} (hx : wfw x) : wapo x = some x := by
 obtain ⟨hl, hr⟩ := hx
 unfold wapo wazg
 rw [Tr.ev_g, show (decide ((0 : Int) ≤ ((x.length : Nat) : Int)) && decide (((x.length : Nat) : Int) ≤ ((x.length : Nat) : Int)) && decide (((24 : Nat) : Int) * ((x.length : Nat) : Int) ≤ 281474976710656)) = true by simp; omega]
 have := wvg (f := fun v => (wmq x v).ev) (l := x) [] (fun i r hi hr' => by simp (disch := omega) only [EV, wmq, hr', hi, wie (hr _ (getD_mem (d := []) hi))]; rfl) (fun r => by simp (disch := omega) only [EV, wmq, Nat.lt_irrefl])
 simp (disch := omega) only [EV, wain, this]
theorem wif {a b : List Int} (ha : waw a) : wyp a b = some (a == b) := by
 unfold waw at ha
 unfold wyp wbgf
 by_cases h : a.length = b.length
 ·have hs := walb (f := fun v => (wni (a, b) v).ev) (a := a) (b := b) 0 h (fun i hi => by
   have hi' : i < b.length := by omega
   simp (disch := omega) only [EV, wni, hi, hi', bne]
   cases (a.getD i 0 == b.getD i 0) <;> rfl) (by simp (disch := omega) only [EV, wni, Nat.lt_irrefl])
  simp (disch := omega) only [EV, int_ne, h, wakq, hs]
  cases (a == b) <;> rfl
 ·have : (a == b) = false := by
   rw [beq_eq_false_iff_ne]
   exact fun e => h (by rw [e])
  simp (disch := omega) only [EV, int_ne, h, this]
theorem wafb {a b : List (List Int)} (ha : wfw a) : wass a b = some (a == b) := by
 obtain ⟨ha, hr⟩ := ha
 unfold wass wbgj
 by_cases h : a.length = b.length
 ·have hs := walb (f := fun v => (wnj (a, b) v).ev) (a := a) (b := b) [] h (fun i hi => by
   have hi' : i < b.length := by omega
   simp (disch := omega) only [EV, wnj, hi, hi', wif (hr _ (getD_mem (d := []) hi))]
   cases (a.getD i [] == b.getD i []) <;> rfl) (by simp (disch := omega) only [EV, wnj, Nat.lt_irrefl])
  simp (disch := omega) only [EV, int_ne, h, wakr, hs]
  cases (a == b) <;> rfl
 ·have : (a == b) = false := by
   rw [beq_eq_false_iff_ne]
   exact fun e => h (by rw [e])
  simp (disch := omega) only [EV, int_ne, h, this]
end Go.Proofs.YtnagpmhaddfgmaaGreat
/-
 Plain laws: small functions of both sides; grounds.
-/
namespace Go.Proofs.YtnagpmhaddfgmaaGreat
theorem wvh {α : Type} (l : List α) (d : α) (p : α → Bool) : ((List.range l.length).all fun i => p (l.getD i d)) = l.all p := by
 induction l with
 | nil => rfl
 | cons x l ih =>
  rw [List.length_cons, List.range_succ_eq_map, List.all_cons, List.all_map, List.all_cons]
  exact congrArg (p x && ·) ih
def wjt (n a b : Int) : Bool := decide (a ≤ n) && decide (n ≤ b)
def allIn (l : List Int) (a b : Int) : Bool := l.all fun x => wjt x a b
theorem wey {n a b : Int} : wjt n a b = true ↔ a ≤ n ∧ n ≤ b := by simp [wjt]
theorem wnq {l : List Int} {a b : Int} : allIn l a b = true ↔ ∀ x ∈ l, a ≤ x ∧ x ≤ b := by simp [allIn, wjt]
theorem wju {l : List Int} {a b : Int} (h : allIn l a b = true) {i : Nat} (hi : i < l.length) : a ≤ l.getD i 0 ∧ l.getD i 0 ≤ b := wnq.1 h _ (getD_mem hi)
theorem wgy (n a b : Int) : wji n a b = some (wjt n a b) := by
 unfold wji wazs wjt
 simp only [Tr.ev_t, Tr.ev_l]
 cases decide (a ≤ n) <;> rfl
theorem wcs (n a b : Int) : woj n a b = some (wjt n a b) := by
 unfold woj wbdq wjt
 simp only [Tr.ev_t, Tr.ev_l]
 cases decide (a ≤ n) <;> rfl
theorem wacq {l : List Int} (hl : waw l) (n b : Int) : waip l n b = some (allIn l 0 b && ((l.length : Int) == n)) := by
 unfold waw at hl
 unfold waip wazt
 have hs : waio (l, (n, b)) 0 = _ := wfv (f := fun v => (wmr (l, (n, b)) v).ev) (n := l.length) (mk := fun i => (i : Int)) (p := fun i => wjt (l.getD i 0) 0 b) (yes := .inl ()) (no := .inr ()) (fun i hi _ => by
  simp (disch := omega) only [EV, wmr, hi, wgy]
  cases wjt (l.getD i 0) 0 b <;> rfl) (by simp (disch := omega) only [EV, wmr, Nat.lt_irrefl])
 rw [wvh l 0 (fun x => wjt x 0 b)] at hs
 simp (disch := omega) only [EV, hs]
 unfold allIn
 cases l.all fun x => wjt x 0 b <;> rfl
theorem wfx {V R α : Type} {f : V → Option (V ⊕ R)} {l : List α} (d : α) (q : α → Bool) (mk : Nat → V) (yes : Nat → R) (no : R)
  (h : ∀ i : Nat, i < l.length → f (mk i) = some (bif q (l.getD i d) then .inr (yes i) else .inl (mk (i + 1)))) (hend : f (mk l.length) = some (.inr no)) :
  iter f (mk 0) = some ((l.findIdx? q).elim no yes) := by
 have key : ∀ (k i : Nat), i + k = l.length → iter f (mk i) = some (((l.drop i).findIdx? q).elim no (fun j => yes (j + i))) := by
  intro k
  induction k with
  | zero =>
   intro i hk
   have : i = l.length := by omega
   subst this
   rw [wbn, hend]
   simp
  | succ k ih =>
   intro i hk
   rw [wbn, h i (by omega), List.drop_eq_getElem_cons (by omega), List.findIdx?_cons]
   have e : l.getD i d = l[i] := by rw [List.getD_eq_getElem?_getD, List.getElem?_eq_getElem (by omega)]; rfl
   rw [e]
   cases q l[i] with
   | true => simp
   | false =>
    simp only [cond_false, Bool.false_eq_true, if_false]
    rw [ih (i + 1) (by omega)]
    cases (l.drop (i + 1)).findIdx? q with
    | none => rfl
    | some j => simp [Nat.add_comm, Nat.add_left_comm]
 have := key l.length 0 (by omega)
 simpa using this
theorem wgz {α : Type} {l : List α} {q : α → Bool} : l.any q = true ↔ (l.findIdx? q).isSome = true := by
 simp [List.findIdx?_isSome]
theorem wrj {l : List (Int)} (hl : (l.length : Int) < 9223372036854775807) {p : HL [.int .i64] → Option Bool} {q : Int → Bool} (hp : ∀ n ∈ l, p (n, ()) = some (q n)) :
  waqz l p = some ((l.findIdx? q).elim (-1) (fun i => (i : Int))) := by
 unfold waqz wbdr
 have hs : wajp (l, (p, ((l.length : Nat) : Int))) 0 = _ := wfx (f := fun v => (wne (l, (p, ((l.length : Nat) : Int))) v).ev) (l := l) 0 q (mk := fun i => (i : Int)) (yes := fun i => .inr (i : Int)) (no := .inl ()) (fun i hi => by
  simp (disch := omega) only [EV, wne, hi, hp _ (getD_mem hi)]
  cases q (l.getD i 0) <;> rfl) (by simp (disch := omega) only [EV, wne, Nat.lt_irrefl])
 simp (disch := omega) only [EV, hs]
 cases l.findIdx? q <;> rfl
theorem wku {l : List (Int)} (hl : (l.length : Int) < 9223372036854775807) {p : HL [.int .i64] → Option Bool} {q : Int → Bool} (hp : ∀ n ∈ l, p (n, ()) = some (q n)) :
  wara l p = some (l.any q) := by
 unfold wara wbdw
 simp (disch := omega) only [EV, wrj hl hp]
 congr 1
 rw [Bool.eq_iff_iff, wgz]
 cases l.findIdx? q <;> simp
theorem wok {l : List (List Int)} (hl : (l.length : Int) < 9223372036854775807) {p : HL [.slice (.int .i64)] → Option Bool} {q : List Int → Bool} (hp : ∀ n ∈ l, p (n, ()) = some (q n)) :
  warc l p = some ((l.findIdx? q).elim (-1) (fun i => (i : Int))) := by
 unfold warc wbdx
 have hs : wajq (l, (p, ((l.length : Nat) : Int))) 0 = _ := wfx (f := fun v => (wnf (l, (p, ((l.length : Nat) : Int))) v).ev) (l := l) [] q (mk := fun i => (i : Int)) (yes := fun i => .inr (i : Int)) (no := .inl ()) (fun i hi => by
  simp (disch := omega) only [EV, wnf, hi, hp _ (getD_mem hi)]
  cases q (l.getD i []) <;> rfl) (by simp (disch := omega) only [EV, wnf, Nat.lt_irrefl])
 simp (disch := omega) only [EV, hs]
 cases l.findIdx? q <;> rfl
theorem wjv {l : List (List Int)} (hl : (l.length : Int) < 9223372036854775807) {p : HL [.slice (.int .i64)] → Option Bool} {q : List Int → Bool} (hp : ∀ n ∈ l, p (n, ()) = some (q n)) :
  ward l p = some (l.any q) := by
 unfold ward wbec
 simp (disch := omega) only [EV, wok hl hp]
 congr 1
 rw [Bool.eq_iff_iff, wgz]
 cases l.findIdx? q <;> simp
theorem wig {l : List Int} (hl : waw l) (a b : Int) : F_zw l a b = some (allIn l a b) := by
 unfold waw at hl
 unfold F_zw T_zw
 rw [Tr.ev_c, wku (by omega) (q := fun n => !(wjt n a b)) fun n _ => by
  unfold F_zx T_zx
  simp (disch := omega) only [EV, wcs]]
 simp (disch := omega) only [EV]
 unfold allIn
 rw [List.any_eq_not_all_not]
 simp
end Go.Proofs.YtnagpmhaddfgmaaGreat
/-
 Plain laws: marks that are written into a result, and read again.
-/
namespace Go.Proofs.YtnagpmhaddfgmaaGreat
def wcj (k : Int) (n : Nat) : List Int := (List.range n).map fun (i : Nat) => k + (i : Int)
theorem wdw (k : Int) (n : Nat) : (wcj k n).length = n := by simp [wcj]
theorem wafc (k : Int) (n : Nat) : wcj k (n + 1) = wcj k n ++ [k + (n : Int)] := by simp [wcj, List.range_succ]
theorem wafd {k : Int} {n i : Nat} (h : i < n) : (wcj k n).getD i 0 = k + (i : Int) := by
 simp [wcj, List.getD_eq_getElem?_getD, h]
theorem watg (k : Int) {l : List Int} {i : Nat} (h : i < l.length) : (wcj k i ++ l.drop i).set i (k + (i : Int)) = wcj k (i + 1) ++ l.drop (i + 1) := by
 rw [List.set_append_right _ _ (by rw [wdw]; omega), wdw, Nat.sub_self, List.drop_eq_getElem_cons h, List.set_cons_zero, wafc, List.append_assoc]
 rfl
theorem wez {l : List Int} (hl : waw l) {k : Int} (h0 : 0 ≤ k) (h1 : k ≤ 4611686018427387904) : wyr k l = some (k + (l.length : Int), wcj k l.length) := by
 unfold waw at hl
 unfold wyr wbgu
 have hs := (wap (f := fun v => (wnk () v).ev) (n := l.length) (mk := fun i (_ : Unit) => (k + (i : Int), ((i : Int), wcj k i ++ l.drop i))) (I := fun _ _ => True) (g := fun s _ => s) (fin := fun _ => (k + (l.length : Int), wcj k l.length)) (s0 := ()) trivial
  (fun i s hi _ => ⟨by
   have hlen : (wcj k i ++ l.drop i).length = l.length := by simp [wdw]; omega
   simp (disch := omega) only [EV, wnk, hlen, hi, watg k hi, ← Int.add_assoc]
   congr 1; congr 1; congr 1
   omega, trivial⟩)
  (fun s _ => by
   have hlen : (wcj k l.length ++ l.drop l.length).length = l.length := by simp [wdw]
   simp (disch := omega) only [EV, wnk, wdw, Nat.lt_irrefl, List.drop_length, List.append_nil])).1
 simp only [show wcj k 0 ++ l.drop 0 = l by simp [wcj], Int.natCast_zero, Int.add_zero] at hs
 simp (disch := omega) only [EV, waks, hs]
theorem wha {n : Nat} (hn : (n : Int) ≤ 1048576) {k : Int} (h0 : 0 ≤ k) (h1 : k ≤ 4611686018427387904) : waex (wcj k n) k = some (k + (n : Int)) := by
 unfold waex wbhk
 have hs := (wap (f := fun v => (wno (wcj k n) v).ev) (n := n) (mk := fun i (_ : Unit) => (k + (i : Int), (i : Int))) (I := fun _ _ => True) (g := fun s _ => s) (fin := fun _ => .inl (k + (n : Int))) (s0 := ()) trivial
  (fun i s hi _ => ⟨by
   simp (disch := omega) only [EV, wno, wdw, hi, wafd hi, bne_self_eq_false]
   congr 1; congr 1; congr 1
   omega, trivial⟩)
  (fun s _ => by simp (disch := omega) only [EV, wno, wdw, Nat.lt_irrefl])).1
 simp only [Int.natCast_zero, Int.add_zero] at hs
 simp (disch := omega) only [EV, wakv, hs]
def wbq : Int → List (List Int) → List (List Int)
 | _, [] => []
 | k, r :: x => wcj k r.length :: wbq (k + (r.length : Int)) x
def tot : Int → List (List Int) → Int
 | k, [] => k
 | k, r :: x => tot (k + (r.length : Int)) x
theorem wrk (r : List Int) : ∀ (x : List (List Int)) (k : Int), tot k (x ++ [r]) = tot k x + (r.length : Int)
 | [], k => rfl
 | q :: x, k => by simp only [List.cons_append, tot]; exact wrk r x _
theorem wnr (r : List Int) : ∀ (x : List (List Int)) (k : Int), wbq k (x ++ [r]) = wbq k x ++ [wcj (tot k x) r.length]
 | [], k => rfl
 | q :: x, k => by simp only [List.cons_append, wbq, tot]; rw [wnr r x]
theorem wdp : ∀ (x : List (List Int)) (k : Int), (wbq k x).length = x.length
 | [], _ => rfl
 | q :: x, k => by simp [wbq, wdp x]
theorem wvi : ∀ {x : List (List Int)} {k : Int}, (∀ r ∈ x, waw r) → k ≤ tot k x ∧ tot k x ≤ k + (x.length : Int) * 1048576
 | [], k, _ => by simp [tot]
 | r :: x, k, h => by
  have h1 := h r List.mem_cons_self
  unfold waw at h1
  obtain ⟨h2, h3⟩ := wvi (x := x) (k := k + (r.length : Int)) fun r hr => h r (List.mem_cons_of_mem _ hr)
  simp only [tot, List.length_cons]
  constructor
  ·omega
  ·have : ((x.length + 1 : Nat) : Int) * 1048576 = (x.length : Int) * 1048576 + 1048576 := by omega
   omega
theorem take_snoc {α : Type} {l : List α} {i : Nat} (d : α) (h : i < l.length) : l.take (i + 1) = l.take i ++ [l.getD i d] := by
 rw [List.take_succ_eq_append_getElem h, List.getD_eq_getElem?_getD, List.getElem?_eq_getElem h]
 rfl
theorem wlg {x : List (List Int)} (hx : wfw x) {k : Int} (i : Nat) : k ≤ tot k (x.take i) ∧ tot k (x.take i) ≤ k + 1099511627776 := by
 obtain ⟨h1, h2⟩ := wvi (x := x.take i) (k := k) fun r hr => hx.2 r (List.mem_of_mem_take hr)
 have h3 : ((x.take i).length : Int) ≤ 1048576 := by
  have := hx.1
  rw [List.length_take]
  omega
 refine ⟨h1, ?_⟩
 have : ((x.take i).length : Int) * 1048576 ≤ 1048576 * 1048576 := Int.mul_le_mul_of_nonneg_right h3 (by omega)
 omega
theorem wvj {x : List (List Int)} (hx : wfw x) {k : Int} (h0 : 0 ≤ k) (h1 : k ≤ 2305843009213693952) : wasv k x = some (tot k x, wbq k x) := by
 have hl := hx.1
 unfold wasv wbgy
 have hs := (wap (f := fun v => (wnl () v).ev) (n := x.length) (mk := fun i (_ : Unit) => (tot k (x.take i), ((i : Int), wbq k (x.take i) ++ x.drop i))) (I := fun _ _ => True) (g := fun s _ => s) (fin := fun _ => (tot k x, wbq k x)) (s0 := ()) trivial
  (fun i s hi _ => ⟨by
   have hml : (wbq k (x.take i)).length = i := by rw [wdp, List.length_take]; omega
   have hlen : (wbq k (x.take i) ++ x.drop i).length = x.length := by rw [List.length_append, hml, List.length_drop]; omega
   have hget : (wbq k (x.take i) ++ x.drop i).getD i [] = x.getD i [] := by
    rw [List.getD_eq_getElem?_getD, List.getElem?_append_right (by omega), hml, Nat.sub_self, List.getElem?_drop, List.getD_eq_getElem?_getD, Nat.add_zero]
   have hb := wlg hx (k := k) i
   have hset : (wbq k (x.take i) ++ x.drop i).set i (wcj (tot k (x.take i)) (x.getD i []).length) = wbq k (x.take (i + 1)) ++ x.drop (i + 1) := by
    rw [List.set_append_right _ _ (by omega), hml, Nat.sub_self, List.drop_eq_getElem_cons hi, List.set_cons_zero, take_snoc [] hi, wnr, List.append_assoc]
    rfl
   have htot : tot k (x.take (i + 1)) = tot k (x.take i) + ((x.getD i []).length : Int) := by rw [take_snoc [] hi, wrk]
   simp (disch := omega) only [EV, wnl, hlen, hi, hget, wez (hx.2 _ (getD_mem (d := []) hi)) (k := tot k (x.take i)) (by omega) (by omega), hset, htot]
   rfl, trivial⟩)
  (fun s _ => by
   have hlen : (wbq k (x.take x.length) ++ x.drop x.length).length = x.length := by simp [wdp]
   simp (disch := omega) only [EV, wnl, wdp, Nat.lt_irrefl, List.drop_length, List.append_nil, List.take_length])).1
 simp only [List.take_zero, List.drop_zero, wbq, tot, List.nil_append, Int.natCast_zero] at hs
 simp (disch := omega) only [EV, wakt, hs]
theorem wns : ∀ (x : List (List Int)) (k : Int) (i : Nat), i < x.length → (wbq k x).getD i [] = wcj (tot k (x.take i)) (x.getD i []).length
 | [], _, _, h => by simp at h
 | r :: x, k, 0, _ => rfl
 | r :: x, k, i + 1, h => by
  simp only [wbq, List.getD_cons_succ, List.take_succ_cons, tot]
  exact wns x _ i (by simpa using h)
theorem wvk {x : List (List Int)} (hx : wfw x) {k : Int} (h0 : 0 ≤ k) (h1 : k ≤ 2305843009213693952) : wasy (wbq k x) k = some (tot k x) := by
 have hl := hx.1
 unfold wasy wbho
 have hs := (wap (f := fun v => (wnp (wbq k x) v).ev) (n := x.length) (mk := fun i (_ : Unit) => (tot k (x.take i), (i : Int))) (I := fun _ _ => True) (g := fun s _ => s) (fin := fun _ => .inl (tot k x)) (s0 := ()) trivial
  (fun i s hi _ => ⟨by
   have hb := wlg hx (k := k) i
   have hr := hx.2 _ (getD_mem (d := []) hi)
   have htot : tot k (x.take (i + 1)) = tot k (x.take i) + ((x.getD i []).length : Int) := by rw [take_snoc [] hi, wrk]
   have hneg : ¬ tot k (x.take i) + ((x.getD i []).length : Int) < 0 := by omega
   simp (disch := omega) only [EV, wnp, wdp, hi, wns x k i hi, wha hr (k := tot k (x.take i)) (by omega) (by omega), hneg, htot]
   rfl, trivial⟩)
  (fun s _ => by simp (disch := omega) only [EV, wnp, wdp, Nat.lt_irrefl, List.take_length])).1
 simp only [List.take_zero, tot, Int.natCast_zero] at hs
 simp (disch := omega) only [EV, wakx, hs]
theorem wvl {o : List Int} {ds : List (List Int)} (ho : waw o) (hd : wfw ds) {k : Int} (h0 : 0 ≤ k) (h1 : k ≤ 1099511627776) : ∃ m, wasw k o ds = some (m, wcj k o.length, wbq (k + (o.length : Int)) ds) ∧ m = tot (k + (o.length : Int)) ds ∧ k ≤ m ∧ m ≤ k + 2199023255552 := by
 have hl := ho
 unfold waw at hl
 have hb := wlg hd (k := k + (o.length : Int)) ds.length
 rw [List.take_length] at hb
 unfold wasw wbhe
 simp (disch := omega) only [EV, wez ho h0 (by omega), wvj hd (k := k + (o.length : Int)) (by omega) (by omega)]
 exact ⟨_, rfl, rfl, by omega, by omega⟩
theorem wvm {o : List Int} {ds : List (List Int)} (ho : waw o) (hd : wfw ds) {k : Int} (h0 : 0 ≤ k) (h1 : k ≤ 1099511627776) : wasz (wcj k o.length) (wbq (k + (o.length : Int)) ds) k = some (tot (k + (o.length : Int)) ds) := by
 have hl := ho
 unfold waw at hl
 have hb := wlg hd (k := k + (o.length : Int)) ds.length
 rw [List.take_length] at hb
 have hn : ¬ k + (o.length : Int) < 0 := by omega
 have hn2 : ¬ tot (k + (o.length : Int)) ds < 0 := by omega
 unfold wasz wbht
 simp (disch := omega) only [EV, wha (n := o.length) hl h0 (by omega), hn, wvk hd (k := k + (o.length : Int)) (by omega) (by omega), hn2]
end Go.Proofs.YtnagpmhaddfgmaaGreat
/-
 Plain laws: the first one of the least ones.
-/
namespace Go.Proofs.YtnagpmhaddfgmaaGreat
def wfy : List Int → Int
 | [] => 0
 | x :: l => l.foldl min x
theorem wgn : ∀ (l : List Int) (a : Int), (l.foldl min a = a ∨ l.foldl min a ∈ l) ∧ l.foldl min a ≤ a ∧ ∀ x ∈ l, l.foldl min a ≤ x
 | [], a => ⟨.inl rfl, Int.le_refl _, fun x h => by cases h⟩
 | y :: l, a => by
  obtain ⟨h1, h2, h3⟩ := wgn l (min a y)
  simp only [List.foldl_cons]
  refine ⟨?_, by omega, fun x hx => ?_⟩
  ·rcases h1 with h1 | h1
   ·rw [h1]
    rcases Int.le_total a y with h | h
    ·left; omega
    ·right; rw [Int.min_eq_right h]; exact List.mem_cons_self
   ·exact .inr (List.mem_cons_of_mem _ h1)
  ·rcases List.mem_cons.1 hx with rfl | hx
   ·omega
   ·exact h3 x hx
theorem whb {l : List Int} (h : l ≠ []) : wfy l ∈ l ∧ ∀ x ∈ l, wfy l ≤ x := by
 cases l with
 | nil => exact absurd rfl h
 | cons a l =>
  obtain ⟨h1, h2, h3⟩ := wgn l a
  refine ⟨?_, fun x hx => ?_⟩
  ·rcases h1 with h1 | h1
   ·show l.foldl min a ∈ a :: l
    rw [h1]; exact List.mem_cons_self
   ·exact List.mem_cons_of_mem _ h1
  ·rcases List.mem_cons.1 hx with rfl | hx
   ·exact h2
   ·exact h3 x hx
def wax (g : List Int → Int) (l : List (List Int)) : List Int := (l.find? fun s => decide (g s = wfy (l.map g))).getD []
theorem wfa {g : List Int → Int} {l : List (List Int)} (h : l ≠ []) : wax g l ∈ l ∧ g (wax g l) = wfy (l.map g) := by
 obtain ⟨h1, _⟩ := whb (l := l.map g) (by simpa using h)
 obtain ⟨s, hs, e⟩ := List.mem_map.1 h1
 unfold wax
 cases hf : l.find? fun s => decide (g s = wfy (l.map g)) with
 | none =>
  have := List.find?_eq_none.1 hf s hs
  simp at this
  exact absurd e this
 | some t =>
  have := List.find?_some hf
  exact ⟨List.mem_of_find?_eq_some hf, by simpa using this⟩
theorem wyt {l : List Int} (h : l ≠ []) (x : Int) : wfy (l ++ [x]) = min (wfy l) x := by
 cases l with
 | nil => exact absurd rfl h
 | cons a l => simp [wfy, List.foldl_append]
theorem wih {g : List Int → Int} {l : List (List Int)} (h : l ≠ []) (s : List Int) : wax g (l ++ [s]) = if g s < g (wax g l) then s else wax g l := by
 obtain ⟨h1, h2⟩ := wfa (g := g) h
 have hm : l.map g ≠ [] := by simpa using h
 have hle := (whb hm).2
 rw [h2]
 unfold wax
 rw [List.map_append, List.map_singleton, wyt hm, List.find?_append]
 by_cases hs : g s < wfy (l.map g)
 ·rw [if_pos hs, Int.min_eq_right (by omega)]
  have : l.find? (fun t => decide (g t = g s)) = none := List.find?_eq_none.2 fun t ht => by
   have := hle (g t) (List.mem_map_of_mem ht)
   simp only [decide_eq_true_eq]
   omega
  rw [this]
  simp
 ·rw [if_neg hs, Int.min_eq_left (by omega)]
  cases hf : l.find? (fun t => decide (g t = wfy (l.map g))) with
  | some t => rfl
  | none =>
   have := List.find?_eq_none.1 hf _ h1
   rw [h2] at this
   simp at this
theorem wfz {g : List Int → Int} (s : List Int) : wax g [s] = s := by
 unfold wax
 simp [wfy]
end Go.Proofs.YtnagpmhaddfgmaaGreat
