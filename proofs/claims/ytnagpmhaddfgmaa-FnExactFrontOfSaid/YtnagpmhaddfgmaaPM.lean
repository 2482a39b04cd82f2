/-
 Plain rules: evaluation of trees, rounds that count.
-/
import Derived.Test.YtnagpmhaddfgmaaB28
import Derived.Test.YtnagpmhaddfgmaaC1
namespace Go.Proofs.Ytnagpmhaddfgmaa
theorem waox (i n : Nat) : inR (i : Int) n = decide (i < n) := by
 unfold inR; simp
theorem wbcm {i : Int} {n : Nat} (h0 : 0 ≤ i) (h1 : i < n) : inR i n = true := by unfold inR; simp; omega
theorem getD_mem {α : Type} {l : List α} {i : Nat} {d : α} (h : i < l.length) : l.getD i d ∈ l := by
 rw [List.getD_eq_getElem?_getD, List.getElem?_eq_getElem h]
 exact List.getElem_mem h
theorem EV : (∀ {L : Type} (b : Bool) (x y : Tr L), (Tr.t b x y).ev = bif b then x.ev else y.ev) ∧
  (∀ {L : Type} (R : Type) (x : Option R) (k : R → Tr L), (Tr.c R x k).ev = x.bind fun r => (k r).ev) ∧
  (∀ {L : Type} (b : Bool) (x : Tr L), (Tr.g b x).ev = bif b then x.ev else none) ∧
  (∀ {L : Type} (x : L), (Tr.l x).ev = some x) ∧
  (∀ {A B L : Type} (a : A) (k : A → Tr L) (k' : B → Tr L), (Tr.s A B (.inl a) k k').ev = (k a).ev) ∧
  (∀ {A B L : Type} (a : B) (k : A → Tr L) (k' : B → Tr L), (Tr.s A B (.inr a) k k').ev = (k' a).ev) ∧
  (∀ i n : Nat, inR (i : Int) n = decide (i < n)) ∧
  (∀ {i : Int} {n : Nat}, 0 ≤ i → i < n → inR i n = true) ∧
  (∀ {n m : Nat}, ((n : Int) < (m : Int)) ↔ n < m) ∧
  (∀ h : Decidable True, @decide True h = true) ∧
  (∀ h : Decidable False, @decide False h = false) ∧
  (∀ {α : Type} (a b : α), (bif true then a else b) = a) ∧
  (∀ {α : Type} (a b : α), (bif false then a else b) = b) ∧
  (∀ {α β : Type} (a : α) (f : α → Option β), (some a).bind f = f a) ∧
  (∀ n : Nat, ((n : Int)).toNat = n) ∧
  (∀ {n : Int}, -9223372036854775808 ≤ n → n < 9223372036854775808 → IntKind.wrap .i64 n = n) ∧
  ((!true) = false) ∧ ((!false) = true) ∧ (∀ b : Bool, (true && b) = b) ∧ (∀ b : Bool, (b && true) = b) ∧ (∀ b : Bool, (false && b) = false) ∧ (∀ b : Bool, (b && false) = false) ∧
  (∀ {α : Type} (p : Prop) (h : Decidable p) (a b : α), (bif @decide p h then a else b) = if p then a else b) ∧
  (∀ {α : Type} (h : Decidable True) (a b : α), (@ite α True h a b) = a) ∧
  (∀ {α : Type} (h : Decidable False) (a b : α), (@ite α False h a b) = b) := by
 refine ⟨fun b x y => rfl, fun R x k => rfl, fun b x => rfl, fun x => rfl, fun a k k' => rfl, fun a k k' => rfl, waox, wbcm, Int.ofNat_lt, fun h => by simp, fun h => by simp, fun a b => rfl, fun a b => rfl, fun a f => rfl, fun n => rfl, wrap64,
  rfl, rfl, fun b => by simp, fun b => by simp, fun b => by simp, fun b => by simp, fun p h a b => ?_, fun h a b => by simp, fun h a b => by simp⟩
 by_cases hp : p <;> simp [hp]
theorem weh {S : Type} (g : S → Nat → S) (s : S) (n : Nat) : (List.range (n + 1)).foldl g s = g ((List.range n).foldl g s) n := by
 rw [List.range_succ, List.foldl_append]; rfl
theorem wbe {V S R : Type} {f : V → Option (V ⊕ R)} {n : Nat} (mk : Nat → S → V) (I : Nat → S → Prop) (g : S → Nat → S) (fin : S → R) {s0 : S} (h0 : I 0 s0)
  (hstep : ∀ i s, i < n → I i s → f (mk i s) = some (.inl (mk (i + 1) (g s i))) ∧ I (i + 1) (g s i))
  (hend : ∀ s, I n s → f (mk n s) = some (.inr (fin s))) :
  iter f (mk 0 s0) = some (fin ((List.range n).foldl g s0)) ∧ I n ((List.range n).foldl g s0) := by
 have hI : ∀ i, i ≤ n → I i ((List.range i).foldl g s0) := by
  intro i
  induction i with
  | zero => intro _; exact h0
  | succ i ih => intro hi; rw [weh]; exact (hstep i _ (by omega) (ih (by omega))).2
 have key : ∀ k i, i + k = n → iter f (mk i ((List.range i).foldl g s0)) = some (fin ((List.range n).foldl g s0)) := by
  intro k
  induction k with
  | zero =>
   intro i hi
   have : i = n := by omega
   subst this
   rw [waa, hend _ (hI i (Nat.le_refl _))]
  | succ k ih =>
   intro i hi
   rw [waa, (hstep i _ (by omega) (hI i (by omega))).1]
   have := ih (i + 1) (by omega)
   rw [weh] at this
   exact this
 exact ⟨key n 0 (by omega), hI n (Nat.le_refl _)⟩
theorem wacc {α S : Type} (l : List α) (d : α) (g : S → α → S) (s : S) : (List.range l.length).foldl (fun s i => g s (l.getD i d)) s = l.foldl g s := by
 induction l generalizing s with
 | nil => rfl
 | cons x l ih =>
  rw [List.length_cons, List.range_succ_eq_map, List.foldl_cons, List.foldl_map, List.foldl_cons]
  exact ih _
theorem wdx {V S R α : Type} {f : V → Option (V ⊕ R)} (l : List α) (d : α) (mk : Nat → S → V) (I : Nat → S → Prop) (g : S → α → S) (fin : S → R) {s0 : S} (h0 : I 0 s0)
  (hstep : ∀ i s, i < l.length → I i s → f (mk i s) = some (.inl (mk (i + 1) (g s (l.getD i d)))) ∧ I (i + 1) (g s (l.getD i d)))
  (hend : ∀ s, I l.length s → f (mk l.length s) = some (.inr (fin s))) :
  iter f (mk 0 s0) = some (fin (l.foldl g s0)) ∧ I l.length (l.foldl g s0) := by
 have := wbe mk I (fun s i => g s (l.getD i d)) fin h0 hstep hend
 rw [wacc] at this
 exact this
theorem waoy {V S R : Type} {f : V → Option (V ⊕ R)} {n : Nat} (mk : Nat → S → V) (I : Nat → S → Prop) (Q : R → Prop) {s0 : S} (h0 : I 0 s0)
  (hstep : ∀ i s, i < n → I i s → (∃ s', f (mk i s) = some (.inl (mk (i + 1) s')) ∧ I (i + 1) s') ∨ ∃ r, f (mk i s) = some (.inr r) ∧ Q r)
  (hend : ∀ s, I n s → ∃ r, f (mk n s) = some (.inr r) ∧ Q r) : ∃ r, iter f (mk 0 s0) = some r ∧ Q r := by
 have key : ∀ k i s, i + k = n → I i s → ∃ r, iter f (mk i s) = some r ∧ Q r := by
  intro k
  induction k with
  | zero =>
   intro i s hi hI
   have : i = n := by omega
   subst this
   obtain ⟨r, h1, h2⟩ := hend s hI
   exact ⟨r, by rw [waa, h1], h2⟩
  | succ k ih =>
   intro i s hi hI
   rcases hstep i s (by omega) hI with ⟨s', h1, h2⟩ | ⟨r, h1, h2⟩
   ·obtain ⟨r, h3, h4⟩ := ih (i + 1) s' (by omega) h2
    exact ⟨r, by rw [waa, h1]; exact h3, h4⟩
   ·exact ⟨r, by rw [waa, h1], h2⟩
 exact key n 0 s0 (by omega) h0
theorem wgy {V R : Type} {f : V → Option (V ⊕ R)} {n : Nat} (mk : Nat → V) (p : Nat → Bool) (yes : R) (no : R)
  (h : ∀ i : Nat, i < n → (∀ j, j < i → p j = true) → f (mk i) = some (bif p i then .inl (mk (i + 1)) else .inr no)) (hend : f (mk n) = some (.inr yes)) :
  iter f (mk 0) = some (bif (List.range n).all p then yes else no) := by
 have key : ∀ (k i : Nat), i + k = n → (∀ j, j < i → p j = true) → iter f (mk i) = some (bif (List.range' i k).all p then yes else no) := by
  intro k
  induction k with
  | zero =>
   intro i hk _
   have : i = n := by omega
   subst this
   rw [waa, hend]
   rfl
  | succ k ih =>
   intro i hk hj
   rw [waa, h i (by omega) hj, List.range'_succ, List.all_cons]
   cases hs : p i with
   | false => rfl
   | true =>
    simp only [cond_true, Bool.true_and]
    exact ih (i + 1) (by omega) fun j hj' => by
     by_cases e : j = i
     ·rw [e]; exact hs
     ·exact hj j (by omega)
 have := key n 0 (by omega) fun j hj => absurd hj (Nat.not_lt_zero _)
 rw [List.range_eq_range']
 exact this
end Go.Proofs.Ytnagpmhaddfgmaa
/-
 Plain laws: what the laws' own helpers compute: sizes, copies, comparisons.
-/
namespace Go.Proofs.Ytnagpmhaddfgmaa
def Fit1 (l : List Int) : Prop := (l.length : Int) < 9223372036854775808
def Fit2 (x : List (List Int)) : Prop := (x.length : Int) < 9223372036854775808 ∧ ∀ r ∈ x, Fit1 r
def wgb (l : List Int) : Prop := (l.length : Int) ≤ 1048576
def wwa (x : List (List Int)) : Prop := (x.length : Int) ≤ 1048576 ∧ ∀ r ∈ x, wgb r
theorem waoz {α : Type} {l : List α} {i : Nat} {d : α} (h : i < l.length) (d' : α) : (l.take i ++ List.replicate (l.length - i) d).set i (l.getD i d') = l.take (i + 1) ++ List.replicate (l.length - (i + 1)) d := by
 have hl : (l.take i).length = i := by simp; omega
 rw [List.set_append_right _ _ (by omega), hl, Nat.sub_self, show l.length - i = (l.length - (i + 1)) + 1 by omega, List.replicate_succ, List.set_cons_zero, List.take_succ_eq_append_getElem h,
  List.getD_eq_getElem?_getD, List.getElem?_eq_getElem h, List.append_assoc]
 rfl
theorem wsv {α : Type} {f : Int × List α → Option ((Int × List α) ⊕ List α)} {l : List α} (d : α)
  (hstep : ∀ (i : Nat) (r : List α), i < l.length → r.length = l.length → f ((i : Int), r) = some (.inl (((i + 1 : Nat) : Int), r.set i (l.getD i d))))
  (hend : ∀ r : List α, f ((l.length : Int), r) = some (.inr r)) : iter f (0, List.replicate l.length d) = some l := by
 have := (wbe (f := f) (n := l.length) (mk := fun i (_ : Unit) => ((i : Int), l.take i ++ List.replicate (l.length - i) d)) (I := fun _ _ => True) (g := fun s _ => s) (fin := fun _ => l) (s0 := ()) trivial
  (fun i s hi _ => ⟨by
   rw [hstep i _ hi (by simp; omega), waoz hi], trivial⟩)
  (fun s _ => by rw [hend]; simp)).1
 simpa using this
theorem wapa {α : Type} [BEq α] [LawfulBEq α] {a b : List α} {d : α} (h : a.length = b.length) : ((List.range a.length).all fun i => a.getD i d == b.getD i d) = (a == b) := by
 rw [Bool.eq_iff_iff, List.all_eq_true, beq_iff_eq]
 constructor
 ·intro h1
  refine List.ext_getElem h fun i hi hi' => ?_
  have := h1 i (List.mem_range.2 hi)
  rw [List.getD_eq_getElem?_getD, List.getD_eq_getElem?_getD, List.getElem?_eq_getElem hi, List.getElem?_eq_getElem hi'] at this
  simpa using this
 ·rintro rfl i _
  simp
theorem int_ne (a b : Nat) : (((a : Nat) : Int) != ((b : Nat) : Int)) = !(decide (a = b)) := by
 by_cases h : a = b
 ·subst h; simp
 ·have : ((a : Nat) : Int) ≠ ((b : Nat) : Int) := by omega
  simp [h, bne, this]
theorem int_eq (a b : Nat) : (((a : Nat) : Int) == ((b : Nat) : Int)) = decide (a = b) := by
 by_cases h : a = b
 ·subst h; simp
 ·have : ((a : Nat) : Int) ≠ ((b : Nat) : Int) := by omega
  simp [h, this]
theorem wwb {α : Type} [BEq α] [LawfulBEq α] {f : Int → Option (Int ⊕ (Unit ⊕ Unit))} {a b : List α} (d : α) (hl : a.length = b.length)
  (hstep : ∀ i : Nat, i < a.length → f (i : Int) = some (bif a.getD i d == b.getD i d then .inl ((i + 1 : Nat) : Int) else .inr (.inr ())))
  (hend : f (a.length : Int) = some (.inr (.inl ()))) : iter f 0 = some (bif a == b then .inl () else .inr ()) := by
 have := wgy (f := f) (n := a.length) (mk := fun i => (i : Int)) (p := fun i => a.getD i d == b.getD i d) (yes := .inl ()) (no := .inr ()) (fun i hi _ => hstep i hi) hend
 rw [wapa hl] at this
 exact this
theorem wbco {α : Type} {f : Int × Int → Option ((Int × Int) ⊕ (Int ⊕ Unit))} {l : List α} (d : α) (Q : α → Prop) {b : Int} (h0 : 0 ≤ b) (h1 : b ≤ 1048576)
  (hstep : ∀ (i : Nat) (s : Int), i < l.length → 0 ≤ s → s ≤ 1048576 → (∃ s', f (s, (i : Int)) = some (.inl (s', ((i + 1 : Nat) : Int))) ∧ 0 ≤ s' ∧ s' ≤ 1048576 ∧ Q (l.getD i d)) ∨ f (s, (i : Int)) = some (.inr (.inr ())))
  (hend : ∀ s, f (s, (l.length : Int)) = some (.inr (.inl s))) : iter f (b, 0) = some (.inr ()) ∨ ∃ s, iter f (b, 0) = some (.inl s) ∧ 0 ≤ s ∧ s ≤ 1048576 ∧ ∀ x ∈ l, Q x := by
 have := waoy (f := f) (n := l.length) (mk := fun i s => (s, (i : Int))) (I := fun i s => 0 ≤ s ∧ s ≤ 1048576 ∧ ∀ j, j < i → Q (l.getD j d)) (Q := fun r => r = .inr () ∨ ∃ s, r = .inl s ∧ 0 ≤ s ∧ s ≤ 1048576 ∧ ∀ x ∈ l, Q x) (s0 := b)
  ⟨h0, h1, fun j hj => absurd hj (Nat.not_lt_zero _)⟩ (fun i s hi hs => by
   rcases hstep i s hi hs.1 hs.2.1 with ⟨s', k1, k2, k3, k4⟩ | k
   ·exact .inl ⟨s', k1, k2, k3, fun j hj => by
     by_cases e : j = i
     ·rw [e]; exact k4
     ·exact hs.2.2 j (by omega)⟩
   ·exact .inr ⟨_, k, .inl rfl⟩) (fun s hs => ⟨_, hend s, .inr ⟨s, rfl, hs.1, hs.2.1, fun x hx => by
    obtain ⟨j, hj, e⟩ := List.getElem_of_mem hx
    have := hs.2.2 j hj
    rw [List.getD_eq_getElem?_getD, List.getElem?_eq_getElem hj] at this
    rw [← e]; exact this⟩⟩)
 obtain ⟨r, h2, h3⟩ := this
 rcases h3 with rfl | ⟨s, rfl, h4⟩
 ·exact .inl h2
 ·exact .inr ⟨s, h2, h4⟩
def Sz (o : Option Int) (Q : Prop) : Prop := ∃ r, o = some r ∧ r ≤ 1048576 ∧ (0 ≤ r → Q)
theorem wahi {l : List Int} {b : Int} (hl : Fit1 l) (h0 : 0 ≤ b) (h1 : b ≤ 1048576) : wabu l b = some (if b - (l.length : Int) < 0 then -1 else b - (l.length : Int)) := by
 unfold Fit1 at hl
 unfold wabu watv
 simp (disch := omega) only [EV]
 split <;> rfl
theorem wsw {l : List Int} {b : Int} (hl : Fit1 l) (h0 : 0 ≤ b) (h1 : b ≤ 1048576) : Sz (wabu l b) (wgb l) := by
 refine ⟨_, wahi hl h0 h1, ?_, fun h => ?_⟩
 ·split <;> omega
 ·unfold wgb
  split at h <;> omega
theorem wacd {x : List (List Int)} {b : Int} (hx : Fit2 x) (h0 : 0 ≤ b) (h1 : b ≤ 1048576) : Sz (wals x b) (wwa x) := by
 obtain ⟨hx1, hx2⟩ := hx
 unfold wals watw
 simp (disch := omega) only [EV]
 by_cases hb : b - (x.length : Int) < 0
 ·simp (disch := omega) only [EV, hb]
  exact ⟨_, rfl, by omega, fun h => by omega⟩
 ·have := wbco (f := fun v => (wky x v).ev) (l := x) [] wgb (b := b - (x.length : Int)) (by omega) (by omega) (fun i s hi k0 k1 => by
   obtain ⟨r, k2, k3, k4⟩ := wsw (hx2 _ (getD_mem (d := []) hi)) k0 k1
   simp (disch := omega) only [EV, wky, hi, k2]
   by_cases hr : r < 0
   ·right; simp (disch := omega) only [EV, hr]
   ·left
    simp (disch := omega) only [EV, hr]
    exact ⟨r, rfl, by omega, by omega, k4 (by omega)⟩) (fun s => by simp (disch := omega) only [EV, wky, Nat.lt_irrefl])
  rcases this with h | ⟨s, h, k0, k1, k2⟩
  ·simp (disch := omega) only [EV, hb, wux, h]
   exact ⟨_, rfl, by omega, fun h => by omega⟩
  ·simp (disch := omega) only [EV, hb, wux, h]
   exact ⟨_, rfl, by omega, fun _ => ⟨by omega, k2⟩⟩
theorem wsx {l : List Int} (hl : wgb l) : wafl l = some l := by
 unfold wgb at hl
 unfold wafl waud
 rw [Tr.ev_g, show (decide ((0 : Int) ≤ ((l.length : Nat) : Int)) && decide (((l.length : Nat) : Int) ≤ ((l.length : Nat) : Int)) && decide (((8 : Nat) : Int) * ((l.length : Nat) : Int) ≤ 281474976710656)) = true by simp; omega]
 have := wsv (f := fun v => (wkz l v).ev) (l := l) 0 (fun i r hi hr => by simp (disch := omega) only [EV, wkz, hr, hi]; rfl) (fun r => by simp (disch := omega) only [EV, wkz, Nat.lt_irrefl])
 simp (disch := omega) only [EV, wafk, this]
theorem wace {x : List (List Int)} (hx : wwa x) : walv x = some x := by
 obtain ⟨hl, hr⟩ := hx
 unfold walv wauh
 rw [Tr.ev_g, show (decide ((0 : Int) ≤ ((x.length : Nat) : Int)) && decide (((x.length : Nat) : Int) ≤ ((x.length : Nat) : Int)) && decide (((24 : Nat) : Int) * ((x.length : Nat) : Int) ≤ 281474976710656)) = true by simp; omega]
 have := wsv (f := fun v => (wla x v).ev) (l := x) [] (fun i r hi hr' => by simp (disch := omega) only [EV, wla, hr', hi, wsx (hr _ (getD_mem (d := []) hi))]; rfl) (fun r => by simp (disch := omega) only [EV, wla, Nat.lt_irrefl])
 simp (disch := omega) only [EV, wafm, this]
theorem wsy {a b : List Int} (ha : wgb a) : wagz a b = some (a == b) := by
 unfold wgb at ha
 unfold wagz wazi
 by_cases h : a.length = b.length
 ·have hs := wwb (f := fun v => (wma (a, b) v).ev) (a := a) (b := b) 0 h (fun i hi => by
   have hi' : i < b.length := by omega
   simp (disch := omega) only [EV, wma, hi, hi', bne]
   cases (a.getD i 0 == b.getD i 0) <;> rfl) (by simp (disch := omega) only [EV, wma, Nat.lt_irrefl])
  simp (disch := omega) only [EV, int_ne, h, wagy, hs]
  cases (a == b) <;> rfl
 ·have : (a == b) = false := by
   rw [beq_eq_false_iff_ne]
   exact fun e => h (by rw [e])
  simp (disch := omega) only [EV, int_ne, h, this]
theorem wacf {a b : List (List Int)} (ha : wwa a) : waol a b = some (a == b) := by
 obtain ⟨ha, hr⟩ := ha
 unfold waol wazm
 by_cases h : a.length = b.length
 ·have hs := wwb (f := fun v => (wmb (a, b) v).ev) (a := a) (b := b) [] h (fun i hi => by
   have hi' : i < b.length := by omega
   simp (disch := omega) only [EV, wmb, hi, hi', wsy (hr _ (getD_mem (d := []) hi))]
   cases (a.getD i [] == b.getD i []) <;> rfl) (by simp (disch := omega) only [EV, wmb, Nat.lt_irrefl])
  simp (disch := omega) only [EV, int_ne, h, waha, hs]
  cases (a == b) <;> rfl
 ·have : (a == b) = false := by
   rw [beq_eq_false_iff_ne]
   exact fun e => h (by rw [e])
  simp (disch := omega) only [EV, int_ne, h, this]
end Go.Proofs.Ytnagpmhaddfgmaa
/-
 Plain laws: small functions of both sides; grounds.
-/
namespace Go.Proofs.Ytnagpmhaddfgmaa
theorem wmg {α : Type} (l : List α) (d : α) (p : α → Bool) : ((List.range l.length).all fun i => p (l.getD i d)) = l.all p := by
 induction l with
 | nil => rfl
 | cons x l ih =>
  rw [List.length_cons, List.range_succ_eq_map, List.all_cons, List.all_map, List.all_cons]
  exact congrArg (p x && ·) ih
def wnc (n a b : Int) : Bool := decide (a ≤ n) && decide (n ≤ b)
def allIn (l : List Int) (a b : Int) : Bool := l.all fun x => wnc x a b
theorem waab {n a b : Int} : wnc n a b = true ↔ a ≤ n ∧ n ≤ b := by simp [wnc]
theorem wmh {l : List Int} {a b : Int} : allIn l a b = true ↔ ∀ x ∈ l, a ≤ x ∧ x ≤ b := by simp [allIn, wnc]
theorem wii {l : List Int} {a b : Int} (h : allIn l a b = true) {i : Nat} (hi : i < l.length) : a ≤ l.getD i 0 ∧ l.getD i 0 ≤ b := wmh.1 h _ (getD_mem hi)
theorem wwc (n a b : Int) : wabv n a b = some (wnc n a b) := by
 unfold wabv waup wnc
 simp only [Tr.ev_t, Tr.ev_l]
 cases decide (a ≤ n) <;> rfl
theorem wij (n a b : Int) : F_zu n a b = some (wnc n a b) := by
 unfold F_zu T_zu wnc
 simp only [Tr.ev_t, Tr.ev_l]
 cases decide (a ≤ n) <;> rfl
theorem wahj (a b : Int) : wamn a b = some (max a b) := by
 unfold wamn wawd
 simp (disch := omega) only [EV]
 by_cases h : b < a
 ·rw [if_pos h, Int.max_eq_left (by omega)]
 ·rw [if_neg h, Int.max_eq_right (by omega)]
theorem waac {l : List Int} (hl : wgb l) (n b : Int) : wafp l n b = some (allIn l 0 b && ((l.length : Int) == n)) := by
 unfold wgb at hl
 unfold wafp wauq
 have hs : wafo (l, (n, b)) 0 = _ := wgy (f := fun v => (wlb (l, (n, b)) v).ev) (n := l.length) (mk := fun i => (i : Int)) (p := fun i => wnc (l.getD i 0) 0 b) (yes := .inl ()) (no := .inr ()) (fun i hi _ => by
  simp (disch := omega) only [EV, wlb, hi, wwc]
  cases wnc (l.getD i 0) 0 b <;> rfl) (by simp (disch := omega) only [EV, wlb, Nat.lt_irrefl])
 rw [wmg l 0 (fun x => wnc x 0 b)] at hs
 simp (disch := omega) only [EV, hs]
 unfold allIn
 cases l.all fun x => wnc x 0 b <;> rfl
theorem wsz {V R α : Type} {f : V → Option (V ⊕ R)} {l : List α} (d : α) (q : α → Bool) (mk : Nat → V) (yes : Nat → R) (no : R)
  (h : ∀ i : Nat, i < l.length → f (mk i) = some (bif q (l.getD i d) then .inr (yes i) else .inl (mk (i + 1)))) (hend : f (mk l.length) = some (.inr no)) :
  iter f (mk 0) = some ((l.findIdx? q).elim no yes) := by
 have key : ∀ (k i : Nat), i + k = l.length → iter f (mk i) = some (((l.drop i).findIdx? q).elim no (fun j => yes (j + i))) := by
  intro k
  induction k with
  | zero =>
   intro i hk
   have : i = l.length := by omega
   subst this
   rw [waa, hend]
   simp
  | succ k ih =>
   intro i hk
   rw [waa, h i (by omega), List.drop_eq_getElem_cons (by omega), List.findIdx?_cons]
   have e : l.getD i d = l[i] := by rw [List.getD_eq_getElem?_getD, List.getElem?_eq_getElem (by omega)]; rfl
   rw [e]
   cases q l[i] with
   | true => simp
   | false =>
    simp only [cond_false, Bool.false_eq_true, if_false]
    rw [ih (i + 1) (by omega)]
    cases (l.drop (i + 1)).findIdx? q with
    | none => rfl
    | some j => simp [Nat.add_comm, Nat.add_left_comm]
 have := key l.length 0 (by omega)
 simpa using this
theorem wmi {α : Type} {l : List α} {q : α → Bool} : l.any q = true ↔ (l.findIdx? q).isSome = true := by
 simp [List.findIdx?_isSome]
theorem wpt {l : List (Int)} (hl : (l.length : Int) < 9223372036854775807) {p : HL [.int .i64] → Option Bool} {q : Int → Bool} (hp : ∀ n ∈ l, p (n, ()) = some (q n)) :
  wamv l p = some ((l.findIdx? q).elim (-1) (fun i => (i : Int))) := by
 unfold wamv wawy
 have hs : wagb (l, (p, ((l.length : Nat) : Int))) 0 = _ := wsz (f := fun v => (wlj (l, (p, ((l.length : Nat) : Int))) v).ev) (l := l) 0 q (mk := fun i => (i : Int)) (yes := fun i => .inr (i : Int)) (no := .inl ()) (fun i hi => by
  simp (disch := omega) only [EV, wlj, hi, hp _ (getD_mem hi)]
  cases q (l.getD i 0) <;> rfl) (by simp (disch := omega) only [EV, wlj, Nat.lt_irrefl])
 simp (disch := omega) only [EV, hs]
 cases l.findIdx? q <;> rfl
theorem wjc {l : List (Int)} (hl : (l.length : Int) < 9223372036854775807) {p : HL [.int .i64] → Option Bool} {q : Int → Bool} (hp : ∀ n ∈ l, p (n, ()) = some (q n)) :
  wamw l p = some (l.any q) := by
 unfold wamw waxd
 simp (disch := omega) only [EV, wpt hl hp]
 congr 1
 rw [Bool.eq_iff_iff, wmi]
 cases l.findIdx? q <;> simp
theorem wnd {l : List (List Int)} (hl : (l.length : Int) < 9223372036854775807) {p : HL [.slice (.int .i64)] → Option Bool} {q : List Int → Bool} (hp : ∀ n ∈ l, p (n, ()) = some (q n)) :
  wamy l p = some ((l.findIdx? q).elim (-1) (fun i => (i : Int))) := by
 unfold wamy waxe
 have hs : wagc (l, (p, ((l.length : Nat) : Int))) 0 = _ := wsz (f := fun v => (wlk (l, (p, ((l.length : Nat) : Int))) v).ev) (l := l) [] q (mk := fun i => (i : Int)) (yes := fun i => .inr (i : Int)) (no := .inl ()) (fun i hi => by
  simp (disch := omega) only [EV, wlk, hi, hp _ (getD_mem hi)]
  cases q (l.getD i []) <;> rfl) (by simp (disch := omega) only [EV, wlk, Nat.lt_irrefl])
 simp (disch := omega) only [EV, hs]
 cases l.findIdx? q <;> rfl
theorem wik {l : List (List Int)} (hl : (l.length : Int) < 9223372036854775807) {p : HL [.slice (.int .i64)] → Option Bool} {q : List Int → Bool} (hp : ∀ n ∈ l, p (n, ()) = some (q n)) :
  wamz l p = some (l.any q) := by
 unfold wamz waxj
 simp (disch := omega) only [EV, wnd hl hp]
 congr 1
 rw [Bool.eq_iff_iff, wmi]
 cases l.findIdx? q <;> simp
theorem wgz {l : List Int} (hl : wgb l) (a b : Int) : F_zq l a b = some (allIn l a b) := by
 unfold wgb at hl
 unfold F_zq T_zq
 rw [Tr.ev_c, wjc (by omega) (q := fun n => !(wnc n a b)) fun n _ => by
  unfold F_zr T_zr
  simp (disch := omega) only [EV, wij]]
 simp (disch := omega) only [EV]
 unfold allIn
 rw [List.any_eq_not_all_not]
 simp
end Go.Proofs.Ytnagpmhaddfgmaa
/-
 Plain laws: marks that are written into a result, and read again.
-/
namespace Go.Proofs.Ytnagpmhaddfgmaa
def wel (k : Int) (n : Nat) : List Int := (List.range n).map fun (i : Nat) => k + (i : Int)
theorem wfe (k : Int) (n : Nat) : (wel k n).length = n := by simp [wel]
theorem wacg (k : Int) (n : Nat) : wel k (n + 1) = wel k n ++ [k + (n : Int)] := by simp [wel, List.range_succ]
theorem wapb (k : Int) {l : List Int} {i : Nat} (h : i < l.length) : (wel k i ++ l.drop i).set i (k + (i : Int)) = wel k (i + 1) ++ l.drop (i + 1) := by
 rw [List.set_append_right _ _ (by rw [wfe]; omega), wfe, Nat.sub_self, List.drop_eq_getElem_cons h, List.set_cons_zero, wacg, List.append_assoc]
 rfl
theorem wmj {l : List Int} (hl : wgb l) {k : Int} (h0 : 0 ≤ k) (h1 : k ≤ 4611686018427387904) : wahc k l = some (k + (l.length : Int), wel k l.length) := by
 unfold wgb at hl
 unfold wahc wazt
 have hs := (wbe (f := fun v => (wmc () v).ev) (n := l.length) (mk := fun i (_ : Unit) => (k + (i : Int), ((i : Int), wel k i ++ l.drop i))) (I := fun _ _ => True) (g := fun s _ => s) (fin := fun _ => (k + (l.length : Int), wel k l.length)) (s0 := ()) trivial
  (fun i s hi _ => ⟨by
   have hlen : (wel k i ++ l.drop i).length = l.length := by simp [wfe]; omega
   simp (disch := omega) only [EV, wmc, hlen, hi, wapb k hi, ← Int.add_assoc]
   congr 1; congr 1; congr 1
   omega, trivial⟩)
  (fun s _ => by
   have hlen : (wel k l.length ++ l.drop l.length).length = l.length := by simp [wfe]
   simp (disch := omega) only [EV, wmc, wfe, Nat.lt_irrefl, List.drop_length, List.append_nil])).1
 simp only [show wel k 0 ++ l.drop 0 = l by simp [wel], Int.natCast_zero, Int.add_zero] at hs
 simp (disch := omega) only [EV, wahb, hs]
def wck : Int → List (List Int) → List (List Int)
 | _, [] => []
 | k, r :: x => wel k r.length :: wck (k + (r.length : Int)) x
def tot : Int → List (List Int) → Int
 | k, [] => k
 | k, r :: x => tot (k + (r.length : Int)) x
theorem waad (r : List Int) : ∀ (x : List (List Int)) (k : Int), tot k (x ++ [r]) = tot k x + (r.length : Int)
 | [], k => rfl
 | q :: x, k => by simp only [List.cons_append, tot]; exact waad r x _
theorem wmk (r : List Int) : ∀ (x : List (List Int)) (k : Int), wck k (x ++ [r]) = wck k x ++ [wel (tot k x) r.length]
 | [], k => rfl
 | q :: x, k => by simp only [List.cons_append, wck, tot]; rw [wmk r x]
theorem wfn : ∀ (x : List (List Int)) (k : Int), (wck k x).length = x.length
 | [], _ => rfl
 | q :: x, k => by simp [wck, wfn x]
theorem wta : ∀ {x : List (List Int)} {k : Int}, (∀ r ∈ x, wgb r) → k ≤ tot k x ∧ tot k x ≤ k + (x.length : Int) * 1048576
 | [], k, _ => by simp [tot]
 | r :: x, k, h => by
  have h1 := h r List.mem_cons_self
  unfold wgb at h1
  obtain ⟨h2, h3⟩ := wta (x := x) (k := k + (r.length : Int)) fun r hr => h r (List.mem_cons_of_mem _ hr)
  simp only [tot, List.length_cons]
  constructor
  ·omega
  ·have : ((x.length + 1 : Nat) : Int) * 1048576 = (x.length : Int) * 1048576 + 1048576 := by omega
   omega
theorem take_snoc {α : Type} {l : List α} {i : Nat} (d : α) (h : i < l.length) : l.take (i + 1) = l.take i ++ [l.getD i d] := by
 rw [List.take_succ_eq_append_getElem h, List.getD_eq_getElem?_getD, List.getElem?_eq_getElem h]
 rfl
theorem waae {x : List (List Int)} (hx : wwa x) {k : Int} (i : Nat) : k ≤ tot k (x.take i) ∧ tot k (x.take i) ≤ k + 1099511627776 := by
 obtain ⟨h1, h2⟩ := wta (x := x.take i) (k := k) fun r hr => hx.2 r (List.mem_of_mem_take hr)
 have h3 : ((x.take i).length : Int) ≤ 1048576 := by
  have := hx.1
  rw [List.length_take]
  omega
 refine ⟨h1, ?_⟩
 have : ((x.take i).length : Int) * 1048576 ≤ 1048576 * 1048576 := Int.mul_le_mul_of_nonneg_right h3 (by omega)
 omega
theorem wtb {x : List (List Int)} (hx : wwa x) {k : Int} (h0 : 0 ≤ k) (h1 : k ≤ 2305843009213693952) : waoo k x = some (tot k x, wck k x) := by
 have hl := hx.1
 unfold waoo wazx
 have hs := (wbe (f := fun v => (wmd () v).ev) (n := x.length) (mk := fun i (_ : Unit) => (tot k (x.take i), ((i : Int), wck k (x.take i) ++ x.drop i))) (I := fun _ _ => True) (g := fun s _ => s) (fin := fun _ => (tot k x, wck k x)) (s0 := ()) trivial
  (fun i s hi _ => ⟨by
   have hml : (wck k (x.take i)).length = i := by rw [wfn, List.length_take]; omega
   have hlen : (wck k (x.take i) ++ x.drop i).length = x.length := by rw [List.length_append, hml, List.length_drop]; omega
   have hget : (wck k (x.take i) ++ x.drop i).getD i [] = x.getD i [] := by
    rw [List.getD_eq_getElem?_getD, List.getElem?_append_right (by omega), hml, Nat.sub_self, List.getElem?_drop, List.getD_eq_getElem?_getD, Nat.add_zero]
   have hb := waae hx (k := k) i
   have hset : (wck k (x.take i) ++ x.drop i).set i (wel (tot k (x.take i)) (x.getD i []).length) = wck k (x.take (i + 1)) ++ x.drop (i + 1) := by
    rw [List.set_append_right _ _ (by omega), hml, Nat.sub_self, List.drop_eq_getElem_cons hi, List.set_cons_zero, take_snoc [] hi, wmk, List.append_assoc]
    rfl
   have htot : tot k (x.take (i + 1)) = tot k (x.take i) + ((x.getD i []).length : Int) := by rw [take_snoc [] hi, waad]
   simp (disch := omega) only [EV, wmd, hlen, hi, hget, wmj (hx.2 _ (getD_mem (d := []) hi)) (k := tot k (x.take i)) (by omega) (by omega), hset, htot]
   rfl, trivial⟩)
  (fun s _ => by
   have hlen : (wck k (x.take x.length) ++ x.drop x.length).length = x.length := by simp [wfn]
   simp (disch := omega) only [EV, wmd, wfn, Nat.lt_irrefl, List.drop_length, List.append_nil, List.take_length])).1
 simp only [List.take_zero, List.drop_zero, wck, tot, List.nil_append, Int.natCast_zero] at hs
 simp (disch := omega) only [EV, wahd, hs]
theorem wtc {o : List Int} {ds : List (List Int)} (ho : wgb o) (hd : wwa ds) {k : Int} (h0 : 0 ≤ k) (h1 : k ≤ 1099511627776) : ∃ m, waop k o ds = some (m, wel k o.length, wck (k + (o.length : Int)) ds) ∧ m = tot (k + (o.length : Int)) ds ∧ k ≤ m ∧ m ≤ k + 2199023255552 := by
 have hl := ho
 unfold wgb at hl
 have hb := waae hd (k := k + (o.length : Int)) ds.length
 rw [List.take_length] at hb
 unfold waop wbad
 simp (disch := omega) only [EV, wmj ho h0 (by omega), wtb hd (k := k + (o.length : Int)) (by omega) (by omega)]
 exact ⟨_, rfl, rfl, by omega, by omega⟩
end Go.Proofs.Ytnagpmhaddfgmaa
/-
 Plain laws: the first one of the least ones.
-/
namespace Go.Proofs.Ytnagpmhaddfgmaa
end Go.Proofs.Ytnagpmhaddfgmaa
