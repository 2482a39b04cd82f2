/-
 Plain rules: evaluation of trees, rounds that count.
-/
import Derived.Test.YtnagpmhaddfgmaaB30
import Derived.Test.YtnagpmhaddfgmaaC1
namespace Go.Proofs.Ytnagpmhaddfgmaa
theorem wali (i n : Nat) : inR (i : Int) n = decide (i < n) := by
 unfold inR; simp
theorem wayr {i : Int} {n : Nat} (h0 : 0 ≤ i) (h1 : i < n) : inR i n = true := by unfold inR; simp; omega
theorem getD_mem {α : Type} {l : List α} {i : Nat} {d : α} (h : i < l.length) : l.getD i d ∈ l := by
 rw [List.getD_eq_getElem?_getD, List.getElem?_eq_getElem h]
 exact List.getElem_mem h
theorem EV : (∀ {L : Type} (b : Bool) (x y : Tr L), (Tr.t b x y).ev = bif b then x.ev else y.ev) ∧
  (∀ {L : Type} (R : Type) (x : Option R) (k : R → Tr L), (Tr.c R x k).ev = x.bind fun r => (k r).ev) ∧
  (∀ {L : Type} (b : Bool) (x : Tr L), (Tr.g b x).ev = bif b then x.ev else none) ∧
  (∀ {L : Type} (x : L), (Tr.l x).ev = some x) ∧
  (∀ {A B L : Type} (a : A) (k : A → Tr L) (k' : B → Tr L), (Tr.s A B (.inl a) k k').ev = (k a).ev) ∧
  (∀ {A B L : Type} (a : B) (k : A → Tr L) (k' : B → Tr L), (Tr.s A B (.inr a) k k').ev = (k' a).ev) ∧
  (∀ i n : Nat, inR (i : Int) n = decide (i < n)) ∧
  (∀ {i : Int} {n : Nat}, 0 ≤ i → i < n → inR i n = true) ∧
  (∀ {n m : Nat}, ((n : Int) < (m : Int)) ↔ n < m) ∧
  (∀ h : Decidable True, @decide True h = true) ∧
  (∀ h : Decidable False, @decide False h = false) ∧
  (∀ {α : Type} (a b : α), (bif true then a else b) = a) ∧
  (∀ {α : Type} (a b : α), (bif false then a else b) = b) ∧
  (∀ {α β : Type} (a : α) (f : α → Option β), (some a).bind f = f a) ∧
  (∀ n : Nat, ((n : Int)).toNat = n) ∧
  (∀ {n : Int}, -9223372036854775808 ≤ n → n < 9223372036854775808 → IntKind.wrap .i64 n = n) ∧
  ((!true) = false) ∧ ((!false) = true) ∧ (∀ b : Bool, (true && b) = b) ∧ (∀ b : Bool, (b && true) = b) ∧ (∀ b : Bool, (false && b) = false) ∧ (∀ b : Bool, (b && false) = false) ∧
  (∀ {α : Type} (p : Prop) (h : Decidable p) (a b : α), (bif @decide p h then a else b) = if p then a else b) ∧
  (∀ {α : Type} (h : Decidable True) (a b : α), (@ite α True h a b) = a) ∧
  (∀ {α : Type} (h : Decidable False) (a b : α), (@ite α False h a b) = b) := by
 refine ⟨fun b x y => rfl, fun R x k => rfl, fun b x => rfl, fun x => rfl, fun a k k' => rfl, fun a k k' => rfl, wali, wayr, Int.ofNat_lt, fun h => by simp, fun h => by simp, fun a b => rfl, fun a b => rfl, fun a f => rfl, fun n => rfl, wrap64,
  rfl, rfl, fun b => by simp, fun b => by simp, fun b => by simp, fun b => by simp, fun p h a b => ?_, fun h a b => by simp, fun h a b => by simp⟩
 by_cases hp : p <;> simp [hp]
theorem wev {S : Type} (g : S → Nat → S) (s : S) (n : Nat) : (List.range (n + 1)).foldl g s = g ((List.range n).foldl g s) n := by
 rw [List.range_succ, List.foldl_append]; rfl
theorem wbh {V S R : Type} {f : V → Option (V ⊕ R)} {n : Nat} (mk : Nat → S → V) (I : Nat → S → Prop) (g : S → Nat → S) (fin : S → R) {s0 : S} (h0 : I 0 s0)
  (hstep : ∀ i s, i < n → I i s → f (mk i s) = some (.inl (mk (i + 1) (g s i))) ∧ I (i + 1) (g s i))
  (hend : ∀ s, I n s → f (mk n s) = some (.inr (fin s))) :
  iter f (mk 0 s0) = some (fin ((List.range n).foldl g s0)) ∧ I n ((List.range n).foldl g s0) := by
 have hI : ∀ i, i ≤ n → I i ((List.range i).foldl g s0) := by
  intro i
  induction i with
  | zero => intro _; exact h0
  | succ i ih => intro hi; rw [wev]; exact (hstep i _ (by omega) (ih (by omega))).2
 have key : ∀ k i, i + k = n → iter f (mk i ((List.range i).foldl g s0)) = some (fin ((List.range n).foldl g s0)) := by
  intro k
  induction k with
  | zero =>
   intro i hi
   have : i = n := by omega
   subst this
   rw [wac, hend _ (hI i (Nat.le_refl _))]
  | succ k ih =>
   intro i hi
   rw [wac, (hstep i _ (by omega) (hI i (by omega))).1]
   have := ih (i + 1) (by omega)
   rw [wev] at this
   exact this
 exact ⟨key n 0 (by omega), hI n (Nat.le_refl _)⟩
theorem waai {α S : Type} (l : List α) (d : α) (g : S → α → S) (s : S) : (List.range l.length).foldl (fun s i => g s (l.getD i d)) s = l.foldl g s := by
 induction l generalizing s with
 | nil => rfl
 | cons x l ih =>
  rw [List.length_cons, List.range_succ_eq_map, List.foldl_cons, List.foldl_map, List.foldl_cons]
  exact ih _
theorem wej {V S R α : Type} {f : V → Option (V ⊕ R)} (l : List α) (d : α) (mk : Nat → S → V) (I : Nat → S → Prop) (g : S → α → S) (fin : S → R) {s0 : S} (h0 : I 0 s0)
  (hstep : ∀ i s, i < l.length → I i s → f (mk i s) = some (.inl (mk (i + 1) (g s (l.getD i d)))) ∧ I (i + 1) (g s (l.getD i d)))
  (hend : ∀ s, I l.length s → f (mk l.length s) = some (.inr (fin s))) :
  iter f (mk 0 s0) = some (fin (l.foldl g s0)) ∧ I l.length (l.foldl g s0) := by
 have := wbh mk I (fun s i => g s (l.getD i d)) fin h0 hstep hend
 rw [waai] at this
 exact this
theorem walj {V S R : Type} {f : V → Option (V ⊕ R)} {n : Nat} (mk : Nat → S → V) (I : Nat → S → Prop) (Q : R → Prop) {s0 : S} (h0 : I 0 s0)
  (hstep : ∀ i s, i < n → I i s → (∃ s', f (mk i s) = some (.inl (mk (i + 1) s')) ∧ I (i + 1) s') ∨ ∃ r, f (mk i s) = some (.inr r) ∧ Q r)
  (hend : ∀ s, I n s → ∃ r, f (mk n s) = some (.inr r) ∧ Q r) : ∃ r, iter f (mk 0 s0) = some r ∧ Q r := by
 have key : ∀ k i s, i + k = n → I i s → ∃ r, iter f (mk i s) = some r ∧ Q r := by
  intro k
  induction k with
  | zero =>
   intro i s hi hI
   have : i = n := by omega
   subst this
   obtain ⟨r, h1, h2⟩ := hend s hI
   exact ⟨r, by rw [wac, h1], h2⟩
  | succ k ih =>
   intro i s hi hI
   rcases hstep i s (by omega) hI with ⟨s', h1, h2⟩ | ⟨r, h1, h2⟩
   ·obtain ⟨r, h3, h4⟩ := ih (i + 1) s' (by omega) h2
    exact ⟨r, by rw [wac, h1]; exact h3, h4⟩
   ·exact ⟨r, by rw [wac, h1], h2⟩
 exact key n 0 s0 (by omega) h0
theorem whp {V R : Type} {f : V → Option (V ⊕ R)} {n : Nat} (mk : Nat → V) (p : Nat → Bool) (yes : R) (no : R)
  (h : ∀ i : Nat, i < n → (∀ j, j < i → p j = true) → f (mk i) = some (bif p i then .inl (mk (i + 1)) else .inr no)) (hend : f (mk n) = some (.inr yes)) :
  iter f (mk 0) = some (bif (List.range n).all p then yes else no) := by
 have key : ∀ (k i : Nat), i + k = n → (∀ j, j < i → p j = true) → iter f (mk i) = some (bif (List.range' i k).all p then yes else no) := by
  intro k
  induction k with
  | zero =>
   intro i hk _
   have : i = n := by omega
   subst this
   rw [wac, hend]
   rfl
  | succ k ih =>
   intro i hk hj
   rw [wac, h i (by omega) hj, List.range'_succ, List.all_cons]
   cases hs : p i with
   | false => rfl
   | true =>
    simp only [cond_true, Bool.true_and]
    exact ih (i + 1) (by omega) fun j hj' => by
     by_cases e : j = i
     ·rw [e]; exact hs
     ·exact hj j (by omega)
 have := key n 0 (by omega) fun j hj => absurd hj (Nat.not_lt_zero _)
 rw [List.range_eq_range']
 exact this
end Go.Proofs.Ytnagpmhaddfgmaa
/-
 Plain laws: what the laws' own helpers compute: sizes, copies, comparisons.
-/
namespace Go.Proofs.Ytnagpmhaddfgmaa
def Fit1 (l : List Int) : Prop := (l.length : Int) < 9223372036854775808
def Fit2 (x : List (List Int)) : Prop := (x.length : Int) < 9223372036854775808 ∧ ∀ r ∈ x, Fit1 r
def wgo (l : List Int) : Prop := (l.length : Int) ≤ 1048576
def wsa (x : List (List Int)) : Prop := (x.length : Int) ≤ 1048576 ∧ ∀ r ∈ x, wgo r
theorem walm {α : Type} {l : List α} {i : Nat} {d : α} (h : i < l.length) (d' : α) : (l.take i ++ List.replicate (l.length - i) d).set i (l.getD i d') = l.take (i + 1) ++ List.replicate (l.length - (i + 1)) d := by
 have hl : (l.take i).length = i := by simp; omega
 rw [List.set_append_right _ _ (by omega), hl, Nat.sub_self, show l.length - i = (l.length - (i + 1)) + 1 by omega, List.replicate_succ, List.set_cons_zero, List.take_succ_eq_append_getElem h,
  List.getD_eq_getElem?_getD, List.getElem?_eq_getElem h, List.append_assoc]
 rfl
theorem wsb {α : Type} {f : Int × List α → Option ((Int × List α) ⊕ List α)} {l : List α} (d : α)
  (hstep : ∀ (i : Nat) (r : List α), i < l.length → r.length = l.length → f ((i : Int), r) = some (.inl (((i + 1 : Nat) : Int), r.set i (l.getD i d))))
  (hend : ∀ r : List α, f ((l.length : Int), r) = some (.inr r)) : iter f (0, List.replicate l.length d) = some l := by
 have := (wbh (f := f) (n := l.length) (mk := fun i (_ : Unit) => ((i : Int), l.take i ++ List.replicate (l.length - i) d)) (I := fun _ _ => True) (g := fun s _ => s) (fin := fun _ => l) (s0 := ()) trivial
  (fun i s hi _ => ⟨by
   rw [hstep i _ hi (by simp; omega), walm hi], trivial⟩)
  (fun s _ => by rw [hend]; simp)).1
 simpa using this
theorem waln {α : Type} [BEq α] [LawfulBEq α] {a b : List α} {d : α} (h : a.length = b.length) : ((List.range a.length).all fun i => a.getD i d == b.getD i d) = (a == b) := by
 rw [Bool.eq_iff_iff, List.all_eq_true, beq_iff_eq]
 constructor
 ·intro h1
  refine List.ext_getElem h fun i hi hi' => ?_
  have := h1 i (List.mem_range.2 hi)
  rw [List.getD_eq_getElem?_getD, List.getD_eq_getElem?_getD, List.getElem?_eq_getElem hi, List.getElem?_eq_getElem hi'] at this
  simpa using this
 ·rintro rfl i _
  simp
theorem int_ne (a b : Nat) : (((a : Nat) : Int) != ((b : Nat) : Int)) = !(decide (a = b)) := by
 by_cases h : a = b
 ·subst h; simp
 ·have : ((a : Nat) : Int) ≠ ((b : Nat) : Int) := by omega
  simp [h, bne, this]
theorem int_eq (a b : Nat) : (((a : Nat) : Int) == ((b : Nat) : Int)) = decide (a = b) := by
 by_cases h : a = b
 ·subst h; simp
 ·have : ((a : Nat) : Int) ≠ ((b : Nat) : Int) := by omega
  simp [h, this]
theorem wafx {α : Type} [BEq α] [LawfulBEq α] {f : Int → Option (Int ⊕ (Unit ⊕ Unit))} {a b : List α} (d : α) (hl : a.length = b.length)
  (hstep : ∀ i : Nat, i < a.length → f (i : Int) = some (bif a.getD i d == b.getD i d then .inl ((i + 1 : Nat) : Int) else .inr (.inr ())))
  (hend : f (a.length : Int) = some (.inr (.inl ()))) : iter f 0 = some (bif a == b then .inl () else .inr ()) := by
 have := whp (f := f) (n := a.length) (mk := fun i => (i : Int)) (p := fun i => a.getD i d == b.getD i d) (yes := .inl ()) (no := .inr ()) (fun i hi _ => hstep i hi) hend
 rw [waln hl] at this
 exact this
theorem wayu {α : Type} {f : Int × Int → Option ((Int × Int) ⊕ (Int ⊕ Unit))} {l : List α} (d : α) (Q : α → Prop) {b : Int} (h0 : 0 ≤ b) (h1 : b ≤ 1048576)
  (hstep : ∀ (i : Nat) (s : Int), i < l.length → 0 ≤ s → s ≤ 1048576 → (∃ s', f (s, (i : Int)) = some (.inl (s', ((i + 1 : Nat) : Int))) ∧ 0 ≤ s' ∧ s' ≤ 1048576 ∧ Q (l.getD i d)) ∨ f (s, (i : Int)) = some (.inr (.inr ())))
  (hend : ∀ s, f (s, (l.length : Int)) = some (.inr (.inl s))) : iter f (b, 0) = some (.inr ()) ∨ ∃ s, iter f (b, 0) = some (.inl s) ∧ 0 ≤ s ∧ s ≤ 1048576 ∧ ∀ x ∈ l, Q x := by
 have := walj (f := f) (n := l.length) (mk := fun i s => (s, (i : Int))) (I := fun i s => 0 ≤ s ∧ s ≤ 1048576 ∧ ∀ j, j < i → Q (l.getD j d)) (Q := fun r => r = .inr () ∨ ∃ s, r = .inl s ∧ 0 ≤ s ∧ s ≤ 1048576 ∧ ∀ x ∈ l, Q x) (s0 := b)
  ⟨h0, h1, fun j hj => absurd hj (Nat.not_lt_zero _)⟩ (fun i s hi hs => by
   rcases hstep i s hi hs.1 hs.2.1 with ⟨s', k1, k2, k3, k4⟩ | k
   ·exact .inl ⟨s', k1, k2, k3, fun j hj => by
     by_cases e : j = i
     ·rw [e]; exact k4
     ·exact hs.2.2 j (by omega)⟩
   ·exact .inr ⟨_, k, .inl rfl⟩) (fun s hs => ⟨_, hend s, .inr ⟨s, rfl, hs.1, hs.2.1, fun x hx => by
    obtain ⟨j, hj, e⟩ := List.getElem_of_mem hx
    have := hs.2.2 j hj
    rw [List.getD_eq_getElem?_getD, List.getElem?_eq_getElem hj] at this
    rw [← e]; exact this⟩⟩)
 obtain ⟨r, h2, h3⟩ := this
 rcases h3 with rfl | ⟨s, rfl, h4⟩
 ·exact .inl h2
 ·exact .inr ⟨s, h2, h4⟩
def Sz (o : Option Int) (Q : Prop) : Prop := ∃ r, o = some r ∧ r ≤ 1048576 ∧ (0 ≤ r → Q)
theorem wafy {l : List Int} {b : Int} (hl : Fit1 l) (h0 : 0 ≤ b) (h1 : b ≤ 1048576) : waaf l b = some (if b - (l.length : Int) < 0 then -1 else b - (l.length : Int)) := by
 unfold Fit1 at hl
 unfold waaf wars
 simp (disch := omega) only [EV]
 split <;> rfl
theorem wsc {l : List Int} {b : Int} (hl : Fit1 l) (h0 : 0 ≤ b) (h1 : b ≤ 1048576) : Sz (waaf l b) (wgo l) := by
 refine ⟨_, wafy hl h0 h1, ?_, fun h => ?_⟩
 ·split <;> omega
 ·unfold wgo
  split at h <;> omega
theorem waaj {x : List (List Int)} {b : Int} (hx : Fit2 x) (h0 : 0 ≤ b) (h1 : b ≤ 1048576) : Sz (wajv x b) (wsa x) := by
 obtain ⟨hx1, hx2⟩ := hx
 unfold wajv wart
 simp (disch := omega) only [EV]
 by_cases hb : b - (x.length : Int) < 0
 ·simp (disch := omega) only [EV, hb]
  exact ⟨_, rfl, by omega, fun h => by omega⟩
 ·have := wayu (f := fun v => (wme x v).ev) (l := x) [] wgo (b := b - (x.length : Int)) (by omega) (by omega) (fun i s hi k0 k1 => by
   obtain ⟨r, k2, k3, k4⟩ := wsc (hx2 _ (getD_mem (d := []) hi)) k0 k1
   simp (disch := omega) only [EV, wme, hi, k2]
   by_cases hr : r < 0
   ·right; simp (disch := omega) only [EV, hr]
   ·left
    simp (disch := omega) only [EV, hr]
    exact ⟨r, rfl, by omega, by omega, k4 (by omega)⟩) (fun s => by simp (disch := omega) only [EV, wme, Nat.lt_irrefl])
  rcases this with h | ⟨s, h, k0, k1, k2⟩
  ·simp (disch := omega) only [EV, hb, wuu, h]
   exact ⟨_, rfl, by omega, fun h => by omega⟩
  ·simp (disch := omega) only [EV, hb, wuu, h]
   exact ⟨_, rfl, by omega, fun _ => ⟨by omega, k2⟩⟩
theorem wsd {l : List Int} (hl : wgo l) : waer l = some l := by
 unfold wgo at hl
 unfold waer wasa
 rw [Tr.ev_g, show (decide ((0 : Int) ≤ ((l.length : Nat) : Int)) && decide (((l.length : Nat) : Int) ≤ ((l.length : Nat) : Int)) && decide (((8 : Nat) : Int) * ((l.length : Nat) : Int) ≤ 281474976710656)) = true by simp; omega]
 have := wsb (f := fun v => (wmf l v).ev) (l := l) 0 (fun i r hi hr => by simp (disch := omega) only [EV, wmf, hr, hi]; rfl) (fun r => by simp (disch := omega) only [EV, wmf, Nat.lt_irrefl])
 simp (disch := omega) only [EV, waeq, this]
theorem waak {x : List (List Int)} (hx : wsa x) : wajy x = some x := by
 obtain ⟨hl, hr⟩ := hx
 unfold wajy wase
 rw [Tr.ev_g, show (decide ((0 : Int) ≤ ((x.length : Nat) : Int)) && decide (((x.length : Nat) : Int) ≤ ((x.length : Nat) : Int)) && decide (((24 : Nat) : Int) * ((x.length : Nat) : Int) ≤ 281474976710656)) = true by simp; omega]
 have := wsb (f := fun v => (wmg x v).ev) (l := x) [] (fun i r hi hr' => by simp (disch := omega) only [EV, wmg, hr', hi, wsd (hr _ (getD_mem (d := []) hi))]; rfl) (fun r => by simp (disch := omega) only [EV, wmg, Nat.lt_irrefl])
 simp (disch := omega) only [EV, waes, this]
theorem wsf {a b : List Int} (ha : wgo a) : wafn a b = some (a == b) := by
 unfold wgo at ha
 unfold wafn wavl
 by_cases h : a.length = b.length
 ·have hs := wafx (f := fun v => (wmq (a, b) v).ev) (a := a) (b := b) 0 h (fun i hi => by
   have hi' : i < b.length := by omega
   simp (disch := omega) only [EV, wmq, hi, hi', bne]
   cases (a.getD i 0 == b.getD i 0) <;> rfl) (by simp (disch := omega) only [EV, wmq, Nat.lt_irrefl])
  simp (disch := omega) only [EV, int_ne, h, wafm, hs]
  cases (a == b) <;> rfl
 ·have : (a == b) = false := by
   rw [beq_eq_false_iff_ne]
   exact fun e => h (by rw [e])
  simp (disch := omega) only [EV, int_ne, h, this]
theorem woo {a b : List (List Int)} (ha : wsa a) : wuw a b = some (a == b) := by
 obtain ⟨ha, hr⟩ := ha
 unfold wuw wavp
 by_cases h : a.length = b.length
 ·have hs := wafx (f := fun v => (wmr (a, b) v).ev) (a := a) (b := b) [] h (fun i hi => by
   have hi' : i < b.length := by omega
   simp (disch := omega) only [EV, wmr, hi, hi', wsf (hr _ (getD_mem (d := []) hi))]
   cases (a.getD i [] == b.getD i []) <;> rfl) (by simp (disch := omega) only [EV, wmr, Nat.lt_irrefl])
  simp (disch := omega) only [EV, int_ne, h, wafo, hs]
  cases (a == b) <;> rfl
 ·have : (a == b) = false := by
   rw [beq_eq_false_iff_ne]
   exact fun e => h (by rw [e])
  simp (disch := omega) only [EV, int_ne, h, this]
end Go.Proofs.Ytnagpmhaddfgmaa
/-
 Plain laws: small functions of both sides; grounds.
-/
namespace Go.Proofs.Ytnagpmhaddfgmaa
theorem wmw {α : Type} (l : List α) (d : α) (p : α → Bool) : ((List.range l.length).all fun i => p (l.getD i d)) = l.all p := by
 induction l with
 | nil => rfl
 | cons x l ih =>
  rw [List.length_cons, List.range_succ_eq_map, List.all_cons, List.all_map, List.all_cons]
  exact congrArg (p x && ·) ih
def wnw (n a b : Int) : Bool := decide (a ≤ n) && decide (n ≤ b)
def allIn (l : List Int) (a b : Int) : Bool := l.all fun x => wnw x a b
theorem wyn {n a b : Int} : wnw n a b = true ↔ a ≤ n ∧ n ≤ b := by simp [wnw]
theorem wmx {l : List Int} {a b : Int} : allIn l a b = true ↔ ∀ x ∈ l, a ≤ x ∧ x ≤ b := by simp [allIn, wnw]
theorem wiz {l : List Int} {a b : Int} (h : allIn l a b = true) {i : Nat} (hi : i < l.length) : a ≤ l.getD i 0 ∧ l.getD i 0 ≤ b := wmx.1 h _ (getD_mem hi)
theorem wux (n a b : Int) : waag n a b = some (wnw n a b) := by
 unfold waag wasm wnw
 simp only [Tr.ev_t, Tr.ev_l]
 cases decide (a ≤ n) <;> rfl
theorem wja (n a b : Int) : F_zv n a b = some (wnw n a b) := by
 unfold F_zv T_zv wnw
 simp only [Tr.ev_t, Tr.ev_l]
 cases decide (a ≤ n) <;> rfl
theorem wafz (a b : Int) : wakn a b = some (max a b) := by
 unfold wakn waue
 simp (disch := omega) only [EV]
 by_cases h : b < a
 ·rw [if_pos h, Int.max_eq_left (by omega)]
 ·rw [if_neg h, Int.max_eq_right (by omega)]
theorem wyo {l : List Int} (hl : wgo l) (n b : Int) : waev l n b = some (allIn l 0 b && ((l.length : Int) == n)) := by
 unfold wgo at hl
 unfold waev wasn
 have hs : waeu (l, (n, b)) 0 = _ := whp (f := fun v => (wmh (l, (n, b)) v).ev) (n := l.length) (mk := fun i => (i : Int)) (p := fun i => wnw (l.getD i 0) 0 b) (yes := .inl ()) (no := .inr ()) (fun i hi _ => by
  simp (disch := omega) only [EV, wmh, hi, wux]
  cases wnw (l.getD i 0) 0 b <;> rfl) (by simp (disch := omega) only [EV, wmh, Nat.lt_irrefl])
 rw [wmw l 0 (fun x => wnw x 0 b)] at hs
 simp (disch := omega) only [EV, hs]
 unfold allIn
 cases l.all fun x => wnw x 0 b <;> rfl
theorem wsg {V R α : Type} {f : V → Option (V ⊕ R)} {l : List α} (d : α) (q : α → Bool) (mk : Nat → V) (yes : Nat → R) (no : R)
  (h : ∀ i : Nat, i < l.length → f (mk i) = some (bif q (l.getD i d) then .inr (yes i) else .inl (mk (i + 1)))) (hend : f (mk l.length) = some (.inr no)) :
  iter f (mk 0) = some ((l.findIdx? q).elim no yes) := by
 have key : ∀ (k i : Nat), i + k = l.length → iter f (mk i) = some (((l.drop i).findIdx? q).elim no (fun j => yes (j + i))) := by
  intro k
  induction k with
  | zero =>
   intro i hk
   have : i = l.length := by omega
   subst this
   rw [wac, hend]
   simp
  | succ k ih =>
   intro i hk
   rw [wac, h i (by omega), List.drop_eq_getElem_cons (by omega), List.findIdx?_cons]
   have e : l.getD i d = l[i] := by rw [List.getD_eq_getElem?_getD, List.getElem?_eq_getElem (by omega)]; rfl
   rw [e]
   cases q l[i] with
   | true => simp
   | false =>
    simp only [cond_false, Bool.false_eq_true, if_false]
    rw [ih (i + 1) (by omega)]
    cases (l.drop (i + 1)).findIdx? q with
    | none => rfl
    | some j => simp [Nat.add_comm, Nat.add_left_comm]
 have := key l.length 0 (by omega)
 simpa using this
theorem wmy {α : Type} {l : List α} {q : α → Bool} : l.any q = true ↔ (l.findIdx? q).isSome = true := by
 simp [List.findIdx?_isSome]
theorem wpz {l : List (Int)} (hl : (l.length : Int) < 9223372036854775807) {p : HL [.int .i64] → Option Bool} {q : Int → Bool} (hp : ∀ n ∈ l, p (n, ()) = some (q n)) :
  wakv l p = some ((l.findIdx? q).elim (-1) (fun i => (i : Int))) := by
 unfold wakv wauz
 have hs : wafk (l, (p, ((l.length : Nat) : Int))) 0 = _ := wsg (f := fun v => (wmo (l, (p, ((l.length : Nat) : Int))) v).ev) (l := l) 0 q (mk := fun i => (i : Int)) (yes := fun i => .inr (i : Int)) (no := .inl ()) (fun i hi => by
  simp (disch := omega) only [EV, wmo, hi, hp _ (getD_mem hi)]
  cases q (l.getD i 0) <;> rfl) (by simp (disch := omega) only [EV, wmo, Nat.lt_irrefl])
 simp (disch := omega) only [EV, hs]
 cases l.findIdx? q <;> rfl
theorem wjs {l : List (Int)} (hl : (l.length : Int) < 9223372036854775807) {p : HL [.int .i64] → Option Bool} {q : Int → Bool} (hp : ∀ n ∈ l, p (n, ()) = some (q n)) :
  wakw l p = some (l.any q) := by
 unfold wakw wave
 simp (disch := omega) only [EV, wpz hl hp]
 congr 1
 rw [Bool.eq_iff_iff, wmy]
 cases l.findIdx? q <;> simp
theorem wnx {l : List (List Int)} (hl : (l.length : Int) < 9223372036854775807) {p : HL [.slice (.int .i64)] → Option Bool} {q : List Int → Bool} (hp : ∀ n ∈ l, p (n, ()) = some (q n)) :
  waky l p = some ((l.findIdx? q).elim (-1) (fun i => (i : Int))) := by
 unfold waky wavf
 have hs : wafl (l, (p, ((l.length : Nat) : Int))) 0 = _ := wsg (f := fun v => (wmp (l, (p, ((l.length : Nat) : Int))) v).ev) (l := l) [] q (mk := fun i => (i : Int)) (yes := fun i => .inr (i : Int)) (no := .inl ()) (fun i hi => by
  simp (disch := omega) only [EV, wmp, hi, hp _ (getD_mem hi)]
  cases q (l.getD i []) <;> rfl) (by simp (disch := omega) only [EV, wmp, Nat.lt_irrefl])
 simp (disch := omega) only [EV, hs]
 cases l.findIdx? q <;> rfl
theorem wjb {l : List (List Int)} (hl : (l.length : Int) < 9223372036854775807) {p : HL [.slice (.int .i64)] → Option Bool} {q : List Int → Bool} (hp : ∀ n ∈ l, p (n, ()) = some (q n)) :
  wakz l p = some (l.any q) := by
 unfold wakz wavk
 simp (disch := omega) only [EV, wnx hl hp]
 congr 1
 rw [Bool.eq_iff_iff, wmy]
 cases l.findIdx? q <;> simp
theorem whq {l : List Int} (hl : wgo l) (a b : Int) : F_zr l a b = some (allIn l a b) := by
 unfold wgo at hl
 unfold F_zr T_zr
 rw [Tr.ev_c, wjs (by omega) (q := fun n => !(wnw n a b)) fun n _ => by
  unfold F_zs T_zs
  simp (disch := omega) only [EV, wja]]
 simp (disch := omega) only [EV]
 unfold allIn
 rw [List.any_eq_not_all_not]
 simp
end Go.Proofs.Ytnagpmhaddfgmaa
/-
 Plain laws: marks that are written into a result, and read again.
-/
namespace Go.Proofs.Ytnagpmhaddfgmaa
def wds (k : Int) (n : Nat) : List Int := (List.range n).map fun (i : Nat) => k + (i : Int)
theorem wdt (k : Int) (n : Nat) : (wds k n).length = n := by simp [wds]
theorem waal (k : Int) (n : Nat) : wds k (n + 1) = wds k n ++ [k + (n : Int)] := by simp [wds, List.range_succ]
theorem waam {k : Int} {n i : Nat} (h : i < n) : (wds k n).getD i 0 = k + (i : Int) := by
 simp [wds, List.getD_eq_getElem?_getD, h]
theorem walo (k : Int) {l : List Int} {i : Nat} (h : i < l.length) : (wds k i ++ l.drop i).set i (k + (i : Int)) = wds k (i + 1) ++ l.drop (i + 1) := by
 rw [List.set_append_right _ _ (by rw [wdt]; omega), wdt, Nat.sub_self, List.drop_eq_getElem_cons h, List.set_cons_zero, waal, List.append_assoc]
 rfl
theorem wmz {l : List Int} (hl : wgo l) {k : Int} (h0 : 0 ≤ k) (h1 : k ≤ 4611686018427387904) : wafq k l = some (k + (l.length : Int), wds k l.length) := by
 unfold wgo at hl
 unfold wafq wavv
 have hs := (wbh (f := fun v => (wms () v).ev) (n := l.length) (mk := fun i (_ : Unit) => (k + (i : Int), ((i : Int), wds k i ++ l.drop i))) (I := fun _ _ => True) (g := fun s _ => s) (fin := fun _ => (k + (l.length : Int), wds k l.length)) (s0 := ()) trivial
  (fun i s hi _ => ⟨by
   have hlen : (wds k i ++ l.drop i).length = l.length := by simp [wdt]; omega
   simp (disch := omega) only [EV, wms, hlen, hi, walo k hi, ← Int.add_assoc]
   congr 1; congr 1; congr 1
   omega, trivial⟩)
  (fun s _ => by
   have hlen : (wds k l.length ++ l.drop l.length).length = l.length := by simp [wdt]
   simp (disch := omega) only [EV, wms, wdt, Nat.lt_irrefl, List.drop_length, List.append_nil])).1
 simp only [show wds k 0 ++ l.drop 0 = l by simp [wds], Int.natCast_zero, Int.add_zero] at hs
 simp (disch := omega) only [EV, wafp, hs]
theorem wuy {n : Nat} (hn : (n : Int) ≤ 1048576) {k : Int} (h0 : 0 ≤ k) (h1 : k ≤ 4611686018427387904) : walh (wds k n) k = some (k + (n : Int)) := by
 unfold walh wawg
 have hs := (wbh (f := fun v => (wmu (wds k n) v).ev) (n := n) (mk := fun i (_ : Unit) => (k + (i : Int), (i : Int))) (I := fun _ _ => True) (g := fun s _ => s) (fin := fun _ => .inl (k + (n : Int))) (s0 := ()) trivial
  (fun i s hi _ => ⟨by
   simp (disch := omega) only [EV, wmu, wdt, hi, waam hi, bne_self_eq_false]
   congr 1; congr 1; congr 1
   omega, trivial⟩)
  (fun s _ => by simp (disch := omega) only [EV, wmu, wdt, Nat.lt_irrefl])).1
 simp only [Int.natCast_zero, Int.add_zero] at hs
 simp (disch := omega) only [EV, waft, hs]
def wbv : Int → List (List Int) → List (List Int)
 | _, [] => []
 | k, r :: x => wds k r.length :: wbv (k + (r.length : Int)) x
def tot : Int → List (List Int) → Int
 | k, [] => k
 | k, r :: x => tot (k + (r.length : Int)) x
theorem wqa (r : List Int) : ∀ (x : List (List Int)) (k : Int), tot k (x ++ [r]) = tot k x + (r.length : Int)
 | [], k => rfl
 | q :: x, k => by simp only [List.cons_append, tot]; exact wqa r x _
theorem wna (r : List Int) : ∀ (x : List (List Int)) (k : Int), wbv k (x ++ [r]) = wbv k x ++ [wds (tot k x) r.length]
 | [], k => rfl
 | q :: x, k => by simp only [List.cons_append, wbv, tot]; rw [wna r x]
theorem wdl : ∀ (x : List (List Int)) (k : Int), (wbv k x).length = x.length
 | [], _ => rfl
 | q :: x, k => by simp [wbv, wdl x]
theorem wnb : ∀ {x : List (List Int)} {k : Int}, (∀ r ∈ x, wgo r) → k ≤ tot k x ∧ tot k x ≤ k + (x.length : Int) * 1048576
 | [], k, _ => by simp [tot]
 | r :: x, k, h => by
  have h1 := h r List.mem_cons_self
  unfold wgo at h1
  obtain ⟨h2, h3⟩ := wnb (x := x) (k := k + (r.length : Int)) fun r hr => h r (List.mem_cons_of_mem _ hr)
  simp only [tot, List.length_cons]
  constructor
  ·omega
  ·have : ((x.length + 1 : Nat) : Int) * 1048576 = (x.length : Int) * 1048576 + 1048576 := by omega
   omega
theorem take_snoc {α : Type} {l : List α} {i : Nat} (d : α) (h : i < l.length) : l.take (i + 1) = l.take i ++ [l.getD i d] := by
 rw [List.take_succ_eq_append_getElem h, List.getD_eq_getElem?_getD, List.getElem?_eq_getElem h]
 rfl
theorem wqb {x : List (List Int)} (hx : wsa x) {k : Int} (i : Nat) : k ≤ tot k (x.take i) ∧ tot k (x.take i) ≤ k + 1099511627776 := by
 obtain ⟨h1, h2⟩ := wnb (x := x.take i) (k := k) fun r hr => hx.2 r (List.mem_of_mem_take hr)
 have h3 : ((x.take i).length : Int) ≤ 1048576 := by
  have := hx.1
  rw [List.length_take]
  omega
 refine ⟨h1, ?_⟩
 have : ((x.take i).length : Int) * 1048576 ≤ 1048576 * 1048576 := Int.mul_le_mul_of_nonneg_right h3 (by omega)
 omega
theorem wjl {x : List (List Int)} (hx : wsa x) {k : Int} (h0 : 0 ≤ k) (h1 : k ≤ 2305843009213693952) : wafs k x = some (tot k x, wbv k x) := by
 have hl := hx.1
 unfold wafs wavz
 have hs := (wbh (f := fun v => (wmt () v).ev) (n := x.length) (mk := fun i (_ : Unit) => (tot k (x.take i), ((i : Int), wbv k (x.take i) ++ x.drop i))) (I := fun _ _ => True) (g := fun s _ => s) (fin := fun _ => (tot k x, wbv k x)) (s0 := ()) trivial
  (fun i s hi _ => ⟨by
   have hml : (wbv k (x.take i)).length = i := by rw [wdl, List.length_take]; omega
   have hlen : (wbv k (x.take i) ++ x.drop i).length = x.length := by rw [List.length_append, hml, List.length_drop]; omega
   have hget : (wbv k (x.take i) ++ x.drop i).getD i [] = x.getD i [] := by
    rw [List.getD_eq_getElem?_getD, List.getElem?_append_right (by omega), hml, Nat.sub_self, List.getElem?_drop, List.getD_eq_getElem?_getD, Nat.add_zero]
   have hb := wqb hx (k := k) i
   have hset : (wbv k (x.take i) ++ x.drop i).set i (wds (tot k (x.take i)) (x.getD i []).length) = wbv k (x.take (i + 1)) ++ x.drop (i + 1) := by
    rw [List.set_append_right _ _ (by omega), hml, Nat.sub_self, List.drop_eq_getElem_cons hi, List.set_cons_zero, take_snoc [] hi, wna, List.append_assoc]
    rfl
   have htot : tot k (x.take (i + 1)) = tot k (x.take i) + ((x.getD i []).length : Int) := by rw [take_snoc [] hi, wqa]
   simp (disch := omega) only [EV, wmt, hlen, hi, hget, wmz (hx.2 _ (getD_mem (d := []) hi)) (k := tot k (x.take i)) (by omega) (by omega), hset, htot]
   rfl, trivial⟩)
  (fun s _ => by
   have hlen : (wbv k (x.take x.length) ++ x.drop x.length).length = x.length := by simp [wdl]
   simp (disch := omega) only [EV, wmt, wdl, Nat.lt_irrefl, List.drop_length, List.append_nil, List.take_length])).1
 simp only [List.take_zero, List.drop_zero, wbv, tot, List.nil_append, Int.natCast_zero] at hs
 simp (disch := omega) only [EV, wafr, hs]
theorem wnc : ∀ (x : List (List Int)) (k : Int) (i : Nat), i < x.length → (wbv k x).getD i [] = wds (tot k (x.take i)) (x.getD i []).length
 | [], _, _, h => by simp at h
 | r :: x, k, 0, _ => rfl
 | r :: x, k, i + 1, h => by
  simp only [wbv, List.getD_cons_succ, List.take_succ_cons, tot]
  exact wnc x _ i (by simpa using h)
theorem wsh {x : List (List Int)} (hx : wsa x) {k : Int} (h0 : 0 ≤ k) (h1 : k ≤ 2305843009213693952) : wafv (wbv k x) k = some (tot k x) := by
 have hl := hx.1
 unfold wafv wawl
 have hs := (wbh (f := fun v => (wmv (wbv k x) v).ev) (n := x.length) (mk := fun i (_ : Unit) => (tot k (x.take i), (i : Int))) (I := fun _ _ => True) (g := fun s _ => s) (fin := fun _ => .inl (tot k x)) (s0 := ()) trivial
  (fun i s hi _ => ⟨by
   have hb := wqb hx (k := k) i
   have hr := hx.2 _ (getD_mem (d := []) hi)
   have htot : tot k (x.take (i + 1)) = tot k (x.take i) + ((x.getD i []).length : Int) := by rw [take_snoc [] hi, wqa]
   have hneg : ¬ tot k (x.take i) + ((x.getD i []).length : Int) < 0 := by omega
   simp (disch := omega) only [EV, wmv, wdl, hi, wnc x k i hi, wuy hr (k := tot k (x.take i)) (by omega) (by omega), hneg, htot]
   rfl, trivial⟩)
  (fun s _ => by simp (disch := omega) only [EV, wmv, wdl, Nat.lt_irrefl, List.take_length])).1
 simp only [List.take_zero, tot, Int.natCast_zero] at hs
 simp (disch := omega) only [EV, wafu, hs]
theorem wsi {o : List Int} {ds : List (List Int)} (ho : wgo o) (hd : wsa ds) {k : Int} (h0 : 0 ≤ k) (h1 : k ≤ 1099511627776) : ∃ m, walg k o ds = some (m, wds k o.length, wbv (k + (o.length : Int)) ds) ∧ m = tot (k + (o.length : Int)) ds ∧ k ≤ m ∧ m ≤ k + 2199023255552 := by
 have hl := ho
 unfold wgo at hl
 have hb := wqb hd (k := k + (o.length : Int)) ds.length
 rw [List.take_length] at hb
 unfold walg wawe
 simp (disch := omega) only [EV, wmz ho h0 (by omega), wjl hd (k := k + (o.length : Int)) (by omega) (by omega)]
 exact ⟨_, rfl, rfl, by omega, by omega⟩
end Go.Proofs.Ytnagpmhaddfgmaa
/-
 Plain laws: the first one of the least ones.
-/
namespace Go.Proofs.Ytnagpmhaddfgmaa
end Go.Proofs.Ytnagpmhaddfgmaa
