/-
  Plain rules: evaluation of trees, rounds that count.
-/
import Derived.Test.YtlmbhkmaflhagaaB28
namespace Go.Proofs.Ytlmbhkmaflhagaa

theorem ev_s_inl {A B L : Type} (a : A) (k : A → Tr L) (k' : B → Tr L) : (Tr.s A B (.inl a) k k').ev = (k a).ev := rfl
theorem ev_s_inr {A B L : Type} (a : B) (k : A → Tr L) (k' : B → Tr L) : (Tr.s A B (.inr a) k k').ev = (k' a).ev := rfl
theorem inR_cast (i n : Nat) : inR (i : Int) n = decide (i < n) := by
  unfold inR; simp
theorem inR_int {i : Int} {n : Nat} (h0 : 0 ≤ i) (h1 : i < n) : inR i n = true := by unfold inR; simp; omega

theorem getD_mem {α : Type} {l : List α} {i : Nat} {d : α} (h : i < l.length) : l.getD i d ∈ l := by
  rw [List.getD_eq_getElem?_getD, List.getElem?_eq_getElem h]
  exact List.getElem_mem h

/-- The rules of evaluation, in one. -/
theorem EV : (∀ {L : Type} (b : Bool) (x y : Tr L), (Tr.t b x y).ev = bif b then x.ev else y.ev) ∧
    (∀ {L : Type} (R : Type) (x : Option R) (k : R → Tr L), (Tr.c R x k).ev = x.bind fun r => (k r).ev) ∧
    (∀ {L : Type} (b : Bool) (x : Tr L), (Tr.g b x).ev = bif b then x.ev else none) ∧
    (∀ {L : Type} (x : L), (Tr.l x).ev = some x) ∧
    (∀ {A B L : Type} (a : A) (k : A → Tr L) (k' : B → Tr L), (Tr.s A B (.inl a) k k').ev = (k a).ev) ∧
    (∀ {A B L : Type} (a : B) (k : A → Tr L) (k' : B → Tr L), (Tr.s A B (.inr a) k k').ev = (k' a).ev) ∧
    (∀ i n : Nat, inR (i : Int) n = decide (i < n)) ∧
    (∀ {i : Int} {n : Nat}, 0 ≤ i → i < n → inR i n = true) ∧
    (∀ {n m : Nat}, ((n : Int) < (m : Int)) ↔ n < m) ∧
    (∀ h : Decidable True, @decide True h = true) ∧
    (∀ h : Decidable False, @decide False h = false) ∧
    (∀ {α : Type} (a b : α), (bif true then a else b) = a) ∧
    (∀ {α : Type} (a b : α), (bif false then a else b) = b) ∧
    (∀ {α β : Type} (a : α) (f : α → Option β), (some a).bind f = f a) ∧
    (∀ n : Nat, ((n : Int)).toNat = n) ∧
    (∀ {n : Int}, -9223372036854775808 ≤ n → n < 9223372036854775808 → IntKind.wrap .i64 n = n) ∧
    ((!true) = false) ∧ ((!false) = true) ∧ (∀ b : Bool, (true && b) = b) ∧ (∀ b : Bool, (b && true) = b) ∧ (∀ b : Bool, (false && b) = false) ∧ (∀ b : Bool, (b && false) = false) ∧
    (∀ {α : Type} (p : Prop) (h : Decidable p) (a b : α), (bif @decide p h then a else b) = if p then a else b) ∧
    (∀ {α : Type} (h : Decidable True) (a b : α), (@ite α True h a b) = a) ∧
    (∀ {α : Type} (h : Decidable False) (a b : α), (@ite α False h a b) = b) := by
  refine ⟨fun b x y => rfl, fun R x k => rfl, fun b x => rfl, fun x => rfl, fun a k k' => rfl, fun a k k' => rfl, inR_cast, inR_int, Int.ofNat_lt, fun h => by simp, fun h => by simp, fun a b => rfl, fun a b => rfl, fun a f => rfl, fun n => rfl, wrap64,
    rfl, rfl, fun b => by simp, fun b => by simp, fun b => by simp, fun b => by simp, fun p h a b => ?_, fun h a b => by simp, fun h a b => by simp⟩
  by_cases hp : p <;> simp [hp]

/-! ### Rounds without an early end -/
theorem foldl_range_succ {S : Type} (g : S → Nat → S) (s : S) (n : Nat) : (List.range (n + 1)).foldl g s = g ((List.range n).foldl g s) n := by
  rw [List.range_succ, List.foldl_append]; rfl

/-- Rounds 0 .. n - 1 that turn a state; I is kept. -/
theorem iter_fold {V S R : Type} {f : V → Option (V ⊕ R)} {n : Nat} (mk : Nat → S → V) (I : Nat → S → Prop) (g : S → Nat → S) (fin : S → R) {s0 : S} (h0 : I 0 s0)
    (hstep : ∀ i s, i < n → I i s → f (mk i s) = some (.inl (mk (i + 1) (g s i))) ∧ I (i + 1) (g s i))
    (hend : ∀ s, I n s → f (mk n s) = some (.inr (fin s))) :
    iter f (mk 0 s0) = some (fin ((List.range n).foldl g s0)) ∧ I n ((List.range n).foldl g s0) := by
  have hI : ∀ i, i ≤ n → I i ((List.range i).foldl g s0) := by
    intro i
    induction i with
    | zero => intro _; exact h0
    | succ i ih => intro hi; rw [foldl_range_succ]; exact (hstep i _ (by omega) (ih (by omega))).2
  have key : ∀ k i, i + k = n → iter f (mk i ((List.range i).foldl g s0)) = some (fin ((List.range n).foldl g s0)) := by
    intro k
    induction k with
    | zero =>
      intro i hi
      have : i = n := by omega
      subst this
      rw [iter_eq, hend _ (hI i (Nat.le_refl _))]
    | succ k ih =>
      intro i hi
      rw [iter_eq, (hstep i _ (by omega) (hI i (by omega))).1]
      have := ih (i + 1) (by omega)
      rw [foldl_range_succ] at this
      exact this
  exact ⟨key n 0 (by omega), hI n (Nat.le_refl _)⟩

theorem foldl_getD {α S : Type} (l : List α) (d : α) (g : S → α → S) (s : S) : (List.range l.length).foldl (fun s i => g s (l.getD i d)) s = l.foldl g s := by
  induction l generalizing s with
  | nil => rfl
  | cons x l ih =>
    rw [List.length_cons, List.range_succ_eq_map, List.foldl_cons, List.foldl_map, List.foldl_cons]
    exact ih _

/-- Rounds over a list that turn a state. -/
theorem iter_foldl {V S R α : Type} {f : V → Option (V ⊕ R)} (l : List α) (d : α) (mk : Nat → S → V) (I : Nat → S → Prop) (g : S → α → S) (fin : S → R) {s0 : S} (h0 : I 0 s0)
    (hstep : ∀ i s, i < l.length → I i s → f (mk i s) = some (.inl (mk (i + 1) (g s (l.getD i d)))) ∧ I (i + 1) (g s (l.getD i d)))
    (hend : ∀ s, I l.length s → f (mk l.length s) = some (.inr (fin s))) :
    iter f (mk 0 s0) = some (fin (l.foldl g s0)) ∧ I l.length (l.foldl g s0) := by
  have := iter_fold mk I (fun s i => g s (l.getD i d)) fin h0 hstep hend
  rw [foldl_getD] at this
  exact this

/-! ### Rounds with an early end -/
/-- The rounds from i on, k of them: each goes on with a state, or ends. -/
def runE {S R : Type} (g : Nat → S → S ⊕ R) (fin : S → R) : Nat → Nat → S → R
  | 0, _, s => fin s
  | k + 1, i, s => match g i s with
    | .inl s' => runE g fin k (i + 1) s'
    | .inr r => r

theorem iter_runE {V S R : Type} {f : V → Option (V ⊕ R)} {n : Nat} (mk : Nat → S → V) (I : Nat → S → Prop) (g : Nat → S → S ⊕ R) (fin : S → R) {s0 : S} (h0 : I 0 s0)
    (hstep : ∀ i s, i < n → I i s → match g i s with
      | .inl s' => f (mk i s) = some (.inl (mk (i + 1) s')) ∧ I (i + 1) s'
      | .inr r => f (mk i s) = some (.inr r))
    (hend : ∀ s, I n s → f (mk n s) = some (.inr (fin s))) : iter f (mk 0 s0) = some (runE g fin n 0 s0) := by
  have key : ∀ k i s, i + k = n → I i s → iter f (mk i s) = some (runE g fin k i s) := by
    intro k
    induction k with
    | zero =>
      intro i s hi hI
      have : i = n := by omega
      subst this
      rw [iter_eq, hend _ hI]
      rfl
    | succ k ih =>
      intro i s hi hI
      have := hstep i s (by omega) hI
      rw [iter_eq]
      unfold runE
      cases hg : g i s with
      | inl s' =>
        rw [hg] at this
        rw [this.1]
        exact ih (i + 1) s' (by omega) this.2
      | inr r =>
        rw [hg] at this
        rw [this]
  exact key n 0 s0 (by omega) h0

/-- What holds at the end of rounds. -/
theorem runE_ind {S R : Type} {g : Nat → S → S ⊕ R} {fin : S → R} {n : Nat} (I : Nat → S → Prop) (Q : R → Prop) {s0 : S} (h0 : I 0 s0)
    (hstep : ∀ i s, i < n → I i s → match g i s with
      | .inl s' => I (i + 1) s'
      | .inr r => Q r) (hend : ∀ s, I n s → Q (fin s)) : Q (runE g fin n 0 s0) := by
  have key : ∀ k i s, i + k = n → I i s → Q (runE g fin k i s) := by
    intro k
    induction k with
    | zero =>
      intro i s hi hI
      have : i = n := by omega
      subst this
      exact hend s hI
    | succ k ih =>
      intro i s hi hI
      have := hstep i s (by omega) hI
      unfold runE
      cases hg : g i s with
      | inl s' => rw [hg] at this; exact ih (i + 1) s' (by omega) this
      | inr r => rw [hg] at this; exact this
  exact key n 0 s0 (by omega) h0

/-- An invariant, rounds that count: what is known at the end. -/
theorem iter_inv {V S R : Type} {f : V → Option (V ⊕ R)} {n : Nat} (mk : Nat → S → V) (I : Nat → S → Prop) (Q : R → Prop) {s0 : S} (h0 : I 0 s0)
    (hstep : ∀ i s, i < n → I i s → (∃ s', f (mk i s) = some (.inl (mk (i + 1) s')) ∧ I (i + 1) s') ∨ ∃ r, f (mk i s) = some (.inr r) ∧ Q r)
    (hend : ∀ s, I n s → ∃ r, f (mk n s) = some (.inr r) ∧ Q r) : ∃ r, iter f (mk 0 s0) = some r ∧ Q r := by
  have key : ∀ k i s, i + k = n → I i s → ∃ r, iter f (mk i s) = some r ∧ Q r := by
    intro k
    induction k with
    | zero =>
      intro i s hi hI
      have : i = n := by omega
      subst this
      obtain ⟨r, h1, h2⟩ := hend s hI
      exact ⟨r, by rw [iter_eq, h1], h2⟩
    | succ k ih =>
      intro i s hi hI
      rcases hstep i s (by omega) hI with ⟨s', h1, h2⟩ | ⟨r, h1, h2⟩
      · obtain ⟨r, h3, h4⟩ := ih (i + 1) s' (by omega) h2
        exact ⟨r, by rw [iter_eq, h1]; exact h3, h4⟩
      · exact ⟨r, by rw [iter_eq, h1], h2⟩
  exact key n 0 s0 (by omega) h0

/-- Rounds that look whether p holds of each number below n: with what is done where it fails. -/
theorem iter_allR {V R : Type} {f : V → Option (V ⊕ R)} {n : Nat} (mk : Nat → V) (p : Nat → Bool) (yes : R) (no : R)
    (h : ∀ i : Nat, i < n → (∀ j, j < i → p j = true) → f (mk i) = some (bif p i then .inl (mk (i + 1)) else .inr no)) (hend : f (mk n) = some (.inr yes)) :
    iter f (mk 0) = some (bif (List.range n).all p then yes else no) := by
  have key : ∀ (k i : Nat), i + k = n → (∀ j, j < i → p j = true) → iter f (mk i) = some (bif (List.range' i k).all p then yes else no) := by
    intro k
    induction k with
    | zero =>
      intro i hk _
      have : i = n := by omega
      subst this
      rw [iter_eq, hend]
      rfl
    | succ k ih =>
      intro i hk hj
      rw [iter_eq, h i (by omega) hj, List.range'_succ, List.all_cons]
      cases hs : p i with
      | false => rfl
      | true =>
        simp only [cond_true, Bool.true_and]
        exact ih (i + 1) (by omega) fun j hj' => by
          by_cases e : j = i
          · rw [e]; exact hs
          · exact hj j (by omega)
  have := key n 0 (by omega) fun j hj => absurd hj (Nat.not_lt_zero _)
  rw [List.range_eq_range']
  exact this

theorem wrapN {i : Nat} (h : i < 9223372036854775807) : IntKind.wrap .i64 ((i : Int) + 1) = ((i + 1 : Nat) : Int) := by
  rw [wrap64 (by omega) (by omega)]; rfl
end Go.Proofs.Ytlmbhkmaflhagaa
