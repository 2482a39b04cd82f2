/-
  Plain rules: evaluation of trees, rounds that count.
-/
import Derived.Test.YtlmbhkmaflhagaaB28
import Derived.Test.YtlmbhkmaflhagaaC1
namespace Go.Proofs.Ytlmbhkmaflhagaa
theorem ev_s_inl {A B L : Type} (a : A) (k : A → Tr L) (k' : B → Tr L) : (Tr.s A B (.inl a) k k').ev = (k a).ev := rfl
theorem ev_s_inr {A B L : Type} (a : B) (k : A → Tr L) (k' : B → Tr L) : (Tr.s A B (.inr a) k k').ev = (k' a).ev := rfl
theorem inR_cast (i n : Nat) : inR (i : Int) n = decide (i < n) := by
  unfold inR; simp
theorem inR_int {i : Int} {n : Nat} (h0 : 0 ≤ i) (h1 : i < n) : inR i n = true := by unfold inR; simp; omega
theorem getD_mem {α : Type} {l : List α} {i : Nat} {d : α} (h : i < l.length) : l.getD i d ∈ l := by
  rw [List.getD_eq_getElem?_getD, List.getElem?_eq_getElem h]
  exact List.getElem_mem h
theorem EV : (∀ {L : Type} (b : Bool) (x y : Tr L), (Tr.t b x y).ev = bif b then x.ev else y.ev) ∧
    (∀ {L : Type} (R : Type) (x : Option R) (k : R → Tr L), (Tr.c R x k).ev = x.bind fun r => (k r).ev) ∧
    (∀ {L : Type} (b : Bool) (x : Tr L), (Tr.g b x).ev = bif b then x.ev else none) ∧
    (∀ {L : Type} (x : L), (Tr.l x).ev = some x) ∧
    (∀ {A B L : Type} (a : A) (k : A → Tr L) (k' : B → Tr L), (Tr.s A B (.inl a) k k').ev = (k a).ev) ∧
    (∀ {A B L : Type} (a : B) (k : A → Tr L) (k' : B → Tr L), (Tr.s A B (.inr a) k k').ev = (k' a).ev) ∧
    (∀ i n : Nat, inR (i : Int) n = decide (i < n)) ∧
    (∀ {i : Int} {n : Nat}, 0 ≤ i → i < n → inR i n = true) ∧
    (∀ {n m : Nat}, ((n : Int) < (m : Int)) ↔ n < m) ∧
    (∀ h : Decidable True, @decide True h = true) ∧
    (∀ h : Decidable False, @decide False h = false) ∧
    (∀ {α : Type} (a b : α), (bif true then a else b) = a) ∧
    (∀ {α : Type} (a b : α), (bif false then a else b) = b) ∧
    (∀ {α β : Type} (a : α) (f : α → Option β), (some a).bind f = f a) ∧
    (∀ n : Nat, ((n : Int)).toNat = n) ∧
    (∀ {n : Int}, -9223372036854775808 ≤ n → n < 9223372036854775808 → IntKind.wrap .i64 n = n) ∧
    ((!true) = false) ∧ ((!false) = true) ∧ (∀ b : Bool, (true && b) = b) ∧ (∀ b : Bool, (b && true) = b) ∧ (∀ b : Bool, (false && b) = false) ∧ (∀ b : Bool, (b && false) = false) ∧
    (∀ {α : Type} (p : Prop) (h : Decidable p) (a b : α), (bif @decide p h then a else b) = if p then a else b) ∧
    (∀ {α : Type} (h : Decidable True) (a b : α), (@ite α True h a b) = a) ∧
    (∀ {α : Type} (h : Decidable False) (a b : α), (@ite α False h a b) = b) := by
  refine ⟨fun b x y => rfl, fun R x k => rfl, fun b x => rfl, fun x => rfl, fun a k k' => rfl, fun a k k' => rfl, inR_cast, inR_int, Int.ofNat_lt, fun h => by simp, fun h => by simp, fun a b => rfl, fun a b => rfl, fun a f => rfl, fun n => rfl, wrap64,
    rfl, rfl, fun b => by simp, fun b => by simp, fun b => by simp, fun b => by simp, fun p h a b => ?_, fun h a b => by simp, fun h a b => by simp⟩
  by_cases hp : p <;> simp [hp]
theorem foldl_range_succ {S : Type} (g : S → Nat → S) (s : S) (n : Nat) : (List.range (n + 1)).foldl g s = g ((List.range n).foldl g s) n := by
  rw [List.range_succ, List.foldl_append]; rfl
theorem iter_fold {V S R : Type} {f : V → Option (V ⊕ R)} {n : Nat} (mk : Nat → S → V) (I : Nat → S → Prop) (g : S → Nat → S) (fin : S → R) {s0 : S} (h0 : I 0 s0)
    (hstep : ∀ i s, i < n → I i s → f (mk i s) = some (.inl (mk (i + 1) (g s i))) ∧ I (i + 1) (g s i))
    (hend : ∀ s, I n s → f (mk n s) = some (.inr (fin s))) :
    iter f (mk 0 s0) = some (fin ((List.range n).foldl g s0)) ∧ I n ((List.range n).foldl g s0) := by
  have hI : ∀ i, i ≤ n → I i ((List.range i).foldl g s0) := by
    intro i
    induction i with
    | zero => intro _; exact h0
    | succ i ih => intro hi; rw [foldl_range_succ]; exact (hstep i _ (by omega) (ih (by omega))).2
  have key : ∀ k i, i + k = n → iter f (mk i ((List.range i).foldl g s0)) = some (fin ((List.range n).foldl g s0)) := by
    intro k
    induction k with
    | zero =>
      intro i hi
      have : i = n := by omega
      subst this
      rw [iter_eq, hend _ (hI i (Nat.le_refl _))]
    | succ k ih =>
      intro i hi
      rw [iter_eq, (hstep i _ (by omega) (hI i (by omega))).1]
      have := ih (i + 1) (by omega)
      rw [foldl_range_succ] at this
      exact this
  exact ⟨key n 0 (by omega), hI n (Nat.le_refl _)⟩
theorem foldl_getD {α S : Type} (l : List α) (d : α) (g : S → α → S) (s : S) : (List.range l.length).foldl (fun s i => g s (l.getD i d)) s = l.foldl g s := by
  induction l generalizing s with
  | nil => rfl
  | cons x l ih =>
    rw [List.length_cons, List.range_succ_eq_map, List.foldl_cons, List.foldl_map, List.foldl_cons]
    exact ih _
theorem iter_foldl {V S R α : Type} {f : V → Option (V ⊕ R)} (l : List α) (d : α) (mk : Nat → S → V) (I : Nat → S → Prop) (g : S → α → S) (fin : S → R) {s0 : S} (h0 : I 0 s0)
    (hstep : ∀ i s, i < l.length → I i s → f (mk i s) = some (.inl (mk (i + 1) (g s (l.getD i d)))) ∧ I (i + 1) (g s (l.getD i d)))
    (hend : ∀ s, I l.length s → f (mk l.length s) = some (.inr (fin s))) :
    iter f (mk 0 s0) = some (fin (l.foldl g s0)) ∧ I l.length (l.foldl g s0) := by
  have := iter_fold mk I (fun s i => g s (l.getD i d)) fin h0 hstep hend
  rw [foldl_getD] at this
  exact this
def runE {S R : Type} (g : Nat → S → S ⊕ R) (fin : S → R) : Nat → Nat → S → R
  | 0, _, s => fin s
  | k + 1, i, s => match g i s with
    | .inl s' => runE g fin k (i + 1) s'
    | .inr r => r
theorem iter_runE {V S R : Type} {f : V → Option (V ⊕ R)} {n : Nat} (mk : Nat → S → V) (I : Nat → S → Prop) (g : Nat → S → S ⊕ R) (fin : S → R) {s0 : S} (h0 : I 0 s0)
    (hstep : ∀ i s, i < n → I i s → match g i s with
      | .inl s' => f (mk i s) = some (.inl (mk (i + 1) s')) ∧ I (i + 1) s'
      | .inr r => f (mk i s) = some (.inr r))
    (hend : ∀ s, I n s → f (mk n s) = some (.inr (fin s))) : iter f (mk 0 s0) = some (runE g fin n 0 s0) := by
  have key : ∀ k i s, i + k = n → I i s → iter f (mk i s) = some (runE g fin k i s) := by
    intro k
    induction k with
    | zero =>
      intro i s hi hI
      have : i = n := by omega
      subst this
      rw [iter_eq, hend _ hI]
      rfl
    | succ k ih =>
      intro i s hi hI
      have := hstep i s (by omega) hI
      rw [iter_eq]
      unfold runE
      cases hg : g i s with
      | inl s' =>
        rw [hg] at this
        rw [this.1]
        exact ih (i + 1) s' (by omega) this.2
      | inr r =>
        rw [hg] at this
        rw [this]
  exact key n 0 s0 (by omega) h0
theorem runE_ind {S R : Type} {g : Nat → S → S ⊕ R} {fin : S → R} {n : Nat} (I : Nat → S → Prop) (Q : R → Prop) {s0 : S} (h0 : I 0 s0)
    (hstep : ∀ i s, i < n → I i s → match g i s with
      | .inl s' => I (i + 1) s'
      | .inr r => Q r) (hend : ∀ s, I n s → Q (fin s)) : Q (runE g fin n 0 s0) := by
  have key : ∀ k i s, i + k = n → I i s → Q (runE g fin k i s) := by
    intro k
    induction k with
    | zero =>
      intro i s hi hI
      have : i = n := by omega
      subst this
      exact hend s hI
    | succ k ih =>
      intro i s hi hI
      have := hstep i s (by omega) hI
      unfold runE
      cases hg : g i s with
      | inl s' => rw [hg] at this; exact ih (i + 1) s' (by omega) this
      | inr r => rw [hg] at this; exact this
  exact key n 0 s0 (by omega) h0
theorem iter_inv {V S R : Type} {f : V → Option (V ⊕ R)} {n : Nat} (mk : Nat → S → V) (I : Nat → S → Prop) (Q : R → Prop) {s0 : S} (h0 : I 0 s0)
    (hstep : ∀ i s, i < n → I i s → (∃ s', f (mk i s) = some (.inl (mk (i + 1) s')) ∧ I (i + 1) s') ∨ ∃ r, f (mk i s) = some (.inr r) ∧ Q r)
    (hend : ∀ s, I n s → ∃ r, f (mk n s) = some (.inr r) ∧ Q r) : ∃ r, iter f (mk 0 s0) = some r ∧ Q r := by
  have key : ∀ k i s, i + k = n → I i s → ∃ r, iter f (mk i s) = some r ∧ Q r := by
    intro k
    induction k with
    | zero =>
      intro i s hi hI
      have : i = n := by omega
      subst this
      obtain ⟨r, h1, h2⟩ := hend s hI
      exact ⟨r, by rw [iter_eq, h1], h2⟩
    | succ k ih =>
      intro i s hi hI
      rcases hstep i s (by omega) hI with ⟨s', h1, h2⟩ | ⟨r, h1, h2⟩
      · obtain ⟨r, h3, h4⟩ := ih (i + 1) s' (by omega) h2
        exact ⟨r, by rw [iter_eq, h1]; exact h3, h4⟩
      · exact ⟨r, by rw [iter_eq, h1], h2⟩
  exact key n 0 s0 (by omega) h0
theorem iter_allR {V R : Type} {f : V → Option (V ⊕ R)} {n : Nat} (mk : Nat → V) (p : Nat → Bool) (yes : R) (no : R)
    (h : ∀ i : Nat, i < n → (∀ j, j < i → p j = true) → f (mk i) = some (bif p i then .inl (mk (i + 1)) else .inr no)) (hend : f (mk n) = some (.inr yes)) :
    iter f (mk 0) = some (bif (List.range n).all p then yes else no) := by
  have key : ∀ (k i : Nat), i + k = n → (∀ j, j < i → p j = true) → iter f (mk i) = some (bif (List.range' i k).all p then yes else no) := by
    intro k
    induction k with
    | zero =>
      intro i hk _
      have : i = n := by omega
      subst this
      rw [iter_eq, hend]
      rfl
    | succ k ih =>
      intro i hk hj
      rw [iter_eq, h i (by omega) hj, List.range'_succ, List.all_cons]
      cases hs : p i with
      | false => rfl
      | true =>
        simp only [cond_true, Bool.true_and]
        exact ih (i + 1) (by omega) fun j hj' => by
          by_cases e : j = i
          · rw [e]; exact hs
          · exact hj j (by omega)
  have := key n 0 (by omega) fun j hj => absurd hj (Nat.not_lt_zero _)
  rw [List.range_eq_range']
  exact this
theorem wrapN {i : Nat} (h : i < 9223372036854775807) : IntKind.wrap .i64 ((i : Int) + 1) = ((i + 1 : Nat) : Int) := by
  rw [wrap64 (by omega) (by omega)]; rfl
end Go.Proofs.Ytlmbhkmaflhagaa
/-
  Plain laws: what the laws' own helpers compute: sizes, copies, comparisons.
-/
namespace Go.Proofs.Ytlmbhkmaflhagaa
def Fit1 (l : List Int) : Prop := (l.length : Int) < 9223372036854775808
def Fit2 (x : List (List Int)) : Prop := (x.length : Int) < 9223372036854775808 ∧ ∀ r ∈ x, Fit1 r
def Low {α : Type} (l : List α) : Prop := (l.length : Int) ≤ 1048576
def Low1 (l : List Int) : Prop := (l.length : Int) ≤ 1048576
def Low2 (x : List (List Int)) : Prop := (x.length : Int) ≤ 1048576 ∧ ∀ r ∈ x, Low1 r
theorem set_copy {α : Type} {l : List α} {i : Nat} {d : α} (h : i < l.length) (d' : α) : (l.take i ++ List.replicate (l.length - i) d).set i (l.getD i d') = l.take (i + 1) ++ List.replicate (l.length - (i + 1)) d := by
  have hl : (l.take i).length = i := by simp; omega
  rw [List.set_append_right _ _ (by omega), hl, Nat.sub_self, show l.length - i = (l.length - (i + 1)) + 1 by omega, List.replicate_succ, List.set_cons_zero, List.take_succ_eq_append_getElem h,
    List.getD_eq_getElem?_getD, List.getElem?_eq_getElem h, List.append_assoc]
  rfl
theorem foldl_const {α S : Type} (s : S) (l : List α) : l.foldl (fun s _ => s) s = s := by
  induction l with
  | nil => rfl
  | cons _ _ ih => exact ih
theorem copy_loop {α : Type} {f : Int × List α → Option ((Int × List α) ⊕ List α)} {l : List α} (d : α)
    (hstep : ∀ (i : Nat) (r : List α), i < l.length → r.length = l.length → f ((i : Int), r) = some (.inl (((i + 1 : Nat) : Int), r.set i (l.getD i d))))
    (hend : ∀ r : List α, f ((l.length : Int), r) = some (.inr r)) : iter f (0, List.replicate l.length d) = some l := by
  have := (iter_fold (f := f) (n := l.length) (mk := fun i (_ : Unit) => ((i : Int), l.take i ++ List.replicate (l.length - i) d)) (I := fun _ _ => True) (g := fun s _ => s) (fin := fun _ => l) (s0 := ()) trivial
    (fun i s hi _ => ⟨by
      rw [hstep i _ hi (by simp; omega), set_copy hi], trivial⟩)
    (fun s _ => by rw [hend]; simp)).1
  simpa using this
theorem beqW {a b : Int} : (!(a != b)) = (a == b) := by simp [bne]
theorem all_getD {α : Type} [BEq α] [LawfulBEq α] {a b : List α} {d : α} (h : a.length = b.length) : ((List.range a.length).all fun i => a.getD i d == b.getD i d) = (a == b) := by
  rw [Bool.eq_iff_iff, List.all_eq_true, beq_iff_eq]
  constructor
  · intro h1
    refine List.ext_getElem h fun i hi hi' => ?_
    have := h1 i (List.mem_range.2 hi)
    rw [List.getD_eq_getElem?_getD, List.getD_eq_getElem?_getD, List.getElem?_eq_getElem hi, List.getElem?_eq_getElem hi'] at this
    simpa using this
  · rintro rfl i _
    simp
theorem int_ne (a b : Nat) : (((a : Nat) : Int) != ((b : Nat) : Int)) = !(decide (a = b)) := by
  by_cases h : a = b
  · subst h; simp
  · have : ((a : Nat) : Int) ≠ ((b : Nat) : Int) := by omega
    simp [h, bne, this]
theorem int_eq (a b : Nat) : (((a : Nat) : Int) == ((b : Nat) : Int)) = decide (a = b) := by
  by_cases h : a = b
  · subst h; simp
  · have : ((a : Nat) : Int) ≠ ((b : Nat) : Int) := by omega
    simp [h, this]
theorem eq_loop {α : Type} [BEq α] [LawfulBEq α] {f : Int → Option (Int ⊕ (Unit ⊕ Unit))} {a b : List α} (d : α) (hl : a.length = b.length)
    (hstep : ∀ i : Nat, i < a.length → f (i : Int) = some (bif a.getD i d == b.getD i d then .inl ((i + 1 : Nat) : Int) else .inr (.inr ())))
    (hend : f (a.length : Int) = some (.inr (.inl ()))) : iter f 0 = some (bif a == b then .inl () else .inr ()) := by
  have := iter_allR (f := f) (n := a.length) (mk := fun i => (i : Int)) (p := fun i => a.getD i d == b.getD i d) (yes := .inl ()) (no := .inr ()) (fun i hi _ => hstep i hi) hend
  rw [all_getD hl] at this
  exact this
theorem sz_loop {α : Type} {f : Int × Int → Option ((Int × Int) ⊕ (Int ⊕ Unit))} {l : List α} (d : α) (Q : α → Prop) {b : Int} (h0 : 0 ≤ b) (h1 : b ≤ 1048576)
    (hstep : ∀ (i : Nat) (s : Int), i < l.length → 0 ≤ s → s ≤ 1048576 → (∃ s', f (s, (i : Int)) = some (.inl (s', ((i + 1 : Nat) : Int))) ∧ 0 ≤ s' ∧ s' ≤ 1048576 ∧ Q (l.getD i d)) ∨ f (s, (i : Int)) = some (.inr (.inr ())))
    (hend : ∀ s, f (s, (l.length : Int)) = some (.inr (.inl s))) : iter f (b, 0) = some (.inr ()) ∨ ∃ s, iter f (b, 0) = some (.inl s) ∧ 0 ≤ s ∧ s ≤ 1048576 ∧ ∀ x ∈ l, Q x := by
  have := iter_inv (f := f) (n := l.length) (mk := fun i s => (s, (i : Int))) (I := fun i s => 0 ≤ s ∧ s ≤ 1048576 ∧ ∀ j, j < i → Q (l.getD j d)) (Q := fun r => r = .inr () ∨ ∃ s, r = .inl s ∧ 0 ≤ s ∧ s ≤ 1048576 ∧ ∀ x ∈ l, Q x) (s0 := b)
    ⟨h0, h1, fun j hj => absurd hj (Nat.not_lt_zero _)⟩ (fun i s hi hs => by
      rcases hstep i s hi hs.1 hs.2.1 with ⟨s', k1, k2, k3, k4⟩ | k
      · exact .inl ⟨s', k1, k2, k3, fun j hj => by
          by_cases e : j = i
          · rw [e]; exact k4
          · exact hs.2.2 j (by omega)⟩
      · exact .inr ⟨_, k, .inl rfl⟩) (fun s hs => ⟨_, hend s, .inr ⟨s, rfl, hs.1, hs.2.1, fun x hx => by
        obtain ⟨j, hj, e⟩ := List.getElem_of_mem hx
        have := hs.2.2 j hj
        rw [List.getD_eq_getElem?_getD, List.getElem?_eq_getElem hj] at this
        rw [← e]; exact this⟩⟩)
  obtain ⟨r, h2, h3⟩ := this
  rcases h3 with rfl | ⟨s, rfl, h4⟩
  · exact .inl h2
  · exact .inr ⟨s, h2, h4⟩
def Sz (o : Option Int) (Q : Prop) : Prop := ∃ r, o = some r ∧ r ≤ 1048576 ∧ (0 ≤ r → Q)
theorem szIntS_eq {l : List Int} {b : Int} (hl : Fit1 l) (h0 : 0 ≤ b) (h1 : b ≤ 1048576) : F_lw_szIntS l b = some (if b - (l.length : Int) < 0 then -1 else b - (l.length : Int)) := by
  unfold Fit1 at hl
  unfold F_lw_szIntS T_lw_szIntS
  simp (disch := omega) only [EV]
  split <;> rfl
theorem szIntS_sz {l : List Int} {b : Int} (hl : Fit1 l) (h0 : 0 ≤ b) (h1 : b ≤ 1048576) : Sz (F_lw_szIntS l b) (Low1 l) := by
  refine ⟨_, szIntS_eq hl h0 h1, ?_, fun h => ?_⟩
  · split <;> omega
  · unfold Low1
    split at h <;> omega
theorem szIntSS_sz {x : List (List Int)} {b : Int} (hx : Fit2 x) (h0 : 0 ≤ b) (h1 : b ≤ 1048576) : Sz (F_lw_szIntSS x b) (Low2 x) := by
  obtain ⟨hx1, hx2⟩ := hx
  unfold F_lw_szIntSS T_lw_szIntSS
  simp (disch := omega) only [EV]
  by_cases hb : b - (x.length : Int) < 0
  · simp (disch := omega) only [EV, hb]
    exact ⟨_, rfl, by omega, fun h => by omega⟩
  · have := sz_loop (f := fun v => (S_lw_szIntSS_0 x v).ev) (l := x) [] Low1 (b := b - (x.length : Int)) (by omega) (by omega) (fun i s hi k0 k1 => by
      obtain ⟨r, k2, k3, k4⟩ := szIntS_sz (hx2 _ (getD_mem (d := []) hi)) k0 k1
      simp (disch := omega) only [EV, S_lw_szIntSS_0, hi, k2]
      by_cases hr : r < 0
      · right; simp (disch := omega) only [EV, hr]
      · left
        simp (disch := omega) only [EV, hr]
        exact ⟨r, rfl, by omega, by omega, k4 (by omega)⟩) (fun s => by simp (disch := omega) only [EV, S_lw_szIntSS_0, Nat.lt_irrefl])
    rcases this with h | ⟨s, h, k0, k1, k2⟩
    · simp (disch := omega) only [EV, hb, L_lw_szIntSS_0, h]
      exact ⟨_, rfl, by omega, fun h => by omega⟩
    · simp (disch := omega) only [EV, hb, L_lw_szIntSS_0, h]
      exact ⟨_, rfl, by omega, fun _ => ⟨by omega, k2⟩⟩
theorem toIntS_eq {l : List Int} (hl : Low1 l) : F_lw_toIntS l = some l := by
  unfold Low1 at hl
  unfold F_lw_toIntS T_lw_toIntS
  rw [Tr.ev_g, show (decide ((0 : Int) ≤ ((l.length : Nat) : Int)) && decide (((l.length : Nat) : Int) ≤ ((l.length : Nat) : Int)) && decide (((8 : Nat) : Int) * ((l.length : Nat) : Int) ≤ 281474976710656)) = true by simp; omega]
  have := copy_loop (f := fun v => (S_lw_toIntS_0 l v).ev) (l := l) 0 (fun i r hi hr => by simp (disch := omega) only [EV, S_lw_toIntS_0, hr, hi]; rfl) (fun r => by simp (disch := omega) only [EV, S_lw_toIntS_0, Nat.lt_irrefl])
  simp (disch := omega) only [EV, L_lw_toIntS_0, this]
theorem toIntSS_eq {x : List (List Int)} (hx : Low2 x) : F_lw_toIntSS x = some x := by
  obtain ⟨hl, hr⟩ := hx
  unfold F_lw_toIntSS T_lw_toIntSS
  rw [Tr.ev_g, show (decide ((0 : Int) ≤ ((x.length : Nat) : Int)) && decide (((x.length : Nat) : Int) ≤ ((x.length : Nat) : Int)) && decide (((24 : Nat) : Int) * ((x.length : Nat) : Int) ≤ 281474976710656)) = true by simp; omega]
  have := copy_loop (f := fun v => (S_lw_toIntSS_0 x v).ev) (l := x) [] (fun i r hi hr' => by simp (disch := omega) only [EV, S_lw_toIntSS_0, hr', hi, toIntS_eq (hr _ (getD_mem (d := []) hi))]; rfl) (fun r => by simp (disch := omega) only [EV, S_lw_toIntSS_0, Nat.lt_irrefl])
  simp (disch := omega) only [EV, L_lw_toIntSS_0, this]
theorem eqIntS_eq {a b : List Int} (ha : Low1 a) : F_lw_eqIntS a b = some (a == b) := by
  unfold Low1 at ha
  unfold F_lw_eqIntS T_lw_eqIntS
  by_cases h : a.length = b.length
  · have hs := eq_loop (f := fun v => (S_lw_eqIntS_0 (a, b) v).ev) (a := a) (b := b) 0 h (fun i hi => by
      have hi' : i < b.length := by omega
      simp (disch := omega) only [EV, S_lw_eqIntS_0, hi, hi', bne]
      cases (a.getD i 0 == b.getD i 0) <;> rfl) (by simp (disch := omega) only [EV, S_lw_eqIntS_0, Nat.lt_irrefl])
    simp (disch := omega) only [EV, int_ne, h, L_lw_eqIntS_0, hs]
    cases (a == b) <;> rfl
  · have : (a == b) = false := by
      rw [beq_eq_false_iff_ne]
      exact fun e => h (by rw [e])
    simp (disch := omega) only [EV, int_ne, h, this]
theorem eqIntSS_eq {a b : List (List Int)} (ha : Low2 a) : F_lw_eqIntSS a b = some (a == b) := by
  obtain ⟨ha, hr⟩ := ha
  unfold F_lw_eqIntSS T_lw_eqIntSS
  by_cases h : a.length = b.length
  · have hs := eq_loop (f := fun v => (S_lw_eqIntSS_0 (a, b) v).ev) (a := a) (b := b) [] h (fun i hi => by
      have hi' : i < b.length := by omega
      simp (disch := omega) only [EV, S_lw_eqIntSS_0, hi, hi', eqIntS_eq (hr _ (getD_mem (d := []) hi))]
      cases (a.getD i [] == b.getD i []) <;> rfl) (by simp (disch := omega) only [EV, S_lw_eqIntSS_0, Nat.lt_irrefl])
    simp (disch := omega) only [EV, int_ne, h, L_lw_eqIntSS_0, hs]
    cases (a == b) <;> rfl
  · have : (a == b) = false := by
      rw [beq_eq_false_iff_ne]
      exact fun e => h (by rw [e])
    simp (disch := omega) only [EV, int_ne, h, this]
end Go.Proofs.Ytlmbhkmaflhagaa
/-
  Plain laws: small functions of both sides; grounds.
-/
namespace Go.Proofs.Ytlmbhkmaflhagaa
theorem all_range {α : Type} (l : List α) (d : α) (p : α → Bool) : ((List.range l.length).all fun i => p (l.getD i d)) = l.all p := by
  induction l with
  | nil => rfl
  | cons x l ih =>
    rw [List.length_cons, List.range_succ_eq_map, List.all_cons, List.all_map, List.all_cons]
    exact congrArg (p x && ·) ih
theorem any_range {α : Type} (l : List α) (d : α) (p : α → Bool) : ((List.range l.length).any fun i => p (l.getD i d)) = l.any p := by
  induction l with
  | nil => rfl
  | cons x l ih =>
    rw [List.length_cons, List.range_succ_eq_map, List.any_cons, List.any_map, List.any_cons]
    exact congrArg (p x || ·) ih
def isIn (n a b : Int) : Bool := decide (a ≤ n) && decide (n ≤ b)
def allIn (l : List Int) (a b : Int) : Bool := l.all fun x => isIn x a b
theorem isIn_iff {n a b : Int} : isIn n a b = true ↔ a ≤ n ∧ n ≤ b := by simp [isIn]
theorem allIn_iff {l : List Int} {a b : Int} : allIn l a b = true ↔ ∀ x ∈ l, a ≤ x ∧ x ≤ b := by simp [allIn, isIn]
theorem allIn_getD {l : List Int} {a b : Int} (h : allIn l a b = true) {i : Nat} (hi : i < l.length) : a ≤ l.getD i 0 ∧ l.getD i 0 ≤ b := allIn_iff.1 h _ (getD_mem hi)
theorem bif_all {α : Type} (b : Bool) (x y : α) : (bif b then some x else some y) = some (bif b then x else y) := by cases b <;> rfl
theorem l1In_eq (n a b : Int) : F_sp_l1In n a b = some (isIn n a b) := by
  unfold F_sp_l1In T_sp_l1In isIn
  simp only [Tr.ev_t, Tr.ev_l]
  cases decide (a ≤ n) <;> rfl
theorem between_eq (n a b : Int) : F_im_between n a b = some (isIn n a b) := by
  unfold F_im_between T_im_between isIn
  simp only [Tr.ev_t, Tr.ev_l]
  cases decide (a ≤ n) <;> rfl
theorem l2Row_eq {l : List Int} (hl : Low1 l) (n b : Int) : F_sp_l2Row l n b = some (allIn l 0 b && ((l.length : Int) == n)) := by
  unfold Low1 at hl
  unfold F_sp_l2Row T_sp_l2Row
  have hs : L_sp_l2Row_0 (l, (n, b)) 0 = _ := iter_allR (f := fun v => (S_sp_l2Row_0 (l, (n, b)) v).ev) (n := l.length) (mk := fun i => (i : Int)) (p := fun i => isIn (l.getD i 0) 0 b) (yes := .inl ()) (no := .inr ()) (fun i hi _ => by
    simp (disch := omega) only [EV, S_sp_l2Row_0, hi, l1In_eq]
    cases isIn (l.getD i 0) 0 b <;> rfl) (by simp (disch := omega) only [EV, S_sp_l2Row_0, Nat.lt_irrefl])
  rw [all_range l 0 (fun x => isIn x 0 b)] at hs
  simp (disch := omega) only [EV, hs]
  unfold allIn
  cases l.all fun x => isIn x 0 b <;> rfl
theorem iter_forE {V R α : Type} {f : V → Option (V ⊕ R)} {l : List α} (d : α) (q : α → Bool) (mk : Nat → V) (yes : Nat → R) (no : R)
    (h : ∀ i : Nat, i < l.length → f (mk i) = some (bif q (l.getD i d) then .inr (yes i) else .inl (mk (i + 1)))) (hend : f (mk l.length) = some (.inr no)) :
    iter f (mk 0) = some ((l.findIdx? q).elim no yes) := by
  have key : ∀ (k i : Nat), i + k = l.length → iter f (mk i) = some (((l.drop i).findIdx? q).elim no (fun j => yes (j + i))) := by
    intro k
    induction k with
    | zero =>
      intro i hk
      have : i = l.length := by omega
      subst this
      rw [iter_eq, hend]
      simp
    | succ k ih =>
      intro i hk
      rw [iter_eq, h i (by omega), List.drop_eq_getElem_cons (by omega), List.findIdx?_cons]
      have e : l.getD i d = l[i] := by rw [List.getD_eq_getElem?_getD, List.getElem?_eq_getElem (by omega)]; rfl
      rw [e]
      cases q l[i] with
      | true => simp
      | false =>
        simp only [cond_false, Bool.false_eq_true, if_false]
        rw [ih (i + 1) (by omega)]
        cases (l.drop (i + 1)).findIdx? q with
        | none => rfl
        | some j => simp [Nat.add_comm, Nat.add_left_comm]
  have := key l.length 0 (by omega)
  simpa using this
theorem findIdx_any {α : Type} {l : List α} {q : α → Bool} : l.any q = true ↔ (l.findIdx? q).isSome = true := by
  simp [List.findIdx?_isSome]
theorem indexFunc_int {l : List (Int)} (hl : (l.length : Int) < 9223372036854775807) {p : HL [.int .i64] → Option Bool} {q : Int → Bool} (hp : ∀ n ∈ l, p (n, ()) = some (q n)) :
    F_slices_IndexFunc_Sint_int l p = some ((l.findIdx? q).elim (-1) (fun i => (i : Int))) := by
  unfold F_slices_IndexFunc_Sint_int T_slices_IndexFunc_Sint_int
  have hs : L_slices_IndexFunc_Sint_int_0 (l, (p, ((l.length : Nat) : Int))) 0 = _ := iter_forE (f := fun v => (S_slices_IndexFunc_Sint_int_0 (l, (p, ((l.length : Nat) : Int))) v).ev) (l := l) 0 q (mk := fun i => (i : Int)) (yes := fun i => .inr (i : Int)) (no := .inl ()) (fun i hi => by
    simp (disch := omega) only [EV, S_slices_IndexFunc_Sint_int_0, hi, hp _ (getD_mem hi)]
    cases q (l.getD i 0) <;> rfl) (by simp (disch := omega) only [EV, S_slices_IndexFunc_Sint_int_0, Nat.lt_irrefl])
  simp (disch := omega) only [EV, hs]
  cases l.findIdx? q <;> rfl
theorem containsFunc_int {l : List (Int)} (hl : (l.length : Int) < 9223372036854775807) {p : HL [.int .i64] → Option Bool} {q : Int → Bool} (hp : ∀ n ∈ l, p (n, ()) = some (q n)) :
    F_slices_ContainsFunc_Sint_int l p = some (l.any q) := by
  unfold F_slices_ContainsFunc_Sint_int T_slices_ContainsFunc_Sint_int
  simp (disch := omega) only [EV, indexFunc_int hl hp]
  congr 1
  rw [Bool.eq_iff_iff, findIdx_any]
  cases l.findIdx? q <;> simp
theorem indexFunc_Sint {l : List (List Int)} (hl : (l.length : Int) < 9223372036854775807) {p : HL [.slice (.int .i64)] → Option Bool} {q : List Int → Bool} (hp : ∀ n ∈ l, p (n, ()) = some (q n)) :
    F_slices_IndexFunc_SSint_Sint l p = some ((l.findIdx? q).elim (-1) (fun i => (i : Int))) := by
  unfold F_slices_IndexFunc_SSint_Sint T_slices_IndexFunc_SSint_Sint
  have hs : L_slices_IndexFunc_SSint_Sint_0 (l, (p, ((l.length : Nat) : Int))) 0 = _ := iter_forE (f := fun v => (S_slices_IndexFunc_SSint_Sint_0 (l, (p, ((l.length : Nat) : Int))) v).ev) (l := l) [] q (mk := fun i => (i : Int)) (yes := fun i => .inr (i : Int)) (no := .inl ()) (fun i hi => by
    simp (disch := omega) only [EV, S_slices_IndexFunc_SSint_Sint_0, hi, hp _ (getD_mem hi)]
    cases q (l.getD i []) <;> rfl) (by simp (disch := omega) only [EV, S_slices_IndexFunc_SSint_Sint_0, Nat.lt_irrefl])
  simp (disch := omega) only [EV, hs]
  cases l.findIdx? q <;> rfl
theorem containsFunc_Sint {l : List (List Int)} (hl : (l.length : Int) < 9223372036854775807) {p : HL [.slice (.int .i64)] → Option Bool} {q : List Int → Bool} (hp : ∀ n ∈ l, p (n, ()) = some (q n)) :
    F_slices_ContainsFunc_SSint_Sint l p = some (l.any q) := by
  unfold F_slices_ContainsFunc_SSint_Sint T_slices_ContainsFunc_SSint_Sint
  simp (disch := omega) only [EV, indexFunc_Sint hl hp]
  congr 1
  rw [Bool.eq_iff_iff, findIdx_any]
  cases l.findIdx? q <;> simp
theorem areBetween_eq {l : List Int} (hl : Low1 l) (a b : Int) : F_im_areBetween l a b = some (allIn l a b) := by
  unfold Low1 at hl
  unfold F_im_areBetween T_im_areBetween
  rw [Tr.ev_c, containsFunc_int (by omega) (q := fun n => !(isIn n a b)) fun n _ => by
    unfold F_im_areBetween_1 T_im_areBetween_1
    simp (disch := omega) only [EV, between_eq]]
  simp (disch := omega) only [EV]
  unfold allIn
  rw [List.any_eq_not_all_not]
  simp
end Go.Proofs.Ytlmbhkmaflhagaa
/-
  Plain laws: grounds, metric grounds.
-/
namespace Go.Proofs.Ytlmbhkmaflhagaa
def at2 (x : List (List Int)) (i j : Nat) : Int := (x.getD i []).getD j 0
def rowOK (x : List (List Int)) (n i : Nat) : Bool := allIn (x.getD i []) 0 99 && (((x.getD i []).length : Int) == (n : Int))
structure Ground (x : List (List Int)) : Prop where
  row : ∀ i, i < x.length → rowOK x x.length i = true
  diag : ∀ i, i < x.length → at2 x i i = 0
  sym : ∀ i j, i < x.length → j < x.length → at2 x i j = at2 x j i
  len : x.length ≤ 7
def groundB (x : List (List Int)) : Bool := ((List.range x.length).all fun i => rowOK x x.length i && at2 x i i == 0 && (List.range i).all fun j => at2 x i j == at2 x j i) && decide ((x.length : Int) ≤ 7)
theorem rowOK_len {x : List (List Int)} {n i : Nat} (h : rowOK x n i = true) : (x.getD i []).length = n := by
  simp only [rowOK, Bool.and_eq_true, beq_iff_eq] at h
  omega
theorem rowOK_in {x : List (List Int)} {n i j : Nat} (h : rowOK x n i = true) (hj : j < n) : 0 ≤ at2 x i j ∧ at2 x i j ≤ 99 := by
  have hl := rowOK_len h
  simp only [rowOK, Bool.and_eq_true] at h
  exact allIn_getD h.1 (by omega)
theorem Ground.in {x : List (List Int)} (h : Ground x) {i j : Nat} (hi : i < x.length) (hj : j < x.length) : 0 ≤ at2 x i j ∧ at2 x i j ≤ 99 := rowOK_in (h.row i hi) hj
theorem Ground.rowLen {x : List (List Int)} (h : Ground x) {i : Nat} (hi : i < x.length) : (x.getD i []).length = x.length := rowOK_len (h.row i hi)
theorem groundB_iff (x : List (List Int)) : groundB x = true ↔ Ground x := by
  unfold groundB
  simp only [List.all_eq_true, List.mem_range, Bool.and_eq_true, beq_iff_eq, decide_eq_true_eq]
  constructor
  · rintro ⟨h, h7⟩
    refine ⟨fun i hi => (h i hi).1.1, fun i hi => (h i hi).1.2, fun i j hi hj => ?_, by omega⟩
    rcases Nat.lt_trichotomy i j with h1 | h1 | h1
    · exact ((h j hj).2 i h1).symm
    · rw [h1]
    · exact (h i hi).2 j h1
  · rintro ⟨h1, h2, h3, h4⟩
    exact ⟨fun i hi => ⟨⟨h1 i hi, h2 i hi⟩, fun j hj => h3 i j hi (by omega)⟩, by omega⟩
def metricB (x : List (List Int)) : Bool := (List.range x.length).all fun i => (List.range x.length).all fun j => (List.range x.length).all fun k => decide (at2 x i j ≤ at2 x i k + at2 x k j)
end Go.Proofs.Ytlmbhkmaflhagaa
/-
  Plain laws: rising lists, dispersion, allocations, the cost of hubs.
-/
namespace Go.Proofs.Ytlmbhkmaflhagaa
theorem mul_in {a b A B : Int} (ha : 0 ≤ a ∧ a ≤ A) (hb : 0 ≤ b ∧ b ≤ B) : 0 ≤ a * b ∧ a * b ≤ A * B :=
  ⟨Int.mul_nonneg ha.1 hb.1, Int.mul_le_mul ha.2 hb.2 hb.1 (by omega)⟩
def risingB (l : List Int) (lo hi : Int) : Bool := (List.range l.length).all fun i => isIn (l.getD i 0) lo hi && (i == 0 || decide (l.getD (i - 1) 0 < l.getD i 0))
theorem risingB_iff {l : List Int} {lo hi : Int} : risingB l lo hi = true ↔ (∀ x ∈ l, lo ≤ x ∧ x ≤ hi) ∧ l.Pairwise (· < ·) := by
  unfold risingB
  simp only [List.all_eq_true, List.mem_range, Bool.and_eq_true, Bool.or_eq_true, beq_iff_eq, decide_eq_true_eq, isIn_iff]
  constructor
  · intro h
    refine ⟨fun x hx => ?_, ?_⟩
    · obtain ⟨i, hi, e⟩ := List.getElem_of_mem hx
      have := (h i hi).1
      rw [List.getD_eq_getElem?_getD, List.getElem?_eq_getElem hi] at this
      rw [← e]; exact this
    · rw [List.pairwise_iff_getElem]
      have key : ∀ d i, i + d + 1 < l.length → l.getD i 0 < l.getD (i + d + 1) 0 := by
        intro d
        induction d with
        | zero =>
          intro i hi
          have := (h (i + 1) hi).2
          rcases this with h0 | h0
          · omega
          · simpa using h0
        | succ d ih =>
          intro i hi
          have h1 := ih i (by omega)
          have := (h (i + (d + 1) + 1) hi).2
          rcases this with h0 | h0
          · omega
          · have e : i + (d + 1) + 1 - 1 = i + d + 1 := by omega
            rw [e] at h0
            omega
      intro i j hi hj hij
      have := key (j - i - 1) i (by omega)
      rw [show i + (j - i - 1) + 1 = j by omega, List.getD_eq_getElem?_getD, List.getD_eq_getElem?_getD, List.getElem?_eq_getElem hi, List.getElem?_eq_getElem hj] at this
      exact this
  · rintro ⟨h1, h2⟩ i hi
    refine ⟨h1 _ (getD_mem hi), ?_⟩
    by_cases e : i = 0
    · exact .inl e
    · right
      have := List.pairwise_iff_getElem.1 h2 (i - 1) i (by omega) hi (by omega)
      rw [List.getD_eq_getElem?_getD, List.getD_eq_getElem?_getD, List.getElem?_eq_getElem hi, List.getElem?_eq_getElem (by omega)]
      exact this
theorem risingB_in {l : List Int} {lo hi : Int} (h : risingB l lo hi = true) {i : Nat} (hi' : i < l.length) : lo ≤ l.getD i 0 ∧ l.getD i 0 ≤ hi := (risingB_iff.1 h).1 _ (getD_mem hi')
theorem l1Rising_eq {l : List Int} (hl : Low1 l) (lo hi : Int) : F_sp_l1Rising l lo hi = some (risingB l lo hi) := by
  unfold Low1 at hl
  have h0 : L_sp_l1Rising_0 (l, (lo, hi)) 0 = _ := iter_allR (f := fun v => (S_sp_l1Rising_0 (l, (lo, hi)) v).ev) (n := l.length) (mk := fun i => (i : Int)) (p := fun i => isIn (l.getD i 0) lo hi && (i == 0 || decide (l.getD (i - 1) 0 < l.getD i 0))) (yes := .inl ()) (no := .inr ()) (fun i hi' _ => by
      cases i with
      | zero =>
        simp (disch := omega) only [EV, S_sp_l1Rising_0, hi', l1In_eq]
        cases isIn (l.getD 0 0) lo hi <;> rfl
      | succ i =>
        have h1 : i < l.length := by omega
        have e0 : (0 : Int) < ((i + 1 : Nat) : Int) := by omega
        have e1 : ((i + 1 : Nat) : Int) - 1 = (i : Int) := by omega
        have e2 : (i + 1 == 0) = false := rfl
        simp (disch := omega) only [EV, S_sp_l1Rising_0, hi', l1In_eq, e0, e1, h1, e2, Bool.false_or, Nat.add_sub_cancel]
        cases isIn (l.getD (i + 1) 0) lo hi with
        | false => rfl
        | true =>
          by_cases h : l.getD (i + 1) 0 ≤ l.getD i 0
          · simp only [Bool.not_true, cond_false, if_pos h, Bool.true_and, show ¬ l.getD i 0 < l.getD (i + 1) 0 by omega, decide_false]
          · simp only [Bool.not_true, cond_false, if_neg h, Bool.true_and, show l.getD i 0 < l.getD (i + 1) 0 by omega, decide_true]
            rfl) (by simp (disch := omega) only [EV, S_sp_l1Rising_0, Nat.lt_irrefl])
  unfold F_sp_l1Rising T_sp_l1Rising
  simp (disch := omega) only [EV, h0]
  unfold risingB
  cases (List.range l.length).all fun i => isIn (l.getD i 0) lo hi && (i == 0 || decide (l.getD (i - 1) 0 < l.getD i 0)) <;> rfl
theorem isRising_eq {l : List Int} (hl : Low1 l) {n : Int} (h0 : 0 ≤ n) (h1 : n ≤ 1048576) : F_im_isRising l n = some (risingB l 0 (n - 1)) := by
  unfold Low1 at hl
  have h0 : L_im_isRising_0 (l, (n, (l, ((l.length : Nat) : Int)))) 0 = _ := iter_allR (f := fun v => (S_im_isRising_0 (l, (n, (l, ((l.length : Nat) : Int)))) v).ev) (n := l.length) (mk := fun i => (i : Int)) (p := fun i => isIn (l.getD i 0) 0 (n - 1) && (i == 0 || decide (l.getD (i - 1) 0 < l.getD i 0))) (yes := .inl ()) (no := .inr ()) (fun i hi' _ => by
      cases i with
      | zero =>
        simp (disch := omega) only [EV, S_im_isRising_0, hi', between_eq]
        cases isIn (l.getD 0 0) 0 (n - 1) <;> rfl
      | succ i =>
        have h1 : i < l.length := by omega
        have e0 : (0 : Int) < ((i + 1 : Nat) : Int) := by omega
        have e1 : ((i + 1 : Nat) : Int) - 1 = (i : Int) := by omega
        have e2 : (i + 1 == 0) = false := rfl
        simp (disch := omega) only [EV, S_im_isRising_0, hi', between_eq, e0, e1, h1, e2, Bool.false_or, Nat.add_sub_cancel]
        cases isIn (l.getD (i + 1) 0) 0 (n - 1) with
        | false => rfl
        | true =>
          by_cases h : l.getD (i + 1) 0 ≤ l.getD i 0
          · simp only [Bool.not_true, cond_false, if_pos h, Bool.true_and, show ¬ l.getD i 0 < l.getD (i + 1) 0 by omega, decide_false]
          · simp only [Bool.not_true, cond_false, if_neg h, Bool.true_and, show l.getD i 0 < l.getD (i + 1) 0 by omega, decide_true]
            rfl) (by simp (disch := omega) only [EV, S_im_isRising_0, Nat.lt_irrefl])
  unfold F_im_isRising T_im_isRising
  simp (disch := omega) only [EV, h0]
  unfold risingB
  cases (List.range l.length).all fun i => isIn (l.getD i 0) 0 (n - 1) && (i == 0 || decide (l.getD (i - 1) 0 < l.getD i 0)) <;> rfl
def pl (s : List Int) (i : Nat) : Nat := (s.getD i 0).toNat
def disp (x : List (List Int)) (s : List Int) (b : Int) : Int := (List.range s.length).foldl (fun b i => (List.range i).foldl (fun b j => min b (at2 x (pl s i) (pl s j))) b) b
theorem foldl_min {α : Type} (g : Int → α → Int) (hg : ∀ a b i, g (min a b) i = min a (g b i)) (l : List α) (a b : Int) : l.foldl g (min a b) = min a (l.foldl g b) := by
  induction l generalizing b with
  | nil => rfl
  | cons i l ih => rw [List.foldl_cons, List.foldl_cons, hg, ih]
theorem disp_min (x : List (List Int)) (s : List Int) (a b : Int) : disp x s (min a b) = min a (disp x s b) :=
  foldl_min (fun b i => (List.range i).foldl (fun b j => min b (at2 x (pl s i) (pl s j))) b) (fun a b i => foldl_min (fun b j => min b (at2 x (pl s i) (pl s j))) (fun a b j => by omega) _ a b) _ a b
theorem foldl_min_le {α : Type} (g : Int → α → Int) (hg : ∀ a i, g a i ≤ a) (l : List α) (b : Int) : l.foldl g b ≤ b := by
  induction l generalizing b with
  | nil => exact Int.le_refl _
  | cons i l ih => exact Int.le_trans (ih _) (hg b i)
theorem foldl_min_mem {α : Type} (g : Int → α → Int) (hg : ∀ a i, g a i ≤ a) {l : List α} {i : α} (hi : i ∈ l) {c : Int} (hc : ∀ a, g a i ≤ c) (b : Int) : l.foldl g b ≤ c := by
  induction l generalizing b with
  | nil => cases hi
  | cons k l ih =>
    rw [List.foldl_cons]
    rcases List.mem_cons.1 hi with rfl | hi
    · exact Int.le_trans (foldl_min_le g hg l _) (hc b)
    · exact ih hi _
theorem disp_le (x : List (List Int)) (s : List Int) (b : Int) {i j : Nat} (hi : i < s.length) (hj : j < i) : disp x s b ≤ at2 x (pl s i) (pl s j) :=
  foldl_min_mem _ (fun a i => foldl_min_le _ (fun a j => by omega) _ a) (List.mem_range.2 hi) (fun a => foldl_min_mem _ (fun a j => by omega) (List.mem_range.2 hj) (fun a => by omega) a) b
theorem disp_start {x : List (List Int)} {s : List Int} {i j : Nat} (hi : i < s.length) (hj : j < i) {b : Int} (hb : at2 x (pl s i) (pl s j) ≤ b) : disp x s (at2 x (pl s i) (pl s j)) = disp x s b := by
  have := disp_min x s (at2 x (pl s i) (pl s j)) b
  rw [Int.min_eq_left hb] at this
  rw [this, Int.min_eq_right (disp_le x s b hi hj)]
structure Places (s : List Int) (n : Nat) : Prop where
  low : (s.length : Int) ≤ 1048576
  mem : ∀ i, i < s.length → 0 ≤ s.getD i 0 ∧ s.getD i 0 < n
theorem Places.pl {s : List Int} {n : Nat} (h : Places s n) {i : Nat} (hi : i < s.length) : s.getD i 0 = (pl s i : Int) ∧ Go.Proofs.Ytlmbhkmaflhagaa.pl s i < n := by
  have := h.mem i hi
  unfold Go.Proofs.Ytlmbhkmaflhagaa.pl
  omega
theorem Places.of {s : List Int} {n : Nat} (hs : Low1 s) (h : risingB s 0 ((n : Int) - 1) = true) : Places s n := ⟨hs, fun i hi => by have := risingB_in h hi; omega⟩
def dispOf (x : List (List Int)) (s : List Int) : Int × Bool := bif groundB x && (risingB s 0 ((x.length : Int) - 1) && decide (2 ≤ s.length)) then (disp x s 100, true) else (0, false)
end Go.Proofs.Ytlmbhkmaflhagaa
/-
  Plain laws: fields, atlases.
-/
namespace Go.Proofs.Ytlmbhkmaflhagaa
def fieldB (o : List Int) (ds : List (List Int)) : Bool := isIn (o.length : Int) 1 7 && (allIn o 0 99 && (decide ((ds.length : Int) ≤ 7) && ds.all fun r => decide (r.length = o.length) && allIn r 0 99))
structure Fld (o : List Int) (ds : List (List Int)) : Prop where
  pos : 1 ≤ o.length
  len : o.length ≤ 7
  cost : ∀ i, i < o.length → 0 ≤ o.getD i 0 ∧ o.getD i 0 ≤ 99
  clients : ds.length ≤ 7
  rowLen : ∀ j, j < ds.length → (ds.getD j []).length = o.length
  dist : ∀ j i, j < ds.length → i < o.length → 0 ≤ (ds.getD j []).getD i 0 ∧ (ds.getD j []).getD i 0 ≤ 99
theorem fieldB_iff {o : List Int} {ds : List (List Int)} : fieldB o ds = true ↔ Fld o ds := by
  unfold fieldB
  simp only [Bool.and_eq_true, decide_eq_true_eq, List.all_eq_true, isIn_iff]
  constructor
  · rintro ⟨⟨h1, h2⟩, h3, h4, h5⟩
    have h6 : ∀ j, j < ds.length → (ds.getD j []).length = o.length ∧ allIn (ds.getD j []) 0 99 = true := fun j hj => h5 _ (getD_mem (d := []) hj)
    exact ⟨by omega, by omega, fun i hi => allIn_getD h3 hi, by omega, fun j hj => (h6 j hj).1, fun j i hj hi => allIn_getD (h6 j hj).2 (by rw [(h6 j hj).1]; exact hi)⟩
  · rintro ⟨h1, h2, h3, h4, h5, h6⟩
    refine ⟨by omega, allIn_iff.2 fun a ha => ?_, by omega, fun r hr => ?_⟩
    · obtain ⟨i, hi, e⟩ := List.getElem_of_mem ha
      have := h3 i hi
      rw [List.getD_eq_getElem?_getD, List.getElem?_eq_getElem hi, Option.getD_some, e] at this
      exact this
    · obtain ⟨j, hj, e⟩ := List.getElem_of_mem hr
      have e2 : ds.getD j [] = r := by rw [List.getD_eq_getElem?_getD, List.getElem?_eq_getElem hj, Option.getD_some, e]
      have h7 := h5 j hj
      rw [e2] at h7
      refine ⟨h7, allIn_iff.2 fun a ha => ?_⟩
      obtain ⟨i, hi, e3⟩ := List.getElem_of_mem ha
      have := h6 j i hj (by omega)
      rw [e2, List.getD_eq_getElem?_getD, List.getElem?_eq_getElem hi, Option.getD_some, e3] at this
      exact this
def atlasB (o : List Int) (ds : List (List Int)) (s : List Int) (c : Int) : Bool := fieldB o ds && (risingB s 0 ((o.length : Int) - 1) && isIn c 0 1000)
end Go.Proofs.Ytlmbhkmaflhagaa
/-
  Plain laws: what a set of sites serves: lengths, service, payment, total, reach; values of objectives.
-/
namespace Go.Proofs.Ytlmbhkmaflhagaa
theorem Fld.at2 {o : List Int} {ds : List (List Int)} (h : Fld o ds) {j i : Nat} (hj : j < ds.length) (hi : i < o.length) : 0 ≤ at2 ds j i ∧ at2 ds j i ≤ 99 := h.dist j i hj hi
def srvStep (ds : List (List Int)) (j : Nat) (s : List Int) (b k : Nat) : Nat := if at2 ds j (pl s k) < at2 ds j b then pl s k else b
def srv (ds : List (List Int)) (j : Nat) (s : List Int) : Nat := (List.range s.length).foldl (srvStep ds j s) (pl s 0)
def near (ds : List (List Int)) (s : List Int) (j : Nat) : Int := at2 ds j (srv ds j s)
def pay (o s : List Int) : Int := (List.range s.length).foldl (fun a k => a + o.getD (pl s k) 0) 0
def serve (ds : List (List Int)) (s : List Int) : Int := (List.range ds.length).foldl (fun a j => a + near ds s j) 0
def far (ds : List (List Int)) (s : List Int) : Int := (List.range ds.length).foldl (fun a j => max a (near ds s j)) 0
def lensOf (ds : List (List Int)) (s : List Int) : List Int := (List.range ds.length).map (near ds s)
theorem foldl_inv {α S : Type} {g : S → α → S} (Q : S → Prop) {l : List α} (h : ∀ s a, a ∈ l → Q s → Q (g s a)) {s : S} (hs : Q s) : Q (l.foldl g s) := by
  induction l generalizing s with
  | nil => exact hs
  | cons a l ih => exact ih (fun s b hb => h s b (List.mem_cons_of_mem _ hb)) (h s a List.mem_cons_self hs)
theorem srvStep_lt {ds : List (List Int)} {j : Nat} {s : List Int} {n b k : Nat} (hs : Places s n) (hk : k < s.length) (hb : b < n) : srvStep ds j s b k < n := by
  unfold srvStep
  split
  · exact (hs.pl hk).2
  · exact hb
theorem srv_lt {ds : List (List Int)} {j : Nat} {s : List Int} {n : Nat} (hs : Places s n) (h0 : 0 < s.length) : srv ds j s < n :=
  foldl_inv (fun b => b < n) (fun _ _ hk hb => srvStep_lt hs (List.mem_range.1 hk) hb) (hs.pl h0).2
theorem near_in {o : List Int} {ds : List (List Int)} (hf : Fld o ds) {s : List Int} (hs : Places s o.length) (h0 : 0 < s.length) {j : Nat} (hj : j < ds.length) : 0 ≤ near ds s j ∧ near ds s j ≤ 99 := hf.at2 hj (srv_lt hs h0)
theorem sum_bound {α : Type} {l : List α} {f : α → Int} {B : Int} (h : ∀ a ∈ l, 0 ≤ f a ∧ f a ≤ B) (a0 : Int) : a0 ≤ l.foldl (fun a x => a + f x) a0 ∧ l.foldl (fun a x => a + f x) a0 ≤ a0 + (l.length : Int) * B := by
  induction l generalizing a0 with
  | nil => simp
  | cons x l ih =>
    have h1 := ih (fun a ha => h a (List.mem_cons_of_mem _ ha)) (a0 + f x)
    have h2 := h x List.mem_cons_self
    simp only [List.foldl_cons, List.length_cons]
    have e : ((l.length + 1 : Nat) : Int) * B = (l.length : Int) * B + B := by
      rw [Int.natCast_add, Int.add_mul]; simp
    rw [e]
    omega
theorem serve_in {o : List Int} {ds : List (List Int)} (hf : Fld o ds) {s : List Int} (hs : Places s o.length) (h0 : 0 < s.length) : 0 ≤ serve ds s ∧ serve ds s ≤ 693 := by
  have := sum_bound (l := List.range ds.length) (f := near ds s) (B := 99) (fun j hj => near_in hf hs h0 (List.mem_range.1 hj)) 0
  have hc := hf.clients
  unfold serve
  simp only [List.length_range] at this
  omega
theorem pay_in {o : List Int} {ds : List (List Int)} (hf : Fld o ds) {s : List Int} (hs : Places s o.length) : 0 ≤ pay o s ∧ pay o s ≤ 103809024 := by
  have := sum_bound (l := List.range s.length) (f := fun k => o.getD (pl s k) 0) (B := 99) (fun k hk => hf.cost _ (hs.pl (List.mem_range.1 hk)).2) 0
  have hc := hs.low
  unfold pay
  simp only [List.length_range] at this
  omega
theorem l2Site_eq {o : List Int} {ds : List (List Int)} (hf : Fld o ds) {s : List Int} (hs : Places s o.length) (h0 : 0 < s.length) {j : Nat} (hj : j < ds.length) : F_sp_l2Site o ds (j : Int) s = some (srv ds j s : Int) := by
  have hlow := hs.low
  have hr := hf.rowLen j hj
  have hlen := hf.len
  have key : L_sp_l2Site_0 ((j : Int), (s, (o, ds))) ((pl s 0 : Int), 0) = some (srv ds j s : Int) :=
    (iter_fold (f := fun v => (S_sp_l2Site_0 ((j : Int), (s, (o, ds))) v).ev) (n := s.length) (mk := fun k (b : Nat) => ((b : Int), (k : Int))) (I := fun _ b => b < o.length) (g := srvStep ds j s) (fin := fun b => (b : Int)) (s0 := pl s 0) (hs.pl h0).2
      (fun k b hk hb => by
        obtain ⟨e1, h1⟩ := hs.pl hk
        have e3 : (ds.getD j []).getD (pl s k) 0 = at2 ds j (pl s k) := rfl
        have e4 : (ds.getD j []).getD b 0 = at2 ds j b := rfl
        refine ⟨?_, srvStep_lt hs hk hb⟩
        simp (disch := omega) only [EV, S_sp_l2Site_0, hj, hk, e1, hr, h1, hb, e3, e4]
        unfold srvStep
        split <;> rfl)
      (fun b _ => by simp (disch := omega) only [EV, S_sp_l2Site_0, Nat.lt_irrefl])).1
  have key2 : L_sp_l2Site_0 ((j : Int), (s, (o, ds))) ((pl s 0 : Int), 1) = some (srv ds j s : Int) := by
    rw [← key]
    unfold L_sp_l2Site_0
    conv => rhs; rw [iter_eq]
    obtain ⟨e1, h1⟩ := hs.pl h0
    have e3 : (ds.getD j []).getD (pl s 0) 0 = at2 ds j (pl s 0) := rfl
    have z : Int.toNat 0 = 0 := rfl
    simp (disch := omega) only [EV, S_sp_l2Site_0, hj, h0, z, e1, hr, h1, e3, Int.lt_irrefl, show (0 : Int) < (s.length : Int) by omega]
    rfl
  unfold F_sp_l2Site T_sp_l2Site
  have z : Int.toNat 0 = 0 := rfl
  simp (disch := omega) only [EV, z, (hs.pl h0).1, key2]
theorem l2Nearest_eq {o : List Int} {ds : List (List Int)} (hf : Fld o ds) {s : List Int} (hs : Places s o.length) (h0 : 0 < s.length) {j : Nat} (hj : j < ds.length) : F_sp_l2Nearest o ds (j : Int) s = some (near ds s j) := by
  have hr := hf.rowLen j hj
  have hb : srv ds j s < o.length := srv_lt hs h0
  unfold F_sp_l2Nearest T_sp_l2Nearest
  have e3 : (ds.getD j []).getD (srv ds j s) 0 = near ds s j := rfl
  simp (disch := omega) only [EV, hj, l2Site_eq hf hs h0 hj, hr, hb, e3]
theorem server_eq {o : List Int} {ds : List (List Int)} (hf : Fld o ds) {s : List Int} (hs : Places s o.length) (h0 : 0 < s.length) {j : Nat} (hj : j < ds.length) : F_im_Field_server o ds (j : Int) s = some (srv ds j s : Int) := by
  have hlow := hs.low
  have hr := hf.rowLen j hj
  have hlen := hf.len
  have key : L_im_Field_server_0 ((j : Int), (s, ((s.length : Int), (o, ds)))) ((pl s 0 : Int), 0) = some (srv ds j s : Int) :=
    (iter_fold (f := fun v => (S_im_Field_server_0 ((j : Int), (s, ((s.length : Int), (o, ds)))) v).ev) (n := s.length) (mk := fun k (b : Nat) => ((b : Int), (k : Int))) (I := fun _ b => b < o.length) (g := srvStep ds j s) (fin := fun b => (b : Int)) (s0 := pl s 0) (hs.pl h0).2
      (fun k b hk hb => by
        obtain ⟨e1, h1⟩ := hs.pl hk
        have e3 : (ds.getD j []).getD (pl s k) 0 = at2 ds j (pl s k) := rfl
        have e4 : (ds.getD j []).getD b 0 = at2 ds j b := rfl
        refine ⟨?_, srvStep_lt hs hk hb⟩
        simp (disch := omega) only [EV, S_im_Field_server_0, hj, hk, e1, hr, h1, hb, e3, e4]
        unfold srvStep
        split <;> rfl)
      (fun b _ => by simp (disch := omega) only [EV, S_im_Field_server_0, Nat.lt_irrefl])).1
  unfold F_im_Field_server T_im_Field_server
  have z : Int.toNat 0 = 0 := rfl
  simp (disch := omega) only [EV, z, (hs.pl h0).1, key]
theorem iter_app {V R α : Type} {f : V → Option (V ⊕ R)} {n : Nat} (mk : Nat → List α → V) (g : Nat → α) (fin : List α → R)
    (hstep : ∀ i l, i < n → l.length = i → f (mk i l) = some (.inl (mk (i + 1) (l ++ [g i])))) (hend : ∀ l, l.length = n → f (mk n l) = some (.inr (fin l))) : iter f (mk 0 []) = some (fin ((List.range n).map g)) := by
  have := (iter_fold (f := f) (n := n) mk (fun i l => l.length = i) (fun l i => l ++ [g i]) fin (s0 := []) rfl (fun i l hi hl => ⟨hstep i l hi hl, by simp [hl]⟩) hend).1
  rw [this]
  congr 2
  have : ∀ (l : List Nat) (acc : List α), l.foldl (fun l i => l ++ [g i]) acc = acc ++ l.map g := by
    intro l
    induction l with
    | nil => simp
    | cons x l ih => intro acc; simp [ih]
  rw [this]; simp
theorem served_eq {o : List Int} {ds : List (List Int)} (hf : Fld o ds) {s : List Int} (hs : Places s o.length) (h0 : 0 < s.length) : F_im_Field_served o ds s = some ((List.range ds.length).map fun j => (srv ds j s : Int)) := by
  have hc := hf.clients
  have key : L_im_Field_served_0 (s, ((ds.length : Int), (o, ds))) (0, []) = some ((List.range ds.length).map fun j => (srv ds j s : Int)) :=
    iter_app (f := fun v => (S_im_Field_served_0 (s, ((ds.length : Int), (o, ds))) v).ev) (n := ds.length) (mk := fun k (l : List Int) => ((k : Int), l)) (fun j => (srv ds j s : Int)) (fun l => l)
      (fun j l hj hl => by
        have e : (l.length + List.length [(srv ds j s : Int)]) * 8 ≤ 140737488355328 := by simp; omega
        simp (disch := omega) only [EV, S_im_Field_served_0, hj, server_eq hf hs h0 hj, e]
        rfl) (fun l _ => by simp (disch := omega) only [EV, S_im_Field_served_0, Nat.lt_irrefl])
  unfold F_im_Field_served T_im_Field_served
  simp (disch := omega) only [EV, key]
theorem lengths_eq {o : List Int} {ds : List (List Int)} (hf : Fld o ds) {s : List Int} (hs : Places s o.length) (h0 : 0 < s.length) : F_im_Field_lengths o ds s = some (lensOf ds s) := by
  have hc := hf.clients
  unfold F_im_Field_lengths T_im_Field_lengths
  simp (disch := omega) only [EV, served_eq hf hs h0]
  generalize hr : ((List.range ds.length).map fun j => (srv ds j s : Int)) = r
  have hrl : r.length = ds.length := by rw [← hr]; simp
  have hrg : ∀ j, j < ds.length → r.getD j 0 = (srv ds j s : Int) := fun j hj => by rw [← hr, List.getD_eq_getElem?_getD, List.getElem?_map, List.getElem?_range hj]; rfl
  have key : L_im_Field_lengths_0 ((r.length : Int), (o, (ds, r))) (0, []) = some (lensOf ds s) :=
    iter_app (f := fun v => (S_im_Field_lengths_0 ((r.length : Int), (o, (ds, r))) v).ev) (n := ds.length) (mk := fun k (l : List Int) => ((k : Int), l)) (near ds s) (fun l => l)
      (fun j l hj hl => by
        have hb : srv ds j s < o.length := srv_lt hs h0
        have e3 : (ds.getD j []).getD (srv ds j s) 0 = near ds s j := rfl
        have e : ∀ x : Int, (l.length + List.length [x]) * 8 ≤ 140737488355328 := fun x => by simp; omega
        simp (disch := omega) only [EV, S_im_Field_lengths_0, hj, hrl, hrg j hj, hf.rowLen j hj, hb, e3, e]
        rfl) (fun l _ => by simp (disch := omega) only [EV, S_im_Field_lengths_0, hrl, Nat.lt_irrefl])
  simp (disch := omega) only [EV, key]
theorem im_sum_eq {l : List Int} {B : Int} (hl : (l.length : Int) * B < 9223372036854775808) (hn : (l.length : Int) < 9223372036854775807) (h : ∀ a ∈ l, 0 ≤ a ∧ a ≤ B) : F_im_sum l = some (l.foldl (fun a x => a + x) 0) := by
  have key := iter_foldl (f := fun v => (S_im_sum_0 (l, (l.length : Int)) v).ev) l 0 (mk := fun k a => (a, (k : Int))) (I := fun k a => 0 ≤ a ∧ a ≤ (k : Int) * B) (g := fun a x => a + x) (fin := fun a => a) (s0 := 0) (by simp)
    (fun k a hk ha => by
      have h1 := h _ (getD_mem (d := 0) hk)
      have h2 : ((k + 1 : Nat) : Int) * B = (k : Int) * B + B := by rw [Int.natCast_add, Int.add_mul]; simp
      have hB : 0 ≤ B := by omega
      have h3 : ((k + 1 : Nat) : Int) * B ≤ (l.length : Int) * B := Int.mul_le_mul_of_nonneg_right (by omega) hB
      refine ⟨?_, by omega, by omega⟩
      simp (disch := omega) only [EV, S_im_sum_0, hk]
      rfl)
    (fun a _ => by simp (disch := omega) only [EV, S_im_sum_0, Nat.lt_irrefl])
  unfold F_im_sum T_im_sum
  have k1 : L_im_sum_0 (l, (l.length : Int)) (0, 0) = _ := key.1
  simp (disch := omega) only [EV, k1]
theorem service_eq {o : List Int} {ds : List (List Int)} (hf : Fld o ds) {s : List Int} (hs : Places s o.length) (h0 : 0 < s.length) : F_im_Field_service o ds s = some (serve ds s) := by
  have hc := hf.clients
  unfold F_im_Field_service T_im_Field_service
  have hl : (lensOf ds s).length = ds.length := by simp [lensOf]
  simp (disch := omega) only [EV, lengths_eq hf hs h0, im_sum_eq (l := lensOf ds s) (B := 99) (by omega) (by omega) (fun a ha => by
    obtain ⟨j, hj, rfl⟩ := List.mem_map.1 ha
    exact near_in hf hs h0 (List.mem_range.1 hj))]
  unfold lensOf serve
  rw [List.foldl_map]
theorem l2Serve_eq {o : List Int} {ds : List (List Int)} (hf : Fld o ds) {s : List Int} (hs : Places s o.length) (h0 : 0 < s.length) : F_sp_l2Serve o ds s = some (serve ds s) := by
  have hc := hf.clients
  have key : L_sp_l2Serve_0 (s, (o, ds)) (0, 0) = some (serve ds s) :=
    (iter_fold (f := fun v => (S_sp_l2Serve_0 (s, (o, ds)) v).ev) (n := ds.length) (mk := fun k a => (a, (k : Int))) (I := fun k a => 0 ≤ a ∧ a ≤ (k : Int) * 99) (g := fun a j => a + near ds s j) (fin := fun a => a) (s0 := 0) (by simp)
      (fun j a hj ha => by
        have h1 := near_in hf hs h0 hj
        refine ⟨?_, by omega, by omega⟩
        simp (disch := omega) only [EV, S_sp_l2Serve_0, hj, l2Nearest_eq hf hs h0 hj]
        rfl)
      (fun a _ => by simp (disch := omega) only [EV, S_sp_l2Serve_0, Nat.lt_irrefl])).1
  unfold F_sp_l2Serve T_sp_l2Serve
  simp (disch := omega) only [EV, key]
theorem foldl_max_start {l : List Int} (a : Int) (h : ∀ x ∈ l, x ≤ a) : l.foldl (fun a x => max a x) a = a := by
  induction l with
  | nil => rfl
  | cons x l ih =>
    rw [List.foldl_cons, Int.max_eq_left (h x List.mem_cons_self)]
    exact ih fun y hy => h y (List.mem_cons_of_mem _ hy)
theorem max_zero {l : List Int} (h : ∀ x ∈ l, 0 ≤ x) : (l ++ [0]).foldl (fun a x => max a x) ((l ++ [0]).getD 0 0) = l.foldl (fun a x => max a x) 0 := by
  cases l with
  | nil => rfl
  | cons y l =>
    have h1 := h y List.mem_cons_self
    have hge : ∀ (l : List Int) (a : Int), a ≤ l.foldl (fun a x => max a x) a := by
      intro l
      induction l with
      | nil => intro a; exact Int.le_refl _
      | cons x l ih => intro a; exact Int.le_trans (Int.le_max_left a x) (ih _)
    rw [List.foldl_append]
    have e : ((y :: l) ++ [0]).getD 0 0 = y := rfl
    have := hge l y
    simp only [e, List.foldl_cons, List.foldl_nil, Int.max_self, Int.max_eq_right h1]
    omega
def valueOf (o : List Int) (ds : List (List Int)) (s : List Int) (k : Int) : Int :=
  if k = 1 then serve ds s else if k = 2 then pay o s else if k = 3 then pay o s + serve ds s else if k = 4 then far ds s else (s.length : Int)
def openB (o : List Int) (ds : List (List Int)) (s : List Int) : Bool := fieldB o ds && (risingB s 0 ((o.length : Int) - 1) && decide (0 < s.length))
theorem beq_dec (a b : Int) : (a == b) = decide (a = b) := by
  rw [Bool.eq_iff_iff]; simp
theorem openB_iff {o : List Int} {ds : List (List Int)} {s : List Int} (hs : Low1 s) (h : openB o ds s = true) : Fld o ds ∧ Places s o.length ∧ 0 < s.length := by
  unfold openB at h
  simp only [Bool.and_eq_true, decide_eq_true_eq] at h
  exact ⟨fieldB_iff.1 h.1, Places.of hs h.2.1, h.2.2⟩
def objOf (o : List Int) (ds : List (List Int)) (s : List Int) (k : Int) : Int × Bool := bif openB o ds s && isIn k 1 5 then (valueOf o ds s k, true) else (0, false)
def totalOf (o : List Int) (ds : List (List Int)) (s : List Int) (c : Int) : Int × Bool := bif atlasB o ds s c && decide (0 < s.length) then (pay o s + serve ds s, true) else (0, false)
theorem atlasB_fld {o : List Int} {ds : List (List Int)} {s : List Int} {c : Int} (hs : Low1 s) (h : atlasB o ds s c = true) : Fld o ds ∧ Places s o.length := by
  unfold atlasB at h
  simp only [Bool.and_eq_true] at h
  exact ⟨fieldB_iff.1 h.1, Places.of hs h.2.1⟩
end Go.Proofs.Ytlmbhkmaflhagaa
/-
  Plain laws: the ascent of the prices.
-/
namespace Go.Proofs.Ytlmbhkmaflhagaa
theorem all_succ {P : Nat → Prop} {i : Nat} : (∀ s, s < i + 1 → P s) ↔ (∀ s, s < i → P s) ∧ P i := by
  refine ⟨fun h => ⟨fun s hs => h s (by omega), h i (by omega)⟩, fun ⟨h1, h2⟩ s hs => ?_⟩
  rcases Nat.lt_or_ge s i with h | h
  · exact h1 s h
  · obtain rfl : s = i := by omega
    exact h2
def IsMin (n : Nat) (f : Nat → Int) (g : Int) : Prop := (∀ s, s < n → g ≤ f s) ∧ ∃ s, s < n ∧ g = f s
theorem IsMin.uniq {n : Nat} {f : Nat → Int} {g h : Int} (a : IsMin n f g) (b : IsMin n f h) : g = h := by
  obtain ⟨a1, s, a2, a3⟩ := a
  obtain ⟨b1, t, b2, b3⟩ := b
  have := a1 t b2
  have := b1 s a2
  omega
def RM (i : Nat) (sel : Nat → Prop) (f : Nat → Int) (m : Int) : Prop :=
  (m = -1 ∧ ∀ s, s < i → ¬ sel s) ∨ (0 ≤ m ∧ (∀ s, s < i → sel s → m ≤ f s) ∧ ∃ s, s < i ∧ sel s ∧ m = f s)
theorem RM.zero (sel : Nat → Prop) (f : Nat → Int) : RM 0 sel f (-1) := .inl ⟨rfl, fun s hs => absurd hs (by omega)⟩
theorem RM.skip {i : Nat} {sel : Nat → Prop} {f : Nat → Int} {m : Int} (hn : ¬ sel i) : RM i sel f m → RM (i + 1) sel f m
  | .inl ⟨a, b⟩ => .inl ⟨a, all_succ.2 ⟨b, hn⟩⟩
  | .inr ⟨a, b, s, c, d⟩ => .inr ⟨a, all_succ.2 ⟨b, fun h => absurd h hn⟩, s, by omega, d⟩
theorem RM.take {i : Nat} {sel : Nat → Prop} {f : Nat → Int} {m : Int} (hs : sel i) (h0 : 0 ≤ f i) (hm : m < 0 ∨ f i < m) : RM i sel f m → RM (i + 1) sel f (f i)
  | .inl ⟨_, b⟩ => .inr ⟨h0, all_succ.2 ⟨fun s h k => absurd k (b s h), fun _ => Int.le_refl _⟩, i, by omega, hs, rfl⟩
  | .inr ⟨a, b, _⟩ => .inr ⟨h0, all_succ.2 ⟨fun s h k => by have := b s h k; omega, fun _ => Int.le_refl _⟩, i, by omega, hs, rfl⟩
theorem RM.keep {i : Nat} {sel : Nat → Prop} {f : Nat → Int} {m : Int} (h0 : ¬ m < 0) (hm : ¬ f i < m) : RM i sel f m → RM (i + 1) sel f m
  | .inl ⟨a, _⟩ => by omega
  | .inr ⟨a, b, s, c, d⟩ => .inr ⟨a, all_succ.2 ⟨b, fun _ => by omega⟩, s, by omega, d⟩
def pos (x : Int) : Int := if 0 < x then x else 0
theorem pos_in (x : Int) : 0 ≤ pos x ∧ (0 ≤ x → pos x = x) ∧ (x ≤ 0 → pos x = 0) := by unfold pos; split <;> refine ⟨by omega, by omega, by omega⟩
theorem pos_max (x : Int) : max 0 x = pos x := by unfold pos; split <;> omega
def clmN (ds : List (List Int)) (p : List Int) (s : Nat) : Nat → Int
  | 0 => 0
  | k + 1 => clmN ds p s k + pos (p.getD k 0 - at2 ds k s)
def clm (ds : List (List Int)) (p : List Int) (s : Nat) : Int := clmN ds p s ds.length
def psum (p : List Int) : Nat → Int
  | 0 => 0
  | k + 1 => psum p k + p.getD k 0
theorem set_getD (l : List Int) {i : Nat} (hi : i < l.length) (j : Nat) (v : Int) : (l.set i v).getD j 0 = if i = j then v else l.getD j 0 := by
  rw [List.getD_eq_getElem?_getD, List.getD_eq_getElem?_getD, List.getElem?_set]
  by_cases h : i = j
  · subst h; simp [hi]
  · simp [h]
theorem clmN_set {ds : List (List Int)} {p : List Int} {c : Nat} (hc : c < p.length) (n : Int) (s : Nat) : ∀ k, clmN ds (p.set c n) s k = clmN ds p s k + if c < k then pos (n - at2 ds c s) - pos (p.getD c 0 - at2 ds c s) else 0
  | 0 => by simp [clmN]
  | k + 1 => by
    rw [clmN, clmN, clmN_set hc n s k, set_getD p hc]
    by_cases h1 : c = k
    · subst h1
      rw [if_pos rfl, if_neg (by omega), if_pos (by omega)]
      omega
    · rw [if_neg h1]
      by_cases h2 : c < k
      · rw [if_pos h2, if_pos (by omega)]; omega
      · rw [if_neg h2, if_neg (by omega)]; omega
theorem clmN_ge {ds : List (List Int)} {p : List Int} {s : Nat} : ∀ k, 0 ≤ clmN ds p s k ∧ ∀ c, c < k → pos (p.getD c 0 - at2 ds c s) ≤ clmN ds p s k
  | 0 => ⟨by simp [clmN], fun c h => absurd h (by omega)⟩
  | k + 1 => by
    obtain ⟨h1, h2⟩ := clmN_ge (ds := ds) (p := p) (s := s) k
    have h3 := (pos_in (p.getD k 0 - at2 ds k s)).1
    refine ⟨by rw [clmN]; omega, all_succ.2 ⟨fun c hc => by have := h2 c hc; rw [clmN]; omega, by rw [clmN]; omega⟩⟩
theorem psum_set {p : List Int} {c : Nat} (hc : c < p.length) (n : Int) : ∀ k, psum (p.set c n) k = psum p k + if c < k then n - p.getD c 0 else 0
  | 0 => by simp [psum]
  | k + 1 => by
    rw [psum, psum, psum_set hc n k, set_getD p hc]
    by_cases h1 : c = k
    · subst h1
      rw [if_pos rfl, if_neg (by omega), if_pos (by omega)]
      omega
    · rw [if_neg h1]
      by_cases h2 : c < k
      · rw [if_pos h2, if_pos (by omega)]; omega
      · rw [if_neg h2, if_neg (by omega)]; omega
structure PI (o : List Int) (ds : List (List Int)) (p : List Int) : Prop where
  len : p.length = ds.length
  near : ∀ c, c < ds.length → ∃ s, s < o.length ∧ at2 ds c s ≤ p.getD c 0
  room : ∀ s, s < o.length → clm ds p s ≤ o.getD s 0
theorem PI.val {o : List Int} {ds : List (List Int)} {p : List Int} (h : PI o ds p) (hf : Fld o ds) {c : Nat} (hc : c < ds.length) : 0 ≤ p.getD c 0 ∧ p.getD c 0 ≤ 198 := by
  obtain ⟨s, h1, h2⟩ := h.near c hc
  have h3 := hf.at2 hc h1
  have h4 := h.room s h1
  have h5 := hf.cost s h1
  have h6 := (clmN_ge (ds := ds) (p := p) (s := s) ds.length).2 c hc
  have h7 := (pos_in (p.getD c 0 - at2 ds c s)).2.1 (by omega)
  unfold clm at h4
  omega
theorem clmN_le {o : List Int} {ds : List (List Int)} {p : List Int} (h : PI o ds p) (hf : Fld o ds) {s : Nat} (hs : s < o.length) : ∀ k, k ≤ ds.length → clmN ds p s k ≤ 198 * k
  | 0, _ => by simp [clmN]
  | k + 1, hk => by
    have h1 := clmN_le h hf hs k (by omega)
    have h2 := h.val hf (show k < ds.length by omega)
    have h3 := hf.at2 (show k < ds.length by omega) hs
    have h4 : pos (p.getD k 0 - at2 ds k s) ≤ 198 := by
      have := pos_in (p.getD k 0 - at2 ds k s)
      by_cases hx : 0 ≤ p.getD k 0 - at2 ds k s
      · have := this.2.1 hx; omega
      · have := this.2.2 (by omega); omega
    rw [clmN]
    omega
theorem psum_le {o : List Int} {ds : List (List Int)} {p : List Int} (h : PI o ds p) (hf : Fld o ds) : ∀ k, k ≤ ds.length → 0 ≤ psum p k ∧ psum p k ≤ 198 * k
  | 0, _ => by simp [psum]
  | k + 1, hk => by
    have h1 := psum_le h hf k (by omega)
    have h2 := h.val hf (show k < ds.length by omega)
    rw [psum]
    omega
def cand (o : List Int) (ds : List (List Int)) (p : List Int) (c s : Nat) : Int := if at2 ds c s ≤ p.getD c 0 then o.getD s 0 - clm ds p s else at2 ds c s - p.getD c 0
theorem cand_ge {o : List Int} {ds : List (List Int)} {p : List Int} (h : PI o ds p) {c s : Nat} (hs : s < o.length) : 0 ≤ cand o ds p c s := by
  have := h.room s hs
  unfold cand
  split <;> omega
theorem PI.step {o : List Int} {ds : List (List Int)} {p : List Int} (h : PI o ds p) {c : Nat} (hc : c < ds.length) {g : Int} (hg : IsMin o.length (cand o ds p c) g) : 0 ≤ g ∧ PI o ds (p.set c (p.getD c 0 + g)) := by
  have hcp : c < p.length := by rw [h.len]; exact hc
  have h0 : 0 ≤ g := by
    obtain ⟨_, s, h1, h2⟩ := hg
    rw [h2]
    exact cand_ge h h1
  refine ⟨h0, by rw [List.length_set]; exact h.len, fun c' hc' => ?_, fun s hs => ?_⟩
  · obtain ⟨s, h1, h2⟩ := h.near c' hc'
    refine ⟨s, h1, ?_⟩
    rw [set_getD p hcp]
    split
    next he => subst he; omega
    next => exact h2
  · have h1 := hg.1 s hs
    have h2 := h.room s hs
    unfold clm at h2 ⊢
    rw [clmN_set hcp, if_pos hc]
    have h3 := pos_in (p.getD c 0 - at2 ds c s)
    have h4 := pos_in (p.getD c 0 + g - at2 ds c s)
    unfold cand clm at h1
    split at h1
    · have := h3.2.1 (by omega)
      have := h4.2.1 (by omega)
      omega
    · have := h3.2.2 (by omega)
      have := h4.2.2 (by omega)
      omega
end Go.Proofs.Ytlmbhkmaflhagaa
/-
  Plain laws: marks that are written into a result, and read again.
-/
namespace Go.Proofs.Ytlmbhkmaflhagaa
def markL (k : Int) (n : Nat) : List Int := (List.range n).map fun (i : Nat) => k + (i : Int)
theorem markL_len (k : Int) (n : Nat) : (markL k n).length = n := by simp [markL]
theorem markL_succ (k : Int) (n : Nat) : markL k (n + 1) = markL k n ++ [k + (n : Int)] := by simp [markL, List.range_succ]
theorem markL_getD {k : Int} {n i : Nat} (h : i < n) : (markL k n).getD i 0 = k + (i : Int) := by
  simp [markL, List.getD_eq_getElem?_getD, h]
theorem mark_set (k : Int) {l : List Int} {i : Nat} (h : i < l.length) : (markL k i ++ l.drop i).set i (k + (i : Int)) = markL k (i + 1) ++ l.drop (i + 1) := by
  rw [List.set_append_right _ _ (by rw [markL_len]; omega), markL_len, Nat.sub_self, List.drop_eq_getElem_cons h, List.set_cons_zero, markL_succ, List.append_assoc]
  rfl
theorem markIntS_eq {l : List Int} (hl : Low1 l) {k : Int} (h0 : 0 ≤ k) (h1 : k ≤ 4611686018427387904) : F_lw_markIntS k l = some (k + (l.length : Int), markL k l.length) := by
  unfold Low1 at hl
  unfold F_lw_markIntS T_lw_markIntS
  have hs := (iter_fold (f := fun v => (S_lw_markIntS_0 () v).ev) (n := l.length) (mk := fun i (_ : Unit) => (k + (i : Int), ((i : Int), markL k i ++ l.drop i))) (I := fun _ _ => True) (g := fun s _ => s) (fin := fun _ => (k + (l.length : Int), markL k l.length)) (s0 := ()) trivial
    (fun i s hi _ => ⟨by
      have hlen : (markL k i ++ l.drop i).length = l.length := by simp [markL_len]; omega
      simp (disch := omega) only [EV, S_lw_markIntS_0, hlen, hi, mark_set k hi, ← Int.add_assoc]
      congr 1; congr 1; congr 1
      omega, trivial⟩)
    (fun s _ => by
      have hlen : (markL k l.length ++ l.drop l.length).length = l.length := by simp [markL_len]
      simp (disch := omega) only [EV, S_lw_markIntS_0, markL_len, Nat.lt_irrefl, List.drop_length, List.append_nil])).1
  simp only [show markL k 0 ++ l.drop 0 = l by simp [markL], Int.natCast_zero, Int.add_zero] at hs
  simp (disch := omega) only [EV, L_lw_markIntS_0, hs]
theorem heldIntS_eq {n : Nat} (hn : (n : Int) ≤ 1048576) {k : Int} (h0 : 0 ≤ k) (h1 : k ≤ 4611686018427387904) : F_lw_heldIntS (markL k n) k = some (k + (n : Int)) := by
  unfold F_lw_heldIntS T_lw_heldIntS
  have hs := (iter_fold (f := fun v => (S_lw_heldIntS_0 (markL k n) v).ev) (n := n) (mk := fun i (_ : Unit) => (k + (i : Int), (i : Int))) (I := fun _ _ => True) (g := fun s _ => s) (fin := fun _ => .inl (k + (n : Int))) (s0 := ()) trivial
    (fun i s hi _ => ⟨by
      simp (disch := omega) only [EV, S_lw_heldIntS_0, markL_len, hi, markL_getD hi, bne_self_eq_false]
      congr 1; congr 1; congr 1
      omega, trivial⟩)
    (fun s _ => by simp (disch := omega) only [EV, S_lw_heldIntS_0, markL_len, Nat.lt_irrefl])).1
  simp only [Int.natCast_zero, Int.add_zero] at hs
  simp (disch := omega) only [EV, L_lw_heldIntS_0, hs]
def markLL : Int → List (List Int) → List (List Int)
  | _, [] => []
  | k, r :: x => markL k r.length :: markLL (k + (r.length : Int)) x
def tot : Int → List (List Int) → Int
  | k, [] => k
  | k, r :: x => tot (k + (r.length : Int)) x
theorem tot_snoc (r : List Int) : ∀ (x : List (List Int)) (k : Int), tot k (x ++ [r]) = tot k x + (r.length : Int)
  | [], k => rfl
  | q :: x, k => by simp only [List.cons_append, tot]; exact tot_snoc r x _
theorem markLL_snoc (r : List Int) : ∀ (x : List (List Int)) (k : Int), markLL k (x ++ [r]) = markLL k x ++ [markL (tot k x) r.length]
  | [], k => rfl
  | q :: x, k => by simp only [List.cons_append, markLL, tot]; rw [markLL_snoc r x]
theorem markLL_len : ∀ (x : List (List Int)) (k : Int), (markLL k x).length = x.length
  | [], _ => rfl
  | q :: x, k => by simp [markLL, markLL_len x]
theorem tot_bound : ∀ {x : List (List Int)} {k : Int}, (∀ r ∈ x, Low1 r) → k ≤ tot k x ∧ tot k x ≤ k + (x.length : Int) * 1048576
  | [], k, _ => by simp [tot]
  | r :: x, k, h => by
    have h1 := h r List.mem_cons_self
    unfold Low1 at h1
    obtain ⟨h2, h3⟩ := tot_bound (x := x) (k := k + (r.length : Int)) fun r hr => h r (List.mem_cons_of_mem _ hr)
    simp only [tot, List.length_cons]
    constructor
    · omega
    · have : ((x.length + 1 : Nat) : Int) * 1048576 = (x.length : Int) * 1048576 + 1048576 := by omega
      omega
theorem take_snoc {α : Type} {l : List α} {i : Nat} (d : α) (h : i < l.length) : l.take (i + 1) = l.take i ++ [l.getD i d] := by
  rw [List.take_succ_eq_append_getElem h, List.getD_eq_getElem?_getD, List.getElem?_eq_getElem h]
  rfl
theorem tot_take {x : List (List Int)} (hx : Low2 x) {k : Int} (i : Nat) : k ≤ tot k (x.take i) ∧ tot k (x.take i) ≤ k + 1099511627776 := by
  obtain ⟨h1, h2⟩ := tot_bound (x := x.take i) (k := k) fun r hr => hx.2 r (List.mem_of_mem_take hr)
  have h3 : ((x.take i).length : Int) ≤ 1048576 := by
    have := hx.1
    rw [List.length_take]
    omega
  refine ⟨h1, ?_⟩
  have : ((x.take i).length : Int) * 1048576 ≤ 1048576 * 1048576 := Int.mul_le_mul_of_nonneg_right h3 (by omega)
  omega
theorem markIntSS_eq {x : List (List Int)} (hx : Low2 x) {k : Int} (h0 : 0 ≤ k) (h1 : k ≤ 2305843009213693952) : F_lw_markIntSS k x = some (tot k x, markLL k x) := by
  have hl := hx.1
  unfold F_lw_markIntSS T_lw_markIntSS
  have hs := (iter_fold (f := fun v => (S_lw_markIntSS_0 () v).ev) (n := x.length) (mk := fun i (_ : Unit) => (tot k (x.take i), ((i : Int), markLL k (x.take i) ++ x.drop i))) (I := fun _ _ => True) (g := fun s _ => s) (fin := fun _ => (tot k x, markLL k x)) (s0 := ()) trivial
    (fun i s hi _ => ⟨by
      have hml : (markLL k (x.take i)).length = i := by rw [markLL_len, List.length_take]; omega
      have hlen : (markLL k (x.take i) ++ x.drop i).length = x.length := by rw [List.length_append, hml, List.length_drop]; omega
      have hget : (markLL k (x.take i) ++ x.drop i).getD i [] = x.getD i [] := by
        rw [List.getD_eq_getElem?_getD, List.getElem?_append_right (by omega), hml, Nat.sub_self, List.getElem?_drop, List.getD_eq_getElem?_getD, Nat.add_zero]
      have hb := tot_take hx (k := k) i
      have hset : (markLL k (x.take i) ++ x.drop i).set i (markL (tot k (x.take i)) (x.getD i []).length) = markLL k (x.take (i + 1)) ++ x.drop (i + 1) := by
        rw [List.set_append_right _ _ (by omega), hml, Nat.sub_self, List.drop_eq_getElem_cons hi, List.set_cons_zero, take_snoc [] hi, markLL_snoc, List.append_assoc]
        rfl
      have htot : tot k (x.take (i + 1)) = tot k (x.take i) + ((x.getD i []).length : Int) := by rw [take_snoc [] hi, tot_snoc]
      simp (disch := omega) only [EV, S_lw_markIntSS_0, hlen, hi, hget, markIntS_eq (hx.2 _ (getD_mem (d := []) hi)) (k := tot k (x.take i)) (by omega) (by omega), hset, htot]
      rfl, trivial⟩)
    (fun s _ => by
      have hlen : (markLL k (x.take x.length) ++ x.drop x.length).length = x.length := by simp [markLL_len]
      simp (disch := omega) only [EV, S_lw_markIntSS_0, markLL_len, Nat.lt_irrefl, List.drop_length, List.append_nil, List.take_length])).1
  simp only [List.take_zero, List.drop_zero, markLL, tot, List.nil_append, Int.natCast_zero] at hs
  simp (disch := omega) only [EV, L_lw_markIntSS_0, hs]
theorem markLL_getD : ∀ (x : List (List Int)) (k : Int) (i : Nat), i < x.length → (markLL k x).getD i [] = markL (tot k (x.take i)) (x.getD i []).length
  | [], _, _, h => by simp at h
  | r :: x, k, 0, _ => rfl
  | r :: x, k, i + 1, h => by
    simp only [markLL, List.getD_cons_succ, List.take_succ_cons, tot]
    exact markLL_getD x _ i (by simpa using h)
theorem heldIntSS_eq {x : List (List Int)} (hx : Low2 x) {k : Int} (h0 : 0 ≤ k) (h1 : k ≤ 2305843009213693952) : F_lw_heldIntSS (markLL k x) k = some (tot k x) := by
  have hl := hx.1
  unfold F_lw_heldIntSS T_lw_heldIntSS
  have hs := (iter_fold (f := fun v => (S_lw_heldIntSS_0 (markLL k x) v).ev) (n := x.length) (mk := fun i (_ : Unit) => (tot k (x.take i), (i : Int))) (I := fun _ _ => True) (g := fun s _ => s) (fin := fun _ => .inl (tot k x)) (s0 := ()) trivial
    (fun i s hi _ => ⟨by
      have hb := tot_take hx (k := k) i
      have hr := hx.2 _ (getD_mem (d := []) hi)
      have htot : tot k (x.take (i + 1)) = tot k (x.take i) + ((x.getD i []).length : Int) := by rw [take_snoc [] hi, tot_snoc]
      have hneg : ¬ tot k (x.take i) + ((x.getD i []).length : Int) < 0 := by omega
      simp (disch := omega) only [EV, S_lw_heldIntSS_0, markLL_len, hi, markLL_getD x k i hi, heldIntS_eq hr (k := tot k (x.take i)) (by omega) (by omega), hneg, htot]
      rfl, trivial⟩)
    (fun s _ => by simp (disch := omega) only [EV, S_lw_heldIntSS_0, markLL_len, Nat.lt_irrefl, List.take_length])).1
  simp only [List.take_zero, tot, Int.natCast_zero] at hs
  simp (disch := omega) only [EV, L_lw_heldIntSS_0, hs]
end Go.Proofs.Ytlmbhkmaflhagaa
