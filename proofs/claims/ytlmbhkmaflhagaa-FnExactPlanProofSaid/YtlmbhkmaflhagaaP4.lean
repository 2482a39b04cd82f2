/-
  Plain laws: rising lists, dispersion, allocations, the cost of hubs.
-/
import Derived.Test.YtlmbhkmaflhagaaP3
namespace Go.Proofs.Ytlmbhkmaflhagaa

theorem mul_in {a b A B : Int} (ha : 0 ≤ a ∧ a ≤ A) (hb : 0 ≤ b ∧ b ≤ B) : 0 ≤ a * b ∧ a * b ≤ A * B :=
  ⟨Int.mul_nonneg ha.1 hb.1, Int.mul_le_mul ha.2 hb.2 hb.1 (by omega)⟩

/-! ### Rising lists -/
def risingB (l : List Int) (lo hi : Int) : Bool := (List.range l.length).all fun i => isIn (l.getD i 0) lo hi && (i == 0 || decide (l.getD (i - 1) 0 < l.getD i 0))

theorem risingB_iff {l : List Int} {lo hi : Int} : risingB l lo hi = true ↔ (∀ x ∈ l, lo ≤ x ∧ x ≤ hi) ∧ l.Pairwise (· < ·) := by
  unfold risingB
  simp only [List.all_eq_true, List.mem_range, Bool.and_eq_true, Bool.or_eq_true, beq_iff_eq, decide_eq_true_eq, isIn_iff]
  constructor
  · intro h
    refine ⟨fun x hx => ?_, ?_⟩
    · obtain ⟨i, hi, e⟩ := List.getElem_of_mem hx
      have := (h i hi).1
      rw [List.getD_eq_getElem?_getD, List.getElem?_eq_getElem hi] at this
      rw [← e]; exact this
    · rw [List.pairwise_iff_getElem]
      have key : ∀ d i, i + d + 1 < l.length → l.getD i 0 < l.getD (i + d + 1) 0 := by
        intro d
        induction d with
        | zero =>
          intro i hi
          have := (h (i + 1) hi).2
          rcases this with h0 | h0
          · omega
          · simpa using h0
        | succ d ih =>
          intro i hi
          have h1 := ih i (by omega)
          have := (h (i + (d + 1) + 1) hi).2
          rcases this with h0 | h0
          · omega
          · have e : i + (d + 1) + 1 - 1 = i + d + 1 := by omega
            rw [e] at h0
            omega
      intro i j hi hj hij
      have := key (j - i - 1) i (by omega)
      rw [show i + (j - i - 1) + 1 = j by omega, List.getD_eq_getElem?_getD, List.getD_eq_getElem?_getD, List.getElem?_eq_getElem hi, List.getElem?_eq_getElem hj] at this
      exact this
  · rintro ⟨h1, h2⟩ i hi
    refine ⟨h1 _ (getD_mem hi), ?_⟩
    by_cases e : i = 0
    · exact .inl e
    · right
      have := List.pairwise_iff_getElem.1 h2 (i - 1) i (by omega) hi (by omega)
      rw [List.getD_eq_getElem?_getD, List.getD_eq_getElem?_getD, List.getElem?_eq_getElem hi, List.getElem?_eq_getElem (by omega)]
      exact this

theorem risingB_in {l : List Int} {lo hi : Int} (h : risingB l lo hi = true) {i : Nat} (hi' : i < l.length) : lo ≤ l.getD i 0 ∧ l.getD i 0 ≤ hi := (risingB_iff.1 h).1 _ (getD_mem hi')

theorem l1Rising_eq {l : List Int} (hl : Low1 l) (lo hi : Int) : F_sp_l1Rising l lo hi = some (risingB l lo hi) := by
  unfold Low1 at hl
  have h0 : L_sp_l1Rising_0 (l, (lo, hi)) 0 = _ := iter_allR (f := fun v => (S_sp_l1Rising_0 (l, (lo, hi)) v).ev) (n := l.length) (mk := fun i => (i : Int)) (p := fun i => isIn (l.getD i 0) lo hi && (i == 0 || decide (l.getD (i - 1) 0 < l.getD i 0))) (yes := .inl ()) (no := .inr ()) (fun i hi' _ => by
      cases i with
      | zero =>
        simp (disch := omega) only [EV, S_sp_l1Rising_0, hi', l1In_eq]
        cases isIn (l.getD 0 0) lo hi <;> rfl
      | succ i =>
        have h1 : i < l.length := by omega
        have e0 : (0 : Int) < ((i + 1 : Nat) : Int) := by omega
        have e1 : ((i + 1 : Nat) : Int) - 1 = (i : Int) := by omega
        have e2 : (i + 1 == 0) = false := rfl
        simp (disch := omega) only [EV, S_sp_l1Rising_0, hi', l1In_eq, e0, e1, h1, e2, Bool.false_or, Nat.add_sub_cancel]
        cases isIn (l.getD (i + 1) 0) lo hi with
        | false => rfl
        | true =>
          by_cases h : l.getD (i + 1) 0 ≤ l.getD i 0
          · simp only [Bool.not_true, cond_false, if_pos h, Bool.true_and, show ¬ l.getD i 0 < l.getD (i + 1) 0 by omega, decide_false]
          · simp only [Bool.not_true, cond_false, if_neg h, Bool.true_and, show l.getD i 0 < l.getD (i + 1) 0 by omega, decide_true]
            rfl) (by simp (disch := omega) only [EV, S_sp_l1Rising_0, Nat.lt_irrefl])
  unfold F_sp_l1Rising T_sp_l1Rising
  simp (disch := omega) only [EV, h0]
  unfold risingB
  cases (List.range l.length).all fun i => isIn (l.getD i 0) lo hi && (i == 0 || decide (l.getD (i - 1) 0 < l.getD i 0)) <;> rfl
theorem isRising_eq {l : List Int} (hl : Low1 l) {n : Int} (h0 : 0 ≤ n) (h1 : n ≤ 1048576) : F_im_isRising l n = some (risingB l 0 (n - 1)) := by
  unfold Low1 at hl
  have h0 : L_im_isRising_0 (l, (n, (l, ((l.length : Nat) : Int)))) 0 = _ := iter_allR (f := fun v => (S_im_isRising_0 (l, (n, (l, ((l.length : Nat) : Int)))) v).ev) (n := l.length) (mk := fun i => (i : Int)) (p := fun i => isIn (l.getD i 0) 0 (n - 1) && (i == 0 || decide (l.getD (i - 1) 0 < l.getD i 0))) (yes := .inl ()) (no := .inr ()) (fun i hi' _ => by
      cases i with
      | zero =>
        simp (disch := omega) only [EV, S_im_isRising_0, hi', between_eq]
        cases isIn (l.getD 0 0) 0 (n - 1) <;> rfl
      | succ i =>
        have h1 : i < l.length := by omega
        have e0 : (0 : Int) < ((i + 1 : Nat) : Int) := by omega
        have e1 : ((i + 1 : Nat) : Int) - 1 = (i : Int) := by omega
        have e2 : (i + 1 == 0) = false := rfl
        simp (disch := omega) only [EV, S_im_isRising_0, hi', between_eq, e0, e1, h1, e2, Bool.false_or, Nat.add_sub_cancel]
        cases isIn (l.getD (i + 1) 0) 0 (n - 1) with
        | false => rfl
        | true =>
          by_cases h : l.getD (i + 1) 0 ≤ l.getD i 0
          · simp only [Bool.not_true, cond_false, if_pos h, Bool.true_and, show ¬ l.getD i 0 < l.getD (i + 1) 0 by omega, decide_false]
          · simp only [Bool.not_true, cond_false, if_neg h, Bool.true_and, show l.getD i 0 < l.getD (i + 1) 0 by omega, decide_true]
            rfl) (by simp (disch := omega) only [EV, S_im_isRising_0, Nat.lt_irrefl])
  unfold F_im_isRising T_im_isRising
  simp (disch := omega) only [EV, h0]
  unfold risingB
  cases (List.range l.length).all fun i => isIn (l.getD i 0) 0 (n - 1) && (i == 0 || decide (l.getD (i - 1) 0 < l.getD i 0)) <;> rfl

/-! ### Dispersion -/
/-- The place of number i in a set. -/
def pl (s : List Int) (i : Nat) : Nat := (s.getD i 0).toNat
def disp (x : List (List Int)) (s : List Int) (b : Int) : Int := (List.range s.length).foldl (fun b i => (List.range i).foldl (fun b j => min b (at2 x (pl s i) (pl s j))) b) b

theorem foldl_min {α : Type} (g : Int → α → Int) (hg : ∀ a b i, g (min a b) i = min a (g b i)) (l : List α) (a b : Int) : l.foldl g (min a b) = min a (l.foldl g b) := by
  induction l generalizing b with
  | nil => rfl
  | cons i l ih => rw [List.foldl_cons, List.foldl_cons, hg, ih]
theorem disp_min (x : List (List Int)) (s : List Int) (a b : Int) : disp x s (min a b) = min a (disp x s b) :=
  foldl_min (fun b i => (List.range i).foldl (fun b j => min b (at2 x (pl s i) (pl s j))) b) (fun a b i => foldl_min (fun b j => min b (at2 x (pl s i) (pl s j))) (fun a b j => by omega) _ a b) _ a b
theorem foldl_min_le {α : Type} (g : Int → α → Int) (hg : ∀ a i, g a i ≤ a) (l : List α) (b : Int) : l.foldl g b ≤ b := by
  induction l generalizing b with
  | nil => exact Int.le_refl _
  | cons i l ih => exact Int.le_trans (ih _) (hg b i)
theorem foldl_min_mem {α : Type} (g : Int → α → Int) (hg : ∀ a i, g a i ≤ a) {l : List α} {i : α} (hi : i ∈ l) {c : Int} (hc : ∀ a, g a i ≤ c) (b : Int) : l.foldl g b ≤ c := by
  induction l generalizing b with
  | nil => cases hi
  | cons k l ih =>
    rw [List.foldl_cons]
    rcases List.mem_cons.1 hi with rfl | hi
    · exact Int.le_trans (foldl_min_le g hg l _) (hc b)
    · exact ih hi _
theorem disp_le (x : List (List Int)) (s : List Int) (b : Int) {i j : Nat} (hi : i < s.length) (hj : j < i) : disp x s b ≤ at2 x (pl s i) (pl s j) :=
  foldl_min_mem _ (fun a i => foldl_min_le _ (fun a j => by omega) _ a) (List.mem_range.2 hi) (fun a => foldl_min_mem _ (fun a j => by omega) (List.mem_range.2 hj) (fun a => by omega) a) b
/-- The start does not matter if it is no less than a number of the table. -/
theorem disp_start {x : List (List Int)} {s : List Int} {i j : Nat} (hi : i < s.length) (hj : j < i) {b : Int} (hb : at2 x (pl s i) (pl s j) ≤ b) : disp x s (at2 x (pl s i) (pl s j)) = disp x s b := by
  have := disp_min x s (at2 x (pl s i) (pl s j)) b
  rw [Int.min_eq_left hb] at this
  rw [this, Int.min_eq_right (disp_le x s b hi hj)]

/-- A set of places. -/
structure Places (s : List Int) (n : Nat) : Prop where
  low : (s.length : Int) ≤ 1048576
  mem : ∀ i, i < s.length → 0 ≤ s.getD i 0 ∧ s.getD i 0 < n
theorem Places.pl {s : List Int} {n : Nat} (h : Places s n) {i : Nat} (hi : i < s.length) : s.getD i 0 = (pl s i : Int) ∧ Go.Proofs.Ytlmbhkmaflhagaa.pl s i < n := by
  have := h.mem i hi
  unfold Go.Proofs.Ytlmbhkmaflhagaa.pl
  omega
theorem Places.of {s : List Int} {n : Nat} (hs : Low1 s) (h : risingB s 0 ((n : Int) - 1) = true) : Places s n := ⟨hs, fun i hi => by have := risingB_in h hi; omega⟩


def dispOf (x : List (List Int)) (s : List Int) : Int × Bool := bif groundB x && (risingB s 0 ((x.length : Int) - 1) && decide (2 ≤ s.length)) then (disp x s 100, true) else (0, false)

end Go.Proofs.Ytlmbhkmaflhagaa
