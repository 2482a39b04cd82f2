/-
  Plain laws: grounds, metric grounds.
-/
import Derived.Test.YtlemejhffpkbkaaPM
namespace Go.Proofs.Ytlemejhffpkbkaa
def at2 (x : List (List Int)) (i j : Nat) : Int := (x.getD i []).getD j 0
def rowOK (x : List (List Int)) (n i : Nat) : Bool := allIn (x.getD i []) 0 99 && (((x.getD i []).length : Int) == (n : Int))
structure Ground (x : List (List Int)) : Prop where
  row : ∀ i, i < x.length → rowOK x x.length i = true
  diag : ∀ i, i < x.length → at2 x i i = 0
  sym : ∀ i j, i < x.length → j < x.length → at2 x i j = at2 x j i
  len : x.length ≤ 7
def groundB (x : List (List Int)) : Bool := ((List.range x.length).all fun i => rowOK x x.length i && at2 x i i == 0 && (List.range i).all fun j => at2 x i j == at2 x j i) && decide ((x.length : Int) ≤ 7)
theorem rowOK_len {x : List (List Int)} {n i : Nat} (h : rowOK x n i = true) : (x.getD i []).length = n := by
  simp only [rowOK, Bool.and_eq_true, beq_iff_eq] at h
  omega
theorem rowOK_in {x : List (List Int)} {n i j : Nat} (h : rowOK x n i = true) (hj : j < n) : 0 ≤ at2 x i j ∧ at2 x i j ≤ 99 := by
  have hl := rowOK_len h
  simp only [rowOK, Bool.and_eq_true] at h
  exact allIn_getD h.1 (by omega)
theorem Ground.in {x : List (List Int)} (h : Ground x) {i j : Nat} (hi : i < x.length) (hj : j < x.length) : 0 ≤ at2 x i j ∧ at2 x i j ≤ 99 := rowOK_in (h.row i hi) hj
theorem Ground.rowLen {x : List (List Int)} (h : Ground x) {i : Nat} (hi : i < x.length) : (x.getD i []).length = x.length := rowOK_len (h.row i hi)
theorem groundB_iff (x : List (List Int)) : groundB x = true ↔ Ground x := by
  unfold groundB
  simp only [List.all_eq_true, List.mem_range, Bool.and_eq_true, beq_iff_eq, decide_eq_true_eq]
  constructor
  · rintro ⟨h, h7⟩
    refine ⟨fun i hi => (h i hi).1.1, fun i hi => (h i hi).1.2, fun i j hi hj => ?_, by omega⟩
    rcases Nat.lt_trichotomy i j with h1 | h1 | h1
    · exact ((h j hj).2 i h1).symm
    · rw [h1]
    · exact (h i hi).2 j h1
  · rintro ⟨h1, h2, h3, h4⟩
    exact ⟨fun i hi => ⟨⟨h1 i hi, h2 i hi⟩, fun j hj => h3 i j hi (by omega)⟩, by omega⟩
theorem l11Ground_eq {x : List (List Int)} (hx : Low2 x) : F_sp_l11Ground x = some (groundB x) := by
  obtain ⟨hl, hr⟩ := hx
  have h2 : ∀ i, i < x.length → (∀ j, j ≤ i → rowOK x x.length j = true) → L_sp_l11Ground_2 (x, ((x.length : Int), (i : Int))) 0 = some (bif (List.range i).all fun j => at2 x i j == at2 x j i then .inl () else .inr ()) := fun i hi hrow =>
    iter_allR (f := fun v => (S_sp_l11Ground_2 (x, ((x.length : Int), (i : Int))) v).ev) (n := i) (mk := fun i => (i : Int)) (p := fun j => at2 x i j == at2 x j i) (yes := .inl ()) (no := .inr ()) (fun j hj _ => by
      have h1 := rowOK_len (hrow i (Nat.le_refl _))
      have h2 := rowOK_len (hrow j (by omega))
      have hj' : j < x.length := by omega
      simp (disch := omega) only [EV, S_sp_l11Ground_2, hi, hj, hj', h1, h2, bne]
      unfold at2
      cases ((x.getD i []).getD j 0 == (x.getD j []).getD i 0) <;> rfl) (by simp (disch := omega) only [EV, S_sp_l11Ground_2, Nat.lt_irrefl])
  have h0 : L_sp_l11Ground_0 (x, (x.length : Int)) 0 = _ := iter_allR (f := fun v => (S_sp_l11Ground_0 (x, (x.length : Int)) v).ev) (n := x.length) (mk := fun i => (i : Int))
    (p := fun i => rowOK x x.length i && at2 x i i == 0 && (List.range i).all fun j => at2 x i j == at2 x j i) (yes := .inl ()) (no := .inr ()) (fun i hi hp => by
      simp (disch := omega) only [EV, S_sp_l11Ground_0, hi, l2Row_eq (hr _ (getD_mem (d := []) hi))]
      have e : (allIn (x.getD i []) 0 99 && (((x.getD i []).length : Int) == ((x.length : Nat) : Int))) = rowOK x x.length i := rfl
      rw [e]
      cases hb : rowOK x x.length i with
      | false => rfl
      | true =>
        have hd : (x.getD i []).getD i 0 = at2 x i i := rfl
        simp (disch := omega) only [EV, rowOK_len hb, hi, bne, hd, h2 i hi fun j hj => by
          by_cases e : j = i
          · rw [e]; exact hb
          · have := hp j (by omega)
            simp only [Bool.and_eq_true] at this
            exact this.1.1]
        cases (at2 x i i == 0) <;> cases (List.range i).all fun j => at2 x i j == at2 x j i <;> rfl) (by simp (disch := omega) only [EV, S_sp_l11Ground_0, Nat.lt_irrefl])
  unfold F_sp_l11Ground T_sp_l11Ground
  simp (disch := omega) only [EV, h0]
  unfold groundB
  cases (List.range x.length).all fun i => rowOK x x.length i && at2 x i i == 0 && (List.range i).all fun j => at2 x i j == at2 x j i <;> rfl
theorem im_IsGround_eq {x : List (List Int)} (hx : Low2 x) : F_im_IsGround x = some (groundB x) := by
  have hl := hx.1
  unfold F_im_IsGround T_im_IsGround
  by_cases h7 : (7 : Int) < (x.length : Int)
  · simp (disch := omega) only [EV, h7]
    unfold groundB
    rw [show decide ((x.length : Int) ≤ 7) = false by simp; omega, Bool.and_false]
  · have h0 : L_im_IsGround_0 (x, (x, ((x.length : Nat) : Int))) 0 = _ := iter_allR (f := fun v => (S_im_IsGround_0 (x, (x, ((x.length : Nat) : Int))) v).ev) (n := x.length) (mk := fun i => (i : Int)) (p := fun i => rowOK x x.length i) (yes := .inl ()) (no := .inr ()) (fun i hi _ => by
      simp (disch := omega) only [EV, S_im_IsGround_0, hi, areBetween_eq (hx.2 _ (getD_mem (d := []) hi)), bne]
      unfold rowOK
      cases (((x.getD i []).length : Int) == ((x.length : Nat) : Int)) <;> cases allIn (x.getD i []) 0 99 <;> rfl) (by simp (disch := omega) only [EV, S_im_IsGround_0, Nat.lt_irrefl])
    simp (disch := omega) only [EV, h7, h0]
    cases hr : (List.range x.length).all fun i => rowOK x x.length i with
    | false =>
      simp only [cond_false, ev_s_inr, Tr.ev_l]
      congr 1
      refine Eq.symm (Bool.eq_false_iff.2 fun h => ?_)
      rw [Bool.eq_false_iff] at hr
      exact hr (List.all_eq_true.2 fun i hi => ((groundB_iff x).1 h).row i (List.mem_range.1 hi))
    | true =>
      have hrow : ∀ j, j < x.length → rowOK x x.length j = true := fun j hj => List.all_eq_true.1 hr j (List.mem_range.2 hj)
      have h4 : ∀ i, i < x.length → L_im_IsGround_4 (x, ((i : Int), (x, (((x.length : Nat) : Int), ((i : Int), ((x.getD i []), (((x.getD i []).length : Nat) : Int))))))) 0 =
          some (bif (List.range x.length).all fun j => (at2 x i j == at2 x j i) && (!(i == j) || at2 x i j == 0) then .inl () else .inr ()) := fun i hi => by
        have h1 := rowOK_len (hrow i hi)
        refine iter_allR (f := fun v => (S_im_IsGround_4 (x, ((i : Int), (x, (((x.length : Nat) : Int), ((i : Int), ((x.getD i []), (((x.getD i []).length : Nat) : Int))))))) v).ev) (n := x.length) (mk := fun i => (i : Int)) (p := fun j => (at2 x i j == at2 x j i) && (!(i == j) || at2 x i j == 0)) (yes := .inl ()) (no := .inr ()) (fun j hj _ => ?_) ?_
        · have h2 := rowOK_len (hrow j hj)
          have e1 : (x.getD i []).getD j 0 = at2 x i j := rfl
          have e2 : (x.getD j []).getD i 0 = at2 x j i := rfl
          have e3 : ((i : Int) == (j : Int)) = (i == j) := by
            rw [Bool.eq_iff_iff, beq_iff_eq, beq_iff_eq]
            omega
          simp (disch := omega) only [EV, S_im_IsGround_4, h1, h2, hi, hj, bne, e1, e2, e3]
          cases (at2 x i j == at2 x j i) <;> cases (i == j) <;> cases (at2 x i j == 0) <;> rfl
        · simp (disch := omega) only [EV, S_im_IsGround_4, h1, Nat.lt_irrefl]
      have h2 : L_im_IsGround_2 (x, (x, ((x.length : Nat) : Int))) 0 = _ := iter_allR (f := fun v => (S_im_IsGround_2 (x, (x, ((x.length : Nat) : Int))) v).ev) (n := x.length) (mk := fun i => (i : Int))
          (p := fun i => (List.range x.length).all fun j => (at2 x i j == at2 x j i) && (!(i == j) || at2 x i j == 0)) (yes := .inl ()) (no := .inr ()) (fun i hi _ => by
        simp (disch := omega) only [EV, S_im_IsGround_2, hi, h4 i hi]
        cases (List.range x.length).all fun j => (at2 x i j == at2 x j i) && (!(i == j) || at2 x i j == 0) <;> rfl) (by simp (disch := omega) only [EV, S_im_IsGround_2, Nat.lt_irrefl])
      simp (disch := omega) only [EV, h2]
      rw [show groundB x = (List.range x.length).all fun i => (List.range x.length).all fun j => (at2 x i j == at2 x j i) && (!(i == j) || at2 x i j == 0) from ?_]
      · cases (List.range x.length).all fun i => (List.range x.length).all fun j => (at2 x i j == at2 x j i) && (!(i == j) || at2 x i j == 0) <;> rfl
      · rw [Bool.eq_iff_iff, groundB_iff]
        simp only [List.all_eq_true, List.mem_range, Bool.and_eq_true, Bool.or_eq_true, Bool.not_eq_true', beq_iff_eq, beq_eq_false_iff_ne]
        constructor
        · rintro ⟨h1, h2, h3, _⟩ i hi j hj
          refine ⟨h3 i j hi hj, ?_⟩
          by_cases e : i = j
          · subst e; exact .inr (h2 i hi)
          · exact .inl e
        · intro h
          exact ⟨hrow, fun i hi => ((h i hi i hi).2).resolve_left fun h => h rfl, fun i j hi hj => (h i hi j hj).1, by omega⟩
def metricB (x : List (List Int)) : Bool := (List.range x.length).all fun i => (List.range x.length).all fun j => (List.range x.length).all fun k => decide (at2 x i j ≤ at2 x i k + at2 x k j)
theorem im_IsMetricGround_eq {x : List (List Int)} (hx : Low2 x) : F_im_IsMetricGround x = some (groundB x && metricB x, groundB x) := by
  unfold F_im_IsMetricGround T_im_IsMetricGround
  simp (disch := omega) only [EV, im_IsGround_eq hx]
  cases h : groundB x with
  | false => rfl
  | true =>
  have hg := (groundB_iff x).1 h
  have hl := hg.len
  have h4 : ∀ i j, i < x.length → j < x.length → L_im_IsMetricGround_4 (x, ((i : Int), ((j : Int), (((x.length : Nat) : Int), ((i : Int), (((x.length : Nat) : Int), ((j : Int), ((x.length : Nat) : Int)))))))) 0 = some (bif (List.range x.length).all fun k => decide (at2 x i j ≤ at2 x i k + at2 x k j) then .inl () else .inr ()) := fun i j hi hj =>
    iter_allR (f := fun v => (S_im_IsMetricGround_4 (x, ((i : Int), ((j : Int), (((x.length : Nat) : Int), ((i : Int), (((x.length : Nat) : Int), ((j : Int), ((x.length : Nat) : Int)))))))) v).ev) (n := x.length) (mk := fun i => (i : Int)) (p := fun k => decide (at2 x i j ≤ at2 x i k + at2 x k j)) (yes := .inl ()) (no := .inr ()) (fun k hk _ => by
      have e1 : (x.getD i []).getD j 0 = at2 x i j := rfl
      have e2 : (x.getD i []).getD k 0 = at2 x i k := rfl
      have e3 : (x.getD k []).getD j 0 = at2 x k j := rfl
      have b1 := hg.in hi hk
      have b2 := hg.in hk hj
      simp (disch := omega) only [EV, S_im_IsMetricGround_4, hg.rowLen hi, hg.rowLen hk, hi, hj, hk, e1, e2, e3]
      by_cases h : at2 x i j ≤ at2 x i k + at2 x k j
      · rw [if_neg (by omega), if_pos h]; rfl
      · rw [if_pos (by omega), if_neg h]) (by simp (disch := omega) only [EV, S_im_IsMetricGround_4, Nat.lt_irrefl])
  have h2 : ∀ i, i < x.length → L_im_IsMetricGround_2 (x, ((i : Int), (((x.length : Nat) : Int), ((i : Int), ((x.length : Nat) : Int))))) 0 = some (bif (List.range x.length).all fun j => (List.range x.length).all fun k => decide (at2 x i j ≤ at2 x i k + at2 x k j) then .inl () else .inr ()) := fun i hi =>
    iter_allR (f := fun v => (S_im_IsMetricGround_2 (x, ((i : Int), (((x.length : Nat) : Int), ((i : Int), ((x.length : Nat) : Int))))) v).ev) (n := x.length) (mk := fun i => (i : Int)) (p := fun j => (List.range x.length).all fun k => decide (at2 x i j ≤ at2 x i k + at2 x k j)) (yes := .inl ()) (no := .inr ()) (fun j hj _ => by
      simp (disch := omega) only [EV, S_im_IsMetricGround_2, hj, h4 i j hi hj]
      cases (List.range x.length).all fun k => decide (at2 x i j ≤ at2 x i k + at2 x k j) <;> rfl) (by simp (disch := omega) only [EV, S_im_IsMetricGround_2, Nat.lt_irrefl])
  have h0 : L_im_IsMetricGround_0 (x, ((x.length : Nat) : Int)) 0 = _ := iter_allR (f := fun v => (S_im_IsMetricGround_0 (x, ((x.length : Nat) : Int)) v).ev) (n := x.length) (mk := fun i => (i : Int)) (p := fun i => (List.range x.length).all fun j => (List.range x.length).all fun k => decide (at2 x i j ≤ at2 x i k + at2 x k j)) (yes := .inl ()) (no := .inr ()) (fun i hi _ => by
      simp (disch := omega) only [EV, S_im_IsMetricGround_0, hi, h2 i hi]
      cases (List.range x.length).all fun j => (List.range x.length).all fun k => decide (at2 x i j ≤ at2 x i k + at2 x k j) <;> rfl) (by simp (disch := omega) only [EV, S_im_IsMetricGround_0, Nat.lt_irrefl])
  simp (disch := omega) only [EV, h0]
  unfold metricB
  cases (List.range x.length).all fun i => (List.range x.length).all fun j => (List.range x.length).all fun k => decide (at2 x i j ≤ at2 x i k + at2 x k j) <;> rfl
end Go.Proofs.Ytlemejhffpkbkaa
/-
  Plain laws: rising lists, dispersion, allocations, the cost of hubs.
-/
namespace Go.Proofs.Ytlemejhffpkbkaa
theorem mul_in {a b A B : Int} (ha : 0 ≤ a ∧ a ≤ A) (hb : 0 ≤ b ∧ b ≤ B) : 0 ≤ a * b ∧ a * b ≤ A * B :=
  ⟨Int.mul_nonneg ha.1 hb.1, Int.mul_le_mul ha.2 hb.2 hb.1 (by omega)⟩
def risingB (l : List Int) (lo hi : Int) : Bool := (List.range l.length).all fun i => isIn (l.getD i 0) lo hi && (i == 0 || decide (l.getD (i - 1) 0 < l.getD i 0))
theorem risingB_iff {l : List Int} {lo hi : Int} : risingB l lo hi = true ↔ (∀ x ∈ l, lo ≤ x ∧ x ≤ hi) ∧ l.Pairwise (· < ·) := by
  unfold risingB
  simp only [List.all_eq_true, List.mem_range, Bool.and_eq_true, Bool.or_eq_true, beq_iff_eq, decide_eq_true_eq, isIn_iff]
  constructor
  · intro h
    refine ⟨fun x hx => ?_, ?_⟩
    · obtain ⟨i, hi, e⟩ := List.getElem_of_mem hx
      have := (h i hi).1
      rw [List.getD_eq_getElem?_getD, List.getElem?_eq_getElem hi] at this
      rw [← e]; exact this
    · rw [List.pairwise_iff_getElem]
      have key : ∀ d i, i + d + 1 < l.length → l.getD i 0 < l.getD (i + d + 1) 0 := by
        intro d
        induction d with
        | zero =>
          intro i hi
          have := (h (i + 1) hi).2
          rcases this with h0 | h0
          · omega
          · simpa using h0
        | succ d ih =>
          intro i hi
          have h1 := ih i (by omega)
          have := (h (i + (d + 1) + 1) hi).2
          rcases this with h0 | h0
          · omega
          · have e : i + (d + 1) + 1 - 1 = i + d + 1 := by omega
            rw [e] at h0
            omega
      intro i j hi hj hij
      have := key (j - i - 1) i (by omega)
      rw [show i + (j - i - 1) + 1 = j by omega, List.getD_eq_getElem?_getD, List.getD_eq_getElem?_getD, List.getElem?_eq_getElem hi, List.getElem?_eq_getElem hj] at this
      exact this
  · rintro ⟨h1, h2⟩ i hi
    refine ⟨h1 _ (getD_mem hi), ?_⟩
    by_cases e : i = 0
    · exact .inl e
    · right
      have := List.pairwise_iff_getElem.1 h2 (i - 1) i (by omega) hi (by omega)
      rw [List.getD_eq_getElem?_getD, List.getD_eq_getElem?_getD, List.getElem?_eq_getElem hi, List.getElem?_eq_getElem (by omega)]
      exact this
theorem risingB_in {l : List Int} {lo hi : Int} (h : risingB l lo hi = true) {i : Nat} (hi' : i < l.length) : lo ≤ l.getD i 0 ∧ l.getD i 0 ≤ hi := (risingB_iff.1 h).1 _ (getD_mem hi')
def pl (s : List Int) (i : Nat) : Nat := (s.getD i 0).toNat
def disp (x : List (List Int)) (s : List Int) (b : Int) : Int := (List.range s.length).foldl (fun b i => (List.range i).foldl (fun b j => min b (at2 x (pl s i) (pl s j))) b) b
theorem foldl_min {α : Type} (g : Int → α → Int) (hg : ∀ a b i, g (min a b) i = min a (g b i)) (l : List α) (a b : Int) : l.foldl g (min a b) = min a (l.foldl g b) := by
  induction l generalizing b with
  | nil => rfl
  | cons i l ih => rw [List.foldl_cons, List.foldl_cons, hg, ih]
theorem disp_min (x : List (List Int)) (s : List Int) (a b : Int) : disp x s (min a b) = min a (disp x s b) :=
  foldl_min (fun b i => (List.range i).foldl (fun b j => min b (at2 x (pl s i) (pl s j))) b) (fun a b i => foldl_min (fun b j => min b (at2 x (pl s i) (pl s j))) (fun a b j => by omega) _ a b) _ a b
theorem foldl_min_le {α : Type} (g : Int → α → Int) (hg : ∀ a i, g a i ≤ a) (l : List α) (b : Int) : l.foldl g b ≤ b := by
  induction l generalizing b with
  | nil => exact Int.le_refl _
  | cons i l ih => exact Int.le_trans (ih _) (hg b i)
theorem foldl_min_mem {α : Type} (g : Int → α → Int) (hg : ∀ a i, g a i ≤ a) {l : List α} {i : α} (hi : i ∈ l) {c : Int} (hc : ∀ a, g a i ≤ c) (b : Int) : l.foldl g b ≤ c := by
  induction l generalizing b with
  | nil => cases hi
  | cons k l ih =>
    rw [List.foldl_cons]
    rcases List.mem_cons.1 hi with rfl | hi
    · exact Int.le_trans (foldl_min_le g hg l _) (hc b)
    · exact ih hi _
theorem disp_le (x : List (List Int)) (s : List Int) (b : Int) {i j : Nat} (hi : i < s.length) (hj : j < i) : disp x s b ≤ at2 x (pl s i) (pl s j) :=
  foldl_min_mem _ (fun a i => foldl_min_le _ (fun a j => by omega) _ a) (List.mem_range.2 hi) (fun a => foldl_min_mem _ (fun a j => by omega) (List.mem_range.2 hj) (fun a => by omega) a) b
theorem disp_start {x : List (List Int)} {s : List Int} {i j : Nat} (hi : i < s.length) (hj : j < i) {b : Int} (hb : at2 x (pl s i) (pl s j) ≤ b) : disp x s (at2 x (pl s i) (pl s j)) = disp x s b := by
  have := disp_min x s (at2 x (pl s i) (pl s j)) b
  rw [Int.min_eq_left hb] at this
  rw [this, Int.min_eq_right (disp_le x s b hi hj)]
structure Places (s : List Int) (n : Nat) : Prop where
  low : (s.length : Int) ≤ 1048576
  mem : ∀ i, i < s.length → 0 ≤ s.getD i 0 ∧ s.getD i 0 < n
theorem Places.pl {s : List Int} {n : Nat} (h : Places s n) {i : Nat} (hi : i < s.length) : s.getD i 0 = (pl s i : Int) ∧ Go.Proofs.Ytlemejhffpkbkaa.pl s i < n := by
  have := h.mem i hi
  unfold Go.Proofs.Ytlemejhffpkbkaa.pl
  omega
theorem Places.of {s : List Int} {n : Nat} (hs : Low1 s) (h : risingB s 0 ((n : Int) - 1) = true) : Places s n := ⟨hs, fun i hi => by have := risingB_in h hi; omega⟩
def dispOf (x : List (List Int)) (s : List Int) : Int × Bool := bif groundB x && (risingB s 0 ((x.length : Int) - 1) && decide (2 ≤ s.length)) then (disp x s 100, true) else (0, false)
end Go.Proofs.Ytlemejhffpkbkaa
/-
  Plain laws: allocations, flows, the cost of hubs.
-/
namespace Go.Proofs.Ytlemejhffpkbkaa
def netB (x : List (List Int)) : Bool := groundB x && decide ((x.length : Int) ≤ 5)
def allocB (n : Nat) (h : List Int) : Bool := decide (h.length = n) && allIn h 0 ((n : Int) - 1) && h.all fun a => h.getD a.toNat 0 == a
structure Alloc (n : Nat) (h : List Int) : Prop where
  len : h.length = n
  mem : ∀ i, i < n → h.getD i 0 = (pl h i : Int) ∧ pl h i < n
  hub : ∀ i, i < n → pl h (pl h i) = pl h i
theorem allocB_iff {n : Nat} {h : List Int} : allocB n h = true ↔ Alloc n h := by
  unfold allocB
  simp only [Bool.and_eq_true, decide_eq_true_eq, allIn_iff, List.all_eq_true, beq_iff_eq]
  constructor
  · rintro ⟨⟨h1, h2⟩, h3⟩
    have hm : ∀ i, i < n → h.getD i 0 = (pl h i : Int) ∧ pl h i < n := fun i hi => by
      have := h2 _ (getD_mem (d := 0) (show i < h.length by omega))
      unfold pl
      omega
    refine ⟨h1, hm, fun i hi => ?_⟩
    have := h3 _ (getD_mem (d := 0) (show i < h.length by omega))
    have h4 := (hm i hi).1
    have h5 : (h.getD i 0).toNat = pl h i := rfl
    rw [h5] at this
    have h6 := (hm _ (hm i hi).2).1
    omega
  · rintro ⟨h1, h2, h3⟩
    refine ⟨⟨h1, fun a ha => ?_⟩, fun a ha => ?_⟩
    · obtain ⟨i, hi, e⟩ := List.getElem_of_mem ha
      have := h2 i (by omega)
      rw [List.getD_eq_getElem?_getD, List.getElem?_eq_getElem hi, Option.getD_some, e] at this
      omega
    · obtain ⟨i, hi, e⟩ := List.getElem_of_mem ha
      have h4 := h2 i (by omega)
      have h5 := h3 i (by omega)
      have h6 := h2 _ h4.2
      have h7 : h.getD i 0 = a := by rw [List.getD_eq_getElem?_getD, List.getElem?_eq_getElem hi, Option.getD_some, e]
      have h8 : (pl h i : Int) = a := by rw [← h4.1, h7]
      rw [show a.toNat = pl h i by omega, h6.1, h5, h8]
theorem l11Small_eq {x : List (List Int)} (hx : Low2 x) : F_sp_l11Small x = some (netB x) := by
  unfold F_sp_l11Small T_sp_l11Small netB
  simp (disch := omega) only [EV, l11Ground_eq hx]
  cases groundB x <;> rfl
theorem isNet_eq {x : List (List Int)} (hx : Low2 x) : F_im_isNet x = some (netB x) := by
  unfold F_im_isNet T_im_isNet netB
  simp (disch := omega) only [EV, im_IsGround_eq hx]
  cases groundB x <;> rfl
theorem l11Hubs_eq (x : List (List Int)) {h : List Int} (hh : Low1 h) : F_sp_l11Hubs x h = some (allocB x.length h) := by
  unfold Low1 at hh
  unfold F_sp_l11Hubs T_sp_l11Hubs
  have h0 : L_sp_l11Hubs_0 (x, h) 0 = _ := iter_allR (f := fun v => (S_sp_l11Hubs_0 (x, h) v).ev) (n := h.length) (mk := fun i => (i : Int)) (p := fun i => isIn (h.getD i 0) 0 ((h.length : Int) - 1)) (yes := .inl ()) (no := .inr ())
    (fun i hi _ => by
      simp (disch := omega) only [EV, S_sp_l11Hubs_0, l1In_eq, hi]
      cases isIn (h.getD i 0) 0 ((h.length : Int) - 1) <;> rfl)
    (by simp (disch := omega) only [EV, S_sp_l11Hubs_0, Nat.lt_irrefl])
  rw [all_range h 0 (fun a => isIn a 0 ((h.length : Int) - 1))] at h0
  simp (disch := omega) only [EV, h0]
  unfold allocB
  cases ha : h.all (fun a => isIn a 0 ((h.length : Int) - 1)) with
  | false =>
    by_cases hl : h.length = x.length
    · have : allIn h 0 ((x.length : Int) - 1) = false := by rw [← hl]; exact ha
      rw [this, Bool.and_false]; rfl
    · rw [show decide (h.length = x.length) = false by simp [hl]]; rfl
  | true =>
  have hb : ∀ i, i < h.length → 0 ≤ h.getD i 0 ∧ h.getD i 0 < h.length := fun i hi => by
    have := allIn_getD (l := h) (a := 0) (b := (h.length : Int) - 1) ha hi
    omega
  have h1 : L_sp_l11Hubs_2 (x, h) 0 = _ := iter_allR (f := fun v => (S_sp_l11Hubs_2 (x, h) v).ev) (n := h.length) (mk := fun i => (i : Int)) (p := fun i => h.getD (h.getD i 0).toNat 0 == h.getD i 0) (yes := .inl ()) (no := .inr ())
    (fun i hi _ => by
      have := hb i hi
      simp (disch := omega) only [EV, S_sp_l11Hubs_2, hi, bne]
      cases (h.getD (h.getD i 0).toNat 0 == h.getD i 0) <;> rfl)
    (by simp (disch := omega) only [EV, S_sp_l11Hubs_2, Nat.lt_irrefl])
  rw [all_range h 0 (fun a => h.getD a.toNat 0 == a)] at h1
  simp (disch := omega) only [EV, h1, int_eq]
  by_cases hl : h.length = x.length
  · have : allIn h 0 ((x.length : Int) - 1) = true := by rw [← hl]; exact ha
    rw [this, show decide (h.length = x.length) = true by simp [hl]]
    cases h.all (fun a => h.getD a.toNat 0 == a) <;> rfl
  · rw [show decide (h.length = x.length) = false by simp [hl]]
    cases h.all (fun a => h.getD a.toNat 0 == a) <;> rfl
theorem isAllocation_eq {n : Nat} {h : List Int} (hn : (n : Int) ≤ 1048576) : F_im_isAllocation (n : Int) h = some (allocB n h) := by
  unfold F_im_isAllocation T_im_isAllocation allocB
  by_cases hl : h.length = n
  · have hh : Low1 h := by unfold Low1; omega
    simp (disch := omega) only [EV, int_eq, hl, areBetween_eq hh]
    cases ha : allIn h 0 ((n : Int) - 1) with
    | false => rfl
    | true =>
      have hc := containsFunc_int (l := h) (show (h.length : Int) < 9223372036854775807 by omega) (p := fun a => Option.bind (F_im_isAllocation_1 a.1 h) fun y => some y) (q := fun a => !(h.getD a.toNat 0 == a)) fun a ha' => by
        unfold F_im_isAllocation_1 T_im_isAllocation_1
        have := allIn_iff.1 ha a ha'
        simp (disch := omega) only [EV, bne]
      simp (disch := omega) only [EV, hc]
      rw [List.any_eq_not_all_not]
      simp
  · simp (disch := omega) only [EV, int_eq, hl]
def allocOf (x : List (List Int)) (h : List Int) : Bool × Bool := bif netB x then (allocB x.length h, true) else (false, false)
theorem sp_IsAllocation_eq {x : List (List Int)} (hx : Low2 x) {h : List Int} (hh : Low1 h) : F_sp_IsAllocation x h = some (allocOf x h) := by
  unfold F_sp_IsAllocation T_sp_IsAllocation allocOf
  simp (disch := omega) only [EV, l11Small_eq hx, l11Hubs_eq x hh]
  cases netB x <;> rfl
theorem im_IsAllocation_eq {x : List (List Int)} (hx : Low2 x) (h : List Int) : F_im_IsAllocation x h = some (allocOf x h) := by
  unfold F_im_IsAllocation T_im_IsAllocation allocOf
  simp (disch := omega) only [EV, isNet_eq hx, isAllocation_eq (h := h) hx.1]
  cases netB x <;> rfl
def flowsB (n : Nat) (fl : List (List Int)) : Bool := decide (fl.length = n) && fl.all fun r => decide (r.length = n) && allIn r 0 99
structure Flows (n : Nat) (fl : List (List Int)) : Prop where
  len : fl.length = n
  rowLen : ∀ i, i < n → (fl.getD i []).length = n
  mem : ∀ i j, i < n → j < n → 0 ≤ at2 fl i j ∧ at2 fl i j ≤ 99
theorem Flows.of {n : Nat} {fl : List (List Int)} (h : flowsB n fl = true) : Flows n fl := by
  simp only [flowsB, Bool.and_eq_true, decide_eq_true_eq, List.all_eq_true] at h
  obtain ⟨h1, h2⟩ := h
  have h3 : ∀ i, i < n → (fl.getD i []).length = n ∧ allIn (fl.getD i []) 0 99 = true := fun i hi => h2 _ (getD_mem (d := []) (by omega))
  exact ⟨h1, fun i hi => (h3 i hi).1, fun i j hi hj => allIn_getD (h3 i hi).2 (by rw [(h3 i hi).1]; exact hj)⟩
def hubTerm (x fl : List (List Int)) (h : List Int) (d : Int) (i j : Nat) : Int := at2 fl i j * (10 * (at2 x i (pl h i) + at2 x j (pl h j)) + d * at2 x (pl h i) (pl h j))
def hubRow (x fl : List (List Int)) (h : List Int) (d : Int) (n i : Nat) (b : Int) : Int := (List.range n).foldl (fun b j => bif i == j then b else b + hubTerm x fl h d i j) b
def hubSum (x fl : List (List Int)) (h : List Int) (d : Int) : Int := (List.range x.length).foldl (fun b i => hubRow x fl h d x.length i b) 0
theorem hubTerm_in {x fl : List (List Int)} {h : List Int} {d : Int} (hx : Ground x) (hf : Flows x.length fl) (hh : Alloc x.length h) (hd : 0 ≤ d ∧ d ≤ 10) {i j : Nat} (hi : i < x.length) (hj : j < x.length) : 0 ≤ hubTerm x fl h d i j ∧ hubTerm x fl h d i j ≤ 294030 := by
  have h1 := hx.in hi (hh.mem i hi).2
  have h2 := hx.in hj (hh.mem j hj).2
  have h3 := mul_in hd (hx.in (hh.mem i hi).2 (hh.mem j hj).2)
  have := mul_in (hf.mem i j hi hj) (b := 10 * (at2 x i (pl h i) + at2 x j (pl h j)) + d * at2 x (pl h i) (pl h j)) (B := 2970) (by omega)
  unfold hubTerm
  omega
theorem hubRow_in {x fl : List (List Int)} {h : List Int} {d : Int} (hx : Ground x) (hf : Flows x.length fl) (hh : Alloc x.length h) (hd : 0 ≤ d ∧ d ≤ 10) {i : Nat} (hi : i < x.length) {b : Int} (hb : 0 ≤ b) :
    ∀ n, n ≤ x.length → 0 ≤ hubRow x fl h d n i b ∧ hubRow x fl h d n i b ≤ b + 294030 * n := by
  intro n
  induction n with
  | zero => intro _; unfold hubRow; simp only [List.range_zero, List.foldl_nil]; omega
  | succ n ih =>
    intro hn
    have h1 := ih (by omega)
    have h2 := hubTerm_in hx hf hh hd hi (show n < x.length by omega)
    unfold hubRow at h1 ⊢
    rw [foldl_range_succ]
    cases (i == n) <;> simp only [cond_true, cond_false] <;> omega
theorem l11Flows_eq {x fl : List (List Int)} (hx : Low2 x) (hf : Low2 fl) (d : Int) : F_sp_l11Flows x fl d = some (netB x && (flowsB x.length fl && isIn d 0 10)) := by
  have hl := hf.1
  have h0 : L_sp_l11Flows_0 (x, (fl, d)) 0 = _ := iter_allR (f := fun v => (S_sp_l11Flows_0 (x, (fl, d)) v).ev) (n := fl.length) (mk := fun i => (i : Int)) (p := fun i => decide ((fl.getD i []).length = x.length) && allIn (fl.getD i []) 0 99) (yes := .inl ()) (no := .inr ()) (fun i hi _ => by
      simp (disch := omega) only [EV, S_sp_l11Flows_0, hi, l2Row_eq (hf.2 _ (getD_mem (d := []) hi)), int_eq]
      cases allIn (fl.getD i []) 0 99 <;> cases decide ((fl.getD i []).length = x.length) <;> rfl) (by simp (disch := omega) only [EV, S_sp_l11Flows_0, Nat.lt_irrefl])
  rw [all_range fl [] (fun r => decide (r.length = x.length) && allIn r 0 99)] at h0
  unfold F_sp_l11Flows T_sp_l11Flows flowsB
  simp (disch := omega) only [EV, h0, l11Small_eq hx, int_eq, l1In_eq]
  cases fl.all (fun r => decide (r.length = x.length) && allIn r 0 99) <;> cases netB x <;> cases decide (fl.length = x.length) <;> rfl
theorem areFlows_eq {x fl : List (List Int)} (hf : Low2 fl) : F_im_areFlows x fl = some (flowsB x.length fl) := by
  have hl := hf.1
  have hc := containsFunc_Sint (l := fl) (show (fl.length : Int) < 9223372036854775807 by omega) (p := fun a => Option.bind (F_im_areFlows_1 a.1 x) fun y => some y) (q := fun r => !(decide (r.length = x.length) && allIn r 0 99)) fun r hr => by
    unfold F_im_areFlows_1 T_im_areFlows_1
    simp (disch := omega) only [EV, areBetween_eq (hf.2 r hr), int_ne]
    cases decide (r.length = x.length) <;> cases allIn r 0 99 <;> rfl
  unfold F_im_areFlows T_im_areFlows flowsB
  simp (disch := omega) only [EV, int_eq, hc]
  rw [List.any_eq_not_all_not]
  simp only [Bool.not_not]
  by_cases h : fl.length = x.length
  · simp (disch := omega) only [EV, h]
  · simp (disch := omega) only [EV, h]
theorem l11Cost_eq {x fl : List (List Int)} {h : List Int} {d : Int} (hx : Ground x) (hf : Flows x.length fl) (hh : Alloc x.length h) (hd : 0 ≤ d ∧ d ≤ 10) : F_sp_l11Cost x fl h d = some (hubSum x fl h d) := by
  have hl := hx.len
  have hlh := hh.len
  have hlf := hf.len
  have l2 : ∀ i b, i < x.length → 0 ≤ b → b ≤ 100000000 → L_sp_l11Cost_2 (x, (fl, (h, (d, (i : Int))))) (b, 0) = some (hubRow x fl h d x.length i b) := fun i b hi hb0 hb1 =>
    (iter_fold (f := fun v => (S_sp_l11Cost_2 (x, (fl, (h, (d, (i : Int))))) v).ev) (n := x.length) (mk := fun j b => (b, (j : Int))) (I := fun j s => s = hubRow x fl h d j i b) (g := fun b j => bif i == j then b else b + hubTerm x fl h d i j) (fin := fun b => b) (s0 := b) rfl (fun j s hj hs => by
      refine ⟨?_, by unfold hubRow at hs ⊢; rw [foldl_range_succ, ← hs]⟩
      have hsb := hubRow_in hx hf hh hd hi hb0 j (by omega)
      rw [← hs] at hsb
      obtain ⟨e1, h1⟩ := hh.mem i hi
      obtain ⟨e2, h2⟩ := hh.mem j hj
      have e3 : (fl.getD i []).getD j 0 = at2 fl i j := rfl
      have e4 : (x.getD i []).getD (pl h i) 0 = at2 x i (pl h i) := rfl
      have e5 : (x.getD j []).getD (pl h j) 0 = at2 x j (pl h j) := rfl
      have e6 : (x.getD (pl h i) []).getD (pl h j) 0 = at2 x (pl h i) (pl h j) := rfl
      have b1 := hx.in hi h1
      have b2 := hx.in hj h2
      have b3 := mul_in hd (hx.in h1 h2)
      have b4 := hubTerm_in hx hf hh hd hi hj
      have e7 : ((i : Int) == (j : Int)) = (i == j) := by
        rw [Bool.eq_iff_iff, beq_iff_eq, beq_iff_eq]
        omega
      cases hij : (i == j) with
      | true => simp (disch := omega) only [EV, S_sp_l11Cost_2, hj, bne, e7, hij]; rfl
      | false =>
        unfold hubTerm at b4 ⊢
        simp (disch := omega) only [EV, S_sp_l11Cost_2, hi, hj, hlf, hlh, bne, e7, hij, hf.rowLen i hi, hx.rowLen hi, hx.rowLen hj, hx.rowLen h1, e1, e2, h1, h2, e3, e4, e5, e6]; rfl) (fun b _ => by simp (disch := omega) only [EV, S_sp_l11Cost_2, Nat.lt_irrefl])).1
  have l0 : L_sp_l11Cost_0 (x, (fl, (h, d))) (0, 0) = some (hubSum x fl h d) :=
    (iter_fold (f := fun v => (S_sp_l11Cost_0 (x, (fl, (h, d))) v).ev) (n := x.length) (mk := fun j b => (b, (j : Int))) (I := fun i s => 0 ≤ s ∧ s ≤ 2058210 * i) (g := fun b i => hubRow x fl h d x.length i b) (fin := fun b => b) (s0 := 0) (by omega) (fun i b hi hb => by
      have := hubRow_in hx hf hh hd hi hb.1 x.length (by omega)
      simp (disch := omega) only [EV, S_sp_l11Cost_0, hi, l2 i b hi hb.1 (by omega)]
      exact ⟨rfl, by omega⟩) (fun b _ => by simp (disch := omega) only [EV, S_sp_l11Cost_0, Nat.lt_irrefl])).1
  unfold F_sp_l11Cost T_sp_l11Cost
  simp (disch := omega) only [EV, l0]
theorem hubCost_eq {x fl : List (List Int)} {h : List Int} {d : Int} (hx : Ground x) (hf : Flows x.length fl) (hh : Alloc x.length h) (hd : 0 ≤ d ∧ d ≤ 10) : F_im_hubCost x fl h d = some (hubSum x fl h d) := by
  have hl := hx.len
  have hlh := hh.len
  have hlf := hf.len
  have l2 : ∀ i b, i < x.length → 0 ≤ b → b ≤ 100000000 → L_im_hubCost_2 (x, (h, (d, ((i : Int), (fl, ((x.length : Int), ((i : Int), ((fl.getD i []), (((fl.getD i []).length : Nat) : Int))))))))) (b, 0) = some (hubRow x fl h d x.length i b) := fun i b hi hb0 hb1 =>
    (iter_fold (f := fun v => (S_im_hubCost_2 (x, (h, (d, ((i : Int), (fl, ((x.length : Int), ((i : Int), ((fl.getD i []), (((fl.getD i []).length : Nat) : Int))))))))) v).ev) (n := x.length) (mk := fun j b => (b, (j : Int))) (I := fun j s => s = hubRow x fl h d j i b) (g := fun b j => bif i == j then b else b + hubTerm x fl h d i j) (fin := fun b => b) (s0 := b) rfl (fun j s hj hs => by
      refine ⟨?_, by unfold hubRow at hs ⊢; rw [foldl_range_succ, ← hs]⟩
      have hsb := hubRow_in hx hf hh hd hi hb0 j (by omega)
      rw [← hs] at hsb
      obtain ⟨e1, h1⟩ := hh.mem i hi
      obtain ⟨e2, h2⟩ := hh.mem j hj
      have e3 : (fl.getD i []).getD j 0 = at2 fl i j := rfl
      have e4 : (x.getD i []).getD (pl h i) 0 = at2 x i (pl h i) := rfl
      have e5 : (x.getD j []).getD (pl h j) 0 = at2 x j (pl h j) := rfl
      have e6 : (x.getD (pl h i) []).getD (pl h j) 0 = at2 x (pl h i) (pl h j) := rfl
      have b1 := hx.in hi h1
      have b2 := hx.in hj h2
      have b3 := mul_in hd (hx.in h1 h2)
      have b4 := hubTerm_in hx hf hh hd hi hj
      have e7 : ((i : Int) == (j : Int)) = (i == j) := by
        rw [Bool.eq_iff_iff, beq_iff_eq, beq_iff_eq]
        omega
      cases hij : (i == j) with
      | true => simp (disch := omega) only [EV, S_im_hubCost_2, hj, hf.rowLen i hi, bne, e7, hij]; rfl
      | false =>
        unfold hubTerm at b4 ⊢
        simp (disch := omega) only [EV, S_im_hubCost_2, hi, hj, hlf, hlh, bne, e7, hij, hf.rowLen i hi, hx.rowLen hi, hx.rowLen hj, hx.rowLen h1, e1, e2, h1, h2, e3, e4, e5, e6]; rfl) (fun b _ => by simp (disch := omega) only [EV, S_im_hubCost_2, hf.rowLen i hi, Nat.lt_irrefl])).1
  have l0 : L_im_hubCost_0 (x, (h, (d, (fl, (x.length : Int))))) (0, 0) = some (hubSum x fl h d) :=
    (iter_fold (f := fun v => (S_im_hubCost_0 (x, (h, (d, (fl, (x.length : Int))))) v).ev) (n := x.length) (mk := fun j b => (b, (j : Int))) (I := fun i s => 0 ≤ s ∧ s ≤ 2058210 * i) (g := fun b i => hubRow x fl h d x.length i b) (fin := fun b => b) (s0 := 0) (by omega) (fun i b hi hb => by
      have := hubRow_in hx hf hh hd hi hb.1 x.length (by omega)
      simp (disch := omega) only [EV, S_im_hubCost_0, hlf, hi, l2 i b hi hb.1 (by omega)]
      exact ⟨rfl, by omega⟩) (fun b _ => by simp (disch := omega) only [EV, S_im_hubCost_0, Nat.lt_irrefl])).1
  unfold F_im_hubCost T_im_hubCost
  simp (disch := omega) only [EV, hlf, l0]
def hubCostOf (x fl : List (List Int)) (h : List Int) (d : Int) : Int × Bool := bif netB x && (flowsB x.length fl && (allocB x.length h && isIn d 0 10)) then (hubSum x fl h d, true) else (0, false)
theorem netB_ground {x : List (List Int)} (h : netB x = true) : Ground x := by
  simp only [netB, Bool.and_eq_true] at h
  exact (groundB_iff x).1 h.1
theorem sp_HubCost_eq {x fl : List (List Int)} (hx : Low2 x) (hf : Low2 fl) {h : List Int} (hh : Low1 h) (d : Int) : F_sp_HubCost x fl h d = some (hubCostOf x fl h d) := by
  unfold F_sp_HubCost T_sp_HubCost hubCostOf
  simp (disch := omega) only [EV, l11Flows_eq hx hf, l11Hubs_eq x hh]
  cases h1 : netB x with
  | false => rfl
  | true =>
    cases h2 : flowsB x.length fl with
    | false => rfl
    | true =>
      cases h3 : isIn d 0 10 with
      | false => cases allocB x.length h <;> rfl
      | true =>
        cases h4 : allocB x.length h with
        | false => rfl
        | true => simp (disch := omega) only [EV, l11Cost_eq (netB_ground h1) (Flows.of h2) (allocB_iff.1 h4) (isIn_iff.1 h3)]
theorem im_HubCost_eq {x fl : List (List Int)} (hx : Low2 x) (hf : Low2 fl) (h : List Int) (d : Int) : F_im_HubCost x fl h d = some (hubCostOf x fl h d) := by
  unfold F_im_HubCost T_im_HubCost hubCostOf
  simp (disch := omega) only [EV, isNet_eq hx, areFlows_eq (x := x) hf, isAllocation_eq (h := h) hx.1, between_eq]
  cases h1 : netB x with
  | false => rfl
  | true =>
    cases h2 : flowsB x.length fl with
    | false => rfl
    | true =>
      cases h4 : allocB x.length h with
      | false => rfl
      | true =>
        cases h3 : isIn d 0 10 with
        | false => rfl
        | true => simp (disch := omega) only [EV, hubCost_eq (netB_ground h1) (Flows.of h2) (allocB_iff.1 h4) (isIn_iff.1 h3)]
end Go.Proofs.Ytlemejhffpkbkaa
