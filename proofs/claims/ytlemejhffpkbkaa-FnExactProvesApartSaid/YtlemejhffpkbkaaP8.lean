/-
  Plain laws: grounds, metric grounds.
-/
import Derived.Test.YtlemejhffpkbkaaPM
namespace Go.Proofs.Ytlemejhffpkbkaa
def at2 (x : List (List Int)) (i j : Nat) : Int := (x.getD i []).getD j 0
def rowOK (x : List (List Int)) (n i : Nat) : Bool := allIn (x.getD i []) 0 99 && (((x.getD i []).length : Int) == (n : Int))
structure Ground (x : List (List Int)) : Prop where
  row : ∀ i, i < x.length → rowOK x x.length i = true
  diag : ∀ i, i < x.length → at2 x i i = 0
  sym : ∀ i j, i < x.length → j < x.length → at2 x i j = at2 x j i
  len : x.length ≤ 7
def groundB (x : List (List Int)) : Bool := ((List.range x.length).all fun i => rowOK x x.length i && at2 x i i == 0 && (List.range i).all fun j => at2 x i j == at2 x j i) && decide ((x.length : Int) ≤ 7)
theorem rowOK_len {x : List (List Int)} {n i : Nat} (h : rowOK x n i = true) : (x.getD i []).length = n := by
  simp only [rowOK, Bool.and_eq_true, beq_iff_eq] at h
  omega
theorem rowOK_in {x : List (List Int)} {n i j : Nat} (h : rowOK x n i = true) (hj : j < n) : 0 ≤ at2 x i j ∧ at2 x i j ≤ 99 := by
  have hl := rowOK_len h
  simp only [rowOK, Bool.and_eq_true] at h
  exact allIn_getD h.1 (by omega)
theorem Ground.in {x : List (List Int)} (h : Ground x) {i j : Nat} (hi : i < x.length) (hj : j < x.length) : 0 ≤ at2 x i j ∧ at2 x i j ≤ 99 := rowOK_in (h.row i hi) hj
theorem Ground.rowLen {x : List (List Int)} (h : Ground x) {i : Nat} (hi : i < x.length) : (x.getD i []).length = x.length := rowOK_len (h.row i hi)
theorem groundB_iff (x : List (List Int)) : groundB x = true ↔ Ground x := by
  unfold groundB
  simp only [List.all_eq_true, List.mem_range, Bool.and_eq_true, beq_iff_eq, decide_eq_true_eq]
  constructor
  · rintro ⟨h, h7⟩
    refine ⟨fun i hi => (h i hi).1.1, fun i hi => (h i hi).1.2, fun i j hi hj => ?_, by omega⟩
    rcases Nat.lt_trichotomy i j with h1 | h1 | h1
    · exact ((h j hj).2 i h1).symm
    · rw [h1]
    · exact (h i hi).2 j h1
  · rintro ⟨h1, h2, h3, h4⟩
    exact ⟨fun i hi => ⟨⟨h1 i hi, h2 i hi⟩, fun j hj => h3 i j hi (by omega)⟩, by omega⟩
theorem l11Ground_eq {x : List (List Int)} (hx : Low2 x) : F_sp_l11Ground x = some (groundB x) := by
  obtain ⟨hl, hr⟩ := hx
  have h2 : ∀ i, i < x.length → (∀ j, j ≤ i → rowOK x x.length j = true) → L_sp_l11Ground_2 (x, ((x.length : Int), (i : Int))) 0 = some (bif (List.range i).all fun j => at2 x i j == at2 x j i then .inl () else .inr ()) := fun i hi hrow =>
    iter_allR (f := fun v => (S_sp_l11Ground_2 (x, ((x.length : Int), (i : Int))) v).ev) (n := i) (mk := fun i => (i : Int)) (p := fun j => at2 x i j == at2 x j i) (yes := .inl ()) (no := .inr ()) (fun j hj _ => by
      have h1 := rowOK_len (hrow i (Nat.le_refl _))
      have h2 := rowOK_len (hrow j (by omega))
      have hj' : j < x.length := by omega
      simp (disch := omega) only [EV, S_sp_l11Ground_2, hi, hj, hj', h1, h2, bne]
      unfold at2
      cases ((x.getD i []).getD j 0 == (x.getD j []).getD i 0) <;> rfl) (by simp (disch := omega) only [EV, S_sp_l11Ground_2, Nat.lt_irrefl])
  have h0 : L_sp_l11Ground_0 (x, (x.length : Int)) 0 = _ := iter_allR (f := fun v => (S_sp_l11Ground_0 (x, (x.length : Int)) v).ev) (n := x.length) (mk := fun i => (i : Int))
    (p := fun i => rowOK x x.length i && at2 x i i == 0 && (List.range i).all fun j => at2 x i j == at2 x j i) (yes := .inl ()) (no := .inr ()) (fun i hi hp => by
      simp (disch := omega) only [EV, S_sp_l11Ground_0, hi, l2Row_eq (hr _ (getD_mem (d := []) hi))]
      have e : (allIn (x.getD i []) 0 99 && (((x.getD i []).length : Int) == ((x.length : Nat) : Int))) = rowOK x x.length i := rfl
      rw [e]
      cases hb : rowOK x x.length i with
      | false => rfl
      | true =>
        have hd : (x.getD i []).getD i 0 = at2 x i i := rfl
        simp (disch := omega) only [EV, rowOK_len hb, hi, bne, hd, h2 i hi fun j hj => by
          by_cases e : j = i
          · rw [e]; exact hb
          · have := hp j (by omega)
            simp only [Bool.and_eq_true] at this
            exact this.1.1]
        cases (at2 x i i == 0) <;> cases (List.range i).all fun j => at2 x i j == at2 x j i <;> rfl) (by simp (disch := omega) only [EV, S_sp_l11Ground_0, Nat.lt_irrefl])
  unfold F_sp_l11Ground T_sp_l11Ground
  simp (disch := omega) only [EV, h0]
  unfold groundB
  cases (List.range x.length).all fun i => rowOK x x.length i && at2 x i i == 0 && (List.range i).all fun j => at2 x i j == at2 x j i <;> rfl
theorem im_IsGround_eq {x : List (List Int)} (hx : Low2 x) : F_im_IsGround x = some (groundB x) := by
  have hl := hx.1
  unfold F_im_IsGround T_im_IsGround
  by_cases h7 : (7 : Int) < (x.length : Int)
  · simp (disch := omega) only [EV, h7]
    unfold groundB
    rw [show decide ((x.length : Int) ≤ 7) = false by simp; omega, Bool.and_false]
  · have h0 : L_im_IsGround_0 (x, (x, ((x.length : Nat) : Int))) 0 = _ := iter_allR (f := fun v => (S_im_IsGround_0 (x, (x, ((x.length : Nat) : Int))) v).ev) (n := x.length) (mk := fun i => (i : Int)) (p := fun i => rowOK x x.length i) (yes := .inl ()) (no := .inr ()) (fun i hi _ => by
      simp (disch := omega) only [EV, S_im_IsGround_0, hi, areBetween_eq (hx.2 _ (getD_mem (d := []) hi)), bne]
      unfold rowOK
      cases (((x.getD i []).length : Int) == ((x.length : Nat) : Int)) <;> cases allIn (x.getD i []) 0 99 <;> rfl) (by simp (disch := omega) only [EV, S_im_IsGround_0, Nat.lt_irrefl])
    simp (disch := omega) only [EV, h7, h0]
    cases hr : (List.range x.length).all fun i => rowOK x x.length i with
    | false =>
      simp only [cond_false, ev_s_inr, Tr.ev_l]
      congr 1
      refine Eq.symm (Bool.eq_false_iff.2 fun h => ?_)
      rw [Bool.eq_false_iff] at hr
      exact hr (List.all_eq_true.2 fun i hi => ((groundB_iff x).1 h).row i (List.mem_range.1 hi))
    | true =>
      have hrow : ∀ j, j < x.length → rowOK x x.length j = true := fun j hj => List.all_eq_true.1 hr j (List.mem_range.2 hj)
      have h4 : ∀ i, i < x.length → L_im_IsGround_4 (x, ((i : Int), (x, (((x.length : Nat) : Int), ((i : Int), ((x.getD i []), (((x.getD i []).length : Nat) : Int))))))) 0 =
          some (bif (List.range x.length).all fun j => (at2 x i j == at2 x j i) && (!(i == j) || at2 x i j == 0) then .inl () else .inr ()) := fun i hi => by
        have h1 := rowOK_len (hrow i hi)
        refine iter_allR (f := fun v => (S_im_IsGround_4 (x, ((i : Int), (x, (((x.length : Nat) : Int), ((i : Int), ((x.getD i []), (((x.getD i []).length : Nat) : Int))))))) v).ev) (n := x.length) (mk := fun i => (i : Int)) (p := fun j => (at2 x i j == at2 x j i) && (!(i == j) || at2 x i j == 0)) (yes := .inl ()) (no := .inr ()) (fun j hj _ => ?_) ?_
        · have h2 := rowOK_len (hrow j hj)
          have e1 : (x.getD i []).getD j 0 = at2 x i j := rfl
          have e2 : (x.getD j []).getD i 0 = at2 x j i := rfl
          have e3 : ((i : Int) == (j : Int)) = (i == j) := by
            rw [Bool.eq_iff_iff, beq_iff_eq, beq_iff_eq]
            omega
          simp (disch := omega) only [EV, S_im_IsGround_4, h1, h2, hi, hj, bne, e1, e2, e3]
          cases (at2 x i j == at2 x j i) <;> cases (i == j) <;> cases (at2 x i j == 0) <;> rfl
        · simp (disch := omega) only [EV, S_im_IsGround_4, h1, Nat.lt_irrefl]
      have h2 : L_im_IsGround_2 (x, (x, ((x.length : Nat) : Int))) 0 = _ := iter_allR (f := fun v => (S_im_IsGround_2 (x, (x, ((x.length : Nat) : Int))) v).ev) (n := x.length) (mk := fun i => (i : Int))
          (p := fun i => (List.range x.length).all fun j => (at2 x i j == at2 x j i) && (!(i == j) || at2 x i j == 0)) (yes := .inl ()) (no := .inr ()) (fun i hi _ => by
        simp (disch := omega) only [EV, S_im_IsGround_2, hi, h4 i hi]
        cases (List.range x.length).all fun j => (at2 x i j == at2 x j i) && (!(i == j) || at2 x i j == 0) <;> rfl) (by simp (disch := omega) only [EV, S_im_IsGround_2, Nat.lt_irrefl])
      simp (disch := omega) only [EV, h2]
      rw [show groundB x = (List.range x.length).all fun i => (List.range x.length).all fun j => (at2 x i j == at2 x j i) && (!(i == j) || at2 x i j == 0) from ?_]
      · cases (List.range x.length).all fun i => (List.range x.length).all fun j => (at2 x i j == at2 x j i) && (!(i == j) || at2 x i j == 0) <;> rfl
      · rw [Bool.eq_iff_iff, groundB_iff]
        simp only [List.all_eq_true, List.mem_range, Bool.and_eq_true, Bool.or_eq_true, Bool.not_eq_true', beq_iff_eq, beq_eq_false_iff_ne]
        constructor
        · rintro ⟨h1, h2, h3, _⟩ i hi j hj
          refine ⟨h3 i j hi hj, ?_⟩
          by_cases e : i = j
          · subst e; exact .inr (h2 i hi)
          · exact .inl e
        · intro h
          exact ⟨hrow, fun i hi => ((h i hi i hi).2).resolve_left fun h => h rfl, fun i j hi hj => (h i hi j hj).1, by omega⟩
def metricB (x : List (List Int)) : Bool := (List.range x.length).all fun i => (List.range x.length).all fun j => (List.range x.length).all fun k => decide (at2 x i j ≤ at2 x i k + at2 x k j)
end Go.Proofs.Ytlemejhffpkbkaa
/-
  Plain laws: rising lists, dispersion, allocations, the cost of hubs.
-/
namespace Go.Proofs.Ytlemejhffpkbkaa
theorem mul_in {a b A B : Int} (ha : 0 ≤ a ∧ a ≤ A) (hb : 0 ≤ b ∧ b ≤ B) : 0 ≤ a * b ∧ a * b ≤ A * B :=
  ⟨Int.mul_nonneg ha.1 hb.1, Int.mul_le_mul ha.2 hb.2 hb.1 (by omega)⟩
def risingB (l : List Int) (lo hi : Int) : Bool := (List.range l.length).all fun i => isIn (l.getD i 0) lo hi && (i == 0 || decide (l.getD (i - 1) 0 < l.getD i 0))
theorem risingB_iff {l : List Int} {lo hi : Int} : risingB l lo hi = true ↔ (∀ x ∈ l, lo ≤ x ∧ x ≤ hi) ∧ l.Pairwise (· < ·) := by
  unfold risingB
  simp only [List.all_eq_true, List.mem_range, Bool.and_eq_true, Bool.or_eq_true, beq_iff_eq, decide_eq_true_eq, isIn_iff]
  constructor
  · intro h
    refine ⟨fun x hx => ?_, ?_⟩
    · obtain ⟨i, hi, e⟩ := List.getElem_of_mem hx
      have := (h i hi).1
      rw [List.getD_eq_getElem?_getD, List.getElem?_eq_getElem hi] at this
      rw [← e]; exact this
    · rw [List.pairwise_iff_getElem]
      have key : ∀ d i, i + d + 1 < l.length → l.getD i 0 < l.getD (i + d + 1) 0 := by
        intro d
        induction d with
        | zero =>
          intro i hi
          have := (h (i + 1) hi).2
          rcases this with h0 | h0
          · omega
          · simpa using h0
        | succ d ih =>
          intro i hi
          have h1 := ih i (by omega)
          have := (h (i + (d + 1) + 1) hi).2
          rcases this with h0 | h0
          · omega
          · have e : i + (d + 1) + 1 - 1 = i + d + 1 := by omega
            rw [e] at h0
            omega
      intro i j hi hj hij
      have := key (j - i - 1) i (by omega)
      rw [show i + (j - i - 1) + 1 = j by omega, List.getD_eq_getElem?_getD, List.getD_eq_getElem?_getD, List.getElem?_eq_getElem hi, List.getElem?_eq_getElem hj] at this
      exact this
  · rintro ⟨h1, h2⟩ i hi
    refine ⟨h1 _ (getD_mem hi), ?_⟩
    by_cases e : i = 0
    · exact .inl e
    · right
      have := List.pairwise_iff_getElem.1 h2 (i - 1) i (by omega) hi (by omega)
      rw [List.getD_eq_getElem?_getD, List.getD_eq_getElem?_getD, List.getElem?_eq_getElem hi, List.getElem?_eq_getElem (by omega)]
      exact this
theorem risingB_in {l : List Int} {lo hi : Int} (h : risingB l lo hi = true) {i : Nat} (hi' : i < l.length) : lo ≤ l.getD i 0 ∧ l.getD i 0 ≤ hi := (risingB_iff.1 h).1 _ (getD_mem hi')
theorem isRising_eq {l : List Int} (hl : Low1 l) {n : Int} (h0 : 0 ≤ n) (h1 : n ≤ 1048576) : F_im_isRising l n = some (risingB l 0 (n - 1)) := by
  unfold Low1 at hl
  have h0 : L_im_isRising_0 (l, (n, (l, ((l.length : Nat) : Int)))) 0 = _ := iter_allR (f := fun v => (S_im_isRising_0 (l, (n, (l, ((l.length : Nat) : Int)))) v).ev) (n := l.length) (mk := fun i => (i : Int)) (p := fun i => isIn (l.getD i 0) 0 (n - 1) && (i == 0 || decide (l.getD (i - 1) 0 < l.getD i 0))) (yes := .inl ()) (no := .inr ()) (fun i hi' _ => by
      cases i with
      | zero =>
        simp (disch := omega) only [EV, S_im_isRising_0, hi', between_eq]
        cases isIn (l.getD 0 0) 0 (n - 1) <;> rfl
      | succ i =>
        have h1 : i < l.length := by omega
        have e0 : (0 : Int) < ((i + 1 : Nat) : Int) := by omega
        have e1 : ((i + 1 : Nat) : Int) - 1 = (i : Int) := by omega
        have e2 : (i + 1 == 0) = false := rfl
        simp (disch := omega) only [EV, S_im_isRising_0, hi', between_eq, e0, e1, h1, e2, Bool.false_or, Nat.add_sub_cancel]
        cases isIn (l.getD (i + 1) 0) 0 (n - 1) with
        | false => rfl
        | true =>
          by_cases h : l.getD (i + 1) 0 ≤ l.getD i 0
          · simp only [Bool.not_true, cond_false, if_pos h, Bool.true_and, show ¬ l.getD i 0 < l.getD (i + 1) 0 by omega, decide_false]
          · simp only [Bool.not_true, cond_false, if_neg h, Bool.true_and, show l.getD i 0 < l.getD (i + 1) 0 by omega, decide_true]
            rfl) (by simp (disch := omega) only [EV, S_im_isRising_0, Nat.lt_irrefl])
  unfold F_im_isRising T_im_isRising
  simp (disch := omega) only [EV, h0]
  unfold risingB
  cases (List.range l.length).all fun i => isIn (l.getD i 0) 0 (n - 1) && (i == 0 || decide (l.getD (i - 1) 0 < l.getD i 0)) <;> rfl
def pl (s : List Int) (i : Nat) : Nat := (s.getD i 0).toNat
def disp (x : List (List Int)) (s : List Int) (b : Int) : Int := (List.range s.length).foldl (fun b i => (List.range i).foldl (fun b j => min b (at2 x (pl s i) (pl s j))) b) b
theorem foldl_min {α : Type} (g : Int → α → Int) (hg : ∀ a b i, g (min a b) i = min a (g b i)) (l : List α) (a b : Int) : l.foldl g (min a b) = min a (l.foldl g b) := by
  induction l generalizing b with
  | nil => rfl
  | cons i l ih => rw [List.foldl_cons, List.foldl_cons, hg, ih]
theorem disp_min (x : List (List Int)) (s : List Int) (a b : Int) : disp x s (min a b) = min a (disp x s b) :=
  foldl_min (fun b i => (List.range i).foldl (fun b j => min b (at2 x (pl s i) (pl s j))) b) (fun a b i => foldl_min (fun b j => min b (at2 x (pl s i) (pl s j))) (fun a b j => by omega) _ a b) _ a b
theorem foldl_min_le {α : Type} (g : Int → α → Int) (hg : ∀ a i, g a i ≤ a) (l : List α) (b : Int) : l.foldl g b ≤ b := by
  induction l generalizing b with
  | nil => exact Int.le_refl _
  | cons i l ih => exact Int.le_trans (ih _) (hg b i)
theorem foldl_min_mem {α : Type} (g : Int → α → Int) (hg : ∀ a i, g a i ≤ a) {l : List α} {i : α} (hi : i ∈ l) {c : Int} (hc : ∀ a, g a i ≤ c) (b : Int) : l.foldl g b ≤ c := by
  induction l generalizing b with
  | nil => cases hi
  | cons k l ih =>
    rw [List.foldl_cons]
    rcases List.mem_cons.1 hi with rfl | hi
    · exact Int.le_trans (foldl_min_le g hg l _) (hc b)
    · exact ih hi _
theorem disp_le (x : List (List Int)) (s : List Int) (b : Int) {i j : Nat} (hi : i < s.length) (hj : j < i) : disp x s b ≤ at2 x (pl s i) (pl s j) :=
  foldl_min_mem _ (fun a i => foldl_min_le _ (fun a j => by omega) _ a) (List.mem_range.2 hi) (fun a => foldl_min_mem _ (fun a j => by omega) (List.mem_range.2 hj) (fun a => by omega) a) b
theorem disp_start {x : List (List Int)} {s : List Int} {i j : Nat} (hi : i < s.length) (hj : j < i) {b : Int} (hb : at2 x (pl s i) (pl s j) ≤ b) : disp x s (at2 x (pl s i) (pl s j)) = disp x s b := by
  have := disp_min x s (at2 x (pl s i) (pl s j)) b
  rw [Int.min_eq_left hb] at this
  rw [this, Int.min_eq_right (disp_le x s b hi hj)]
structure Places (s : List Int) (n : Nat) : Prop where
  low : (s.length : Int) ≤ 1048576
  mem : ∀ i, i < s.length → 0 ≤ s.getD i 0 ∧ s.getD i 0 < n
theorem Places.pl {s : List Int} {n : Nat} (h : Places s n) {i : Nat} (hi : i < s.length) : s.getD i 0 = (pl s i : Int) ∧ Go.Proofs.Ytlemejhffpkbkaa.pl s i < n := by
  have := h.mem i hi
  unfold Go.Proofs.Ytlemejhffpkbkaa.pl
  omega
theorem Places.of {s : List Int} {n : Nat} (hs : Low1 s) (h : risingB s 0 ((n : Int) - 1) = true) : Places s n := ⟨hs, fun i hi => by have := risingB_in h hi; omega⟩
def dispOf (x : List (List Int)) (s : List Int) : Int × Bool := bif groundB x && (risingB s 0 ((x.length : Int) - 1) && decide (2 ≤ s.length)) then (disp x s 100, true) else (0, false)
end Go.Proofs.Ytlemejhffpkbkaa
/-
  Plain laws: fields, atlases.
-/
namespace Go.Proofs.Ytlemejhffpkbkaa
def fieldB (o : List Int) (ds : List (List Int)) : Bool := isIn (o.length : Int) 1 7 && (allIn o 0 99 && (decide ((ds.length : Int) ≤ 7) && ds.all fun r => decide (r.length = o.length) && allIn r 0 99))
structure Fld (o : List Int) (ds : List (List Int)) : Prop where
  pos : 1 ≤ o.length
  len : o.length ≤ 7
  cost : ∀ i, i < o.length → 0 ≤ o.getD i 0 ∧ o.getD i 0 ≤ 99
  clients : ds.length ≤ 7
  rowLen : ∀ j, j < ds.length → (ds.getD j []).length = o.length
  dist : ∀ j i, j < ds.length → i < o.length → 0 ≤ (ds.getD j []).getD i 0 ∧ (ds.getD j []).getD i 0 ≤ 99
theorem fieldB_iff {o : List Int} {ds : List (List Int)} : fieldB o ds = true ↔ Fld o ds := by
  unfold fieldB
  simp only [Bool.and_eq_true, decide_eq_true_eq, List.all_eq_true, isIn_iff]
  constructor
  · rintro ⟨⟨h1, h2⟩, h3, h4, h5⟩
    have h6 : ∀ j, j < ds.length → (ds.getD j []).length = o.length ∧ allIn (ds.getD j []) 0 99 = true := fun j hj => h5 _ (getD_mem (d := []) hj)
    exact ⟨by omega, by omega, fun i hi => allIn_getD h3 hi, by omega, fun j hj => (h6 j hj).1, fun j i hj hi => allIn_getD (h6 j hj).2 (by rw [(h6 j hj).1]; exact hi)⟩
  · rintro ⟨h1, h2, h3, h4, h5, h6⟩
    refine ⟨by omega, allIn_iff.2 fun a ha => ?_, by omega, fun r hr => ?_⟩
    · obtain ⟨i, hi, e⟩ := List.getElem_of_mem ha
      have := h3 i hi
      rw [List.getD_eq_getElem?_getD, List.getElem?_eq_getElem hi, Option.getD_some, e] at this
      exact this
    · obtain ⟨j, hj, e⟩ := List.getElem_of_mem hr
      have e2 : ds.getD j [] = r := by rw [List.getD_eq_getElem?_getD, List.getElem?_eq_getElem hj, Option.getD_some, e]
      have h7 := h5 j hj
      rw [e2] at h7
      refine ⟨h7, allIn_iff.2 fun a ha => ?_⟩
      obtain ⟨i, hi, e3⟩ := List.getElem_of_mem ha
      have := h6 j i hj (by omega)
      rw [e2, List.getD_eq_getElem?_getD, List.getElem?_eq_getElem hi, Option.getD_some, e3] at this
      exact this
def atlasB (o : List Int) (ds : List (List Int)) (s : List Int) (c : Int) : Bool := fieldB o ds && (risingB s 0 ((o.length : Int) - 1) && isIn c 0 1000)
end Go.Proofs.Ytlemejhffpkbkaa
/-
  Plain laws: what a set of sites serves: lengths, service, payment, total, reach; values of objectives.
-/
namespace Go.Proofs.Ytlemejhffpkbkaa
theorem Fld.at2 {o : List Int} {ds : List (List Int)} (h : Fld o ds) {j i : Nat} (hj : j < ds.length) (hi : i < o.length) : 0 ≤ at2 ds j i ∧ at2 ds j i ≤ 99 := h.dist j i hj hi
def srvStep (ds : List (List Int)) (j : Nat) (s : List Int) (b k : Nat) : Nat := if at2 ds j (pl s k) < at2 ds j b then pl s k else b
def srv (ds : List (List Int)) (j : Nat) (s : List Int) : Nat := (List.range s.length).foldl (srvStep ds j s) (pl s 0)
def near (ds : List (List Int)) (s : List Int) (j : Nat) : Int := at2 ds j (srv ds j s)
def pay (o s : List Int) : Int := (List.range s.length).foldl (fun a k => a + o.getD (pl s k) 0) 0
def serve (ds : List (List Int)) (s : List Int) : Int := (List.range ds.length).foldl (fun a j => a + near ds s j) 0
def far (ds : List (List Int)) (s : List Int) : Int := (List.range ds.length).foldl (fun a j => max a (near ds s j)) 0
def lensOf (ds : List (List Int)) (s : List Int) : List Int := (List.range ds.length).map (near ds s)
theorem foldl_inv {α S : Type} {g : S → α → S} (Q : S → Prop) {l : List α} (h : ∀ s a, a ∈ l → Q s → Q (g s a)) {s : S} (hs : Q s) : Q (l.foldl g s) := by
  induction l generalizing s with
  | nil => exact hs
  | cons a l ih => exact ih (fun s b hb => h s b (List.mem_cons_of_mem _ hb)) (h s a List.mem_cons_self hs)
theorem srvStep_lt {ds : List (List Int)} {j : Nat} {s : List Int} {n b k : Nat} (hs : Places s n) (hk : k < s.length) (hb : b < n) : srvStep ds j s b k < n := by
  unfold srvStep
  split
  · exact (hs.pl hk).2
  · exact hb
theorem srv_lt {ds : List (List Int)} {j : Nat} {s : List Int} {n : Nat} (hs : Places s n) (h0 : 0 < s.length) : srv ds j s < n :=
  foldl_inv (fun b => b < n) (fun _ _ hk hb => srvStep_lt hs (List.mem_range.1 hk) hb) (hs.pl h0).2
theorem near_in {o : List Int} {ds : List (List Int)} (hf : Fld o ds) {s : List Int} (hs : Places s o.length) (h0 : 0 < s.length) {j : Nat} (hj : j < ds.length) : 0 ≤ near ds s j ∧ near ds s j ≤ 99 := hf.at2 hj (srv_lt hs h0)
theorem sum_bound {α : Type} {l : List α} {f : α → Int} {B : Int} (h : ∀ a ∈ l, 0 ≤ f a ∧ f a ≤ B) (a0 : Int) : a0 ≤ l.foldl (fun a x => a + f x) a0 ∧ l.foldl (fun a x => a + f x) a0 ≤ a0 + (l.length : Int) * B := by
  induction l generalizing a0 with
  | nil => simp
  | cons x l ih =>
    have h1 := ih (fun a ha => h a (List.mem_cons_of_mem _ ha)) (a0 + f x)
    have h2 := h x List.mem_cons_self
    simp only [List.foldl_cons, List.length_cons]
    have e : ((l.length + 1 : Nat) : Int) * B = (l.length : Int) * B + B := by
      rw [Int.natCast_add, Int.add_mul]; simp
    rw [e]
    omega
theorem serve_in {o : List Int} {ds : List (List Int)} (hf : Fld o ds) {s : List Int} (hs : Places s o.length) (h0 : 0 < s.length) : 0 ≤ serve ds s ∧ serve ds s ≤ 693 := by
  have := sum_bound (l := List.range ds.length) (f := near ds s) (B := 99) (fun j hj => near_in hf hs h0 (List.mem_range.1 hj)) 0
  have hc := hf.clients
  unfold serve
  simp only [List.length_range] at this
  omega
theorem pay_in {o : List Int} {ds : List (List Int)} (hf : Fld o ds) {s : List Int} (hs : Places s o.length) : 0 ≤ pay o s ∧ pay o s ≤ 103809024 := by
  have := sum_bound (l := List.range s.length) (f := fun k => o.getD (pl s k) 0) (B := 99) (fun k hk => hf.cost _ (hs.pl (List.mem_range.1 hk)).2) 0
  have hc := hs.low
  unfold pay
  simp only [List.length_range] at this
  omega
theorem iter_app {V R α : Type} {f : V → Option (V ⊕ R)} {n : Nat} (mk : Nat → List α → V) (g : Nat → α) (fin : List α → R)
    (hstep : ∀ i l, i < n → l.length = i → f (mk i l) = some (.inl (mk (i + 1) (l ++ [g i])))) (hend : ∀ l, l.length = n → f (mk n l) = some (.inr (fin l))) : iter f (mk 0 []) = some (fin ((List.range n).map g)) := by
  have := (iter_fold (f := f) (n := n) mk (fun i l => l.length = i) (fun l i => l ++ [g i]) fin (s0 := []) rfl (fun i l hi hl => ⟨hstep i l hi hl, by simp [hl]⟩) hend).1
  rw [this]
  congr 2
  have : ∀ (l : List Nat) (acc : List α), l.foldl (fun l i => l ++ [g i]) acc = acc ++ l.map g := by
    intro l
    induction l with
    | nil => simp
    | cons x l ih => intro acc; simp [ih]
  rw [this]; simp
theorem foldl_max_start {l : List Int} (a : Int) (h : ∀ x ∈ l, x ≤ a) : l.foldl (fun a x => max a x) a = a := by
  induction l with
  | nil => rfl
  | cons x l ih =>
    rw [List.foldl_cons, Int.max_eq_left (h x List.mem_cons_self)]
    exact ih fun y hy => h y (List.mem_cons_of_mem _ hy)
theorem max_zero {l : List Int} (h : ∀ x ∈ l, 0 ≤ x) : (l ++ [0]).foldl (fun a x => max a x) ((l ++ [0]).getD 0 0) = l.foldl (fun a x => max a x) 0 := by
  cases l with
  | nil => rfl
  | cons y l =>
    have h1 := h y List.mem_cons_self
    have hge : ∀ (l : List Int) (a : Int), a ≤ l.foldl (fun a x => max a x) a := by
      intro l
      induction l with
      | nil => intro a; exact Int.le_refl _
      | cons x l ih => intro a; exact Int.le_trans (Int.le_max_left a x) (ih _)
    rw [List.foldl_append]
    have e : ((y :: l) ++ [0]).getD 0 0 = y := rfl
    have := hge l y
    simp only [e, List.foldl_cons, List.foldl_nil, Int.max_self, Int.max_eq_right h1]
    omega
def valueOf (o : List Int) (ds : List (List Int)) (s : List Int) (k : Int) : Int :=
  if k = 1 then serve ds s else if k = 2 then pay o s else if k = 3 then pay o s + serve ds s else if k = 4 then far ds s else (s.length : Int)
def openB (o : List Int) (ds : List (List Int)) (s : List Int) : Bool := fieldB o ds && (risingB s 0 ((o.length : Int) - 1) && decide (0 < s.length))
theorem beq_dec (a b : Int) : (a == b) = decide (a = b) := by
  rw [Bool.eq_iff_iff]; simp
theorem openB_iff {o : List Int} {ds : List (List Int)} {s : List Int} (hs : Low1 s) (h : openB o ds s = true) : Fld o ds ∧ Places s o.length ∧ 0 < s.length := by
  unfold openB at h
  simp only [Bool.and_eq_true, decide_eq_true_eq] at h
  exact ⟨fieldB_iff.1 h.1, Places.of hs h.2.1, h.2.2⟩
def objOf (o : List Int) (ds : List (List Int)) (s : List Int) (k : Int) : Int × Bool := bif openB o ds s && isIn k 1 5 then (valueOf o ds s k, true) else (0, false)
def totalOf (o : List Int) (ds : List (List Int)) (s : List Int) (c : Int) : Int × Bool := bif atlasB o ds s c && decide (0 < s.length) then (pay o s + serve ds s, true) else (0, false)
theorem atlasB_fld {o : List Int} {ds : List (List Int)} {s : List Int} {c : Int} (hs : Low1 s) (h : atlasB o ds s c = true) : Fld o ds ∧ Places s o.length := by
  unfold atlasB at h
  simp only [Bool.and_eq_true] at h
  exact ⟨fieldB_iff.1 h.1, Places.of hs h.2.1⟩
end Go.Proofs.Ytlemejhffpkbkaa
