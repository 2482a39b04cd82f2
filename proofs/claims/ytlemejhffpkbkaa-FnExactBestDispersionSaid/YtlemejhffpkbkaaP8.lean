/-
  Plain laws: grounds, metric grounds.
-/
import Derived.Test.YtlemejhffpkbkaaPM
namespace Go.Proofs.Ytlemejhffpkbkaa
def at2 (x : List (List Int)) (i j : Nat) : Int := (x.getD i []).getD j 0
def rowOK (x : List (List Int)) (n i : Nat) : Bool := allIn (x.getD i []) 0 99 && (((x.getD i []).length : Int) == (n : Int))
structure Ground (x : List (List Int)) : Prop where
  row : ∀ i, i < x.length → rowOK x x.length i = true
  diag : ∀ i, i < x.length → at2 x i i = 0
  sym : ∀ i j, i < x.length → j < x.length → at2 x i j = at2 x j i
  len : x.length ≤ 7
def groundB (x : List (List Int)) : Bool := ((List.range x.length).all fun i => rowOK x x.length i && at2 x i i == 0 && (List.range i).all fun j => at2 x i j == at2 x j i) && decide ((x.length : Int) ≤ 7)
theorem rowOK_len {x : List (List Int)} {n i : Nat} (h : rowOK x n i = true) : (x.getD i []).length = n := by
  simp only [rowOK, Bool.and_eq_true, beq_iff_eq] at h
  omega
theorem rowOK_in {x : List (List Int)} {n i j : Nat} (h : rowOK x n i = true) (hj : j < n) : 0 ≤ at2 x i j ∧ at2 x i j ≤ 99 := by
  have hl := rowOK_len h
  simp only [rowOK, Bool.and_eq_true] at h
  exact allIn_getD h.1 (by omega)
theorem Ground.in {x : List (List Int)} (h : Ground x) {i j : Nat} (hi : i < x.length) (hj : j < x.length) : 0 ≤ at2 x i j ∧ at2 x i j ≤ 99 := rowOK_in (h.row i hi) hj
theorem Ground.rowLen {x : List (List Int)} (h : Ground x) {i : Nat} (hi : i < x.length) : (x.getD i []).length = x.length := rowOK_len (h.row i hi)
theorem groundB_iff (x : List (List Int)) : groundB x = true ↔ Ground x := by
  unfold groundB
  simp only [List.all_eq_true, List.mem_range, Bool.and_eq_true, beq_iff_eq, decide_eq_true_eq]
  constructor
  · rintro ⟨h, h7⟩
    refine ⟨fun i hi => (h i hi).1.1, fun i hi => (h i hi).1.2, fun i j hi hj => ?_, by omega⟩
    rcases Nat.lt_trichotomy i j with h1 | h1 | h1
    · exact ((h j hj).2 i h1).symm
    · rw [h1]
    · exact (h i hi).2 j h1
  · rintro ⟨h1, h2, h3, h4⟩
    exact ⟨fun i hi => ⟨⟨h1 i hi, h2 i hi⟩, fun j hj => h3 i j hi (by omega)⟩, by omega⟩
theorem l11Ground_eq {x : List (List Int)} (hx : Low2 x) : F_zav x = some (groundB x) := by
  obtain ⟨hl, hr⟩ := hx
  have h2 : ∀ i, i < x.length → (∀ j, j ≤ i → rowOK x x.length j = true) → L_zav_2 (x, ((x.length : Int), (i : Int))) 0 = some (bif (List.range i).all fun j => at2 x i j == at2 x j i then .inl () else .inr ()) := fun i hi hrow =>
    iter_allR (f := fun v => (S_zav_2 (x, ((x.length : Int), (i : Int))) v).ev) (n := i) (mk := fun i => (i : Int)) (p := fun j => at2 x i j == at2 x j i) (yes := .inl ()) (no := .inr ()) (fun j hj _ => by
      have h1 := rowOK_len (hrow i (Nat.le_refl _))
      have h2 := rowOK_len (hrow j (by omega))
      have hj' : j < x.length := by omega
      simp (disch := omega) only [EV, S_zav_2, hi, hj, hj', h1, h2, bne]
      unfold at2
      cases ((x.getD i []).getD j 0 == (x.getD j []).getD i 0) <;> rfl) (by simp (disch := omega) only [EV, S_zav_2, Nat.lt_irrefl])
  have h0 : L_zav_0 (x, (x.length : Int)) 0 = _ := iter_allR (f := fun v => (S_zav_0 (x, (x.length : Int)) v).ev) (n := x.length) (mk := fun i => (i : Int))
    (p := fun i => rowOK x x.length i && at2 x i i == 0 && (List.range i).all fun j => at2 x i j == at2 x j i) (yes := .inl ()) (no := .inr ()) (fun i hi hp => by
      simp (disch := omega) only [EV, S_zav_0, hi, l2Row_eq (hr _ (getD_mem (d := []) hi))]
      have e : (allIn (x.getD i []) 0 99 && (((x.getD i []).length : Int) == ((x.length : Nat) : Int))) = rowOK x x.length i := rfl
      rw [e]
      cases hb : rowOK x x.length i with
      | false => rfl
      | true =>
        have hd : (x.getD i []).getD i 0 = at2 x i i := rfl
        simp (disch := omega) only [EV, rowOK_len hb, hi, bne, hd, h2 i hi fun j hj => by
          by_cases e : j = i
          · rw [e]; exact hb
          · have := hp j (by omega)
            simp only [Bool.and_eq_true] at this
            exact this.1.1]
        cases (at2 x i i == 0) <;> cases (List.range i).all fun j => at2 x i j == at2 x j i <;> rfl) (by simp (disch := omega) only [EV, S_zav_0, Nat.lt_irrefl])
  unfold F_zav T_zav
  simp (disch := omega) only [EV, h0]
  unfold groundB
  cases (List.range x.length).all fun i => rowOK x x.length i && at2 x i i == 0 && (List.range i).all fun j => at2 x i j == at2 x j i <;> rfl
theorem im_IsGround_eq {x : List (List Int)} (hx : Low2 x) : F_zf x = some (groundB x) := by
  have hl := hx.1
  unfold F_zf T_zf
  by_cases h7 : (7 : Int) < (x.length : Int)
  · simp (disch := omega) only [EV, h7]
    unfold groundB
    rw [show decide ((x.length : Int) ≤ 7) = false by simp; omega, Bool.and_false]
  · have h0 : L_zf_0 (x, (x, ((x.length : Nat) : Int))) 0 = _ := iter_allR (f := fun v => (S_zf_0 (x, (x, ((x.length : Nat) : Int))) v).ev) (n := x.length) (mk := fun i => (i : Int)) (p := fun i => rowOK x x.length i) (yes := .inl ()) (no := .inr ()) (fun i hi _ => by
      simp (disch := omega) only [EV, S_zf_0, hi, areBetween_eq (hx.2 _ (getD_mem (d := []) hi)), bne]
      unfold rowOK
      cases (((x.getD i []).length : Int) == ((x.length : Nat) : Int)) <;> cases allIn (x.getD i []) 0 99 <;> rfl) (by simp (disch := omega) only [EV, S_zf_0, Nat.lt_irrefl])
    simp (disch := omega) only [EV, h7, h0]
    cases hr : (List.range x.length).all fun i => rowOK x x.length i with
    | false =>
      simp only [cond_false, ev_s_inr, Tr.ev_l]
      congr 1
      refine Eq.symm (Bool.eq_false_iff.2 fun h => ?_)
      rw [Bool.eq_false_iff] at hr
      exact hr (List.all_eq_true.2 fun i hi => ((groundB_iff x).1 h).row i (List.mem_range.1 hi))
    | true =>
      have hrow : ∀ j, j < x.length → rowOK x x.length j = true := fun j hj => List.all_eq_true.1 hr j (List.mem_range.2 hj)
      have h4 : ∀ i, i < x.length → L_zf_4 (x, ((i : Int), (x, (((x.length : Nat) : Int), ((i : Int), ((x.getD i []), (((x.getD i []).length : Nat) : Int))))))) 0 =
          some (bif (List.range x.length).all fun j => (at2 x i j == at2 x j i) && (!(i == j) || at2 x i j == 0) then .inl () else .inr ()) := fun i hi => by
        have h1 := rowOK_len (hrow i hi)
        refine iter_allR (f := fun v => (S_zf_4 (x, ((i : Int), (x, (((x.length : Nat) : Int), ((i : Int), ((x.getD i []), (((x.getD i []).length : Nat) : Int))))))) v).ev) (n := x.length) (mk := fun i => (i : Int)) (p := fun j => (at2 x i j == at2 x j i) && (!(i == j) || at2 x i j == 0)) (yes := .inl ()) (no := .inr ()) (fun j hj _ => ?_) ?_
        · have h2 := rowOK_len (hrow j hj)
          have e1 : (x.getD i []).getD j 0 = at2 x i j := rfl
          have e2 : (x.getD j []).getD i 0 = at2 x j i := rfl
          have e3 : ((i : Int) == (j : Int)) = (i == j) := by
            rw [Bool.eq_iff_iff, beq_iff_eq, beq_iff_eq]
            omega
          simp (disch := omega) only [EV, S_zf_4, h1, h2, hi, hj, bne, e1, e2, e3]
          cases (at2 x i j == at2 x j i) <;> cases (i == j) <;> cases (at2 x i j == 0) <;> rfl
        · simp (disch := omega) only [EV, S_zf_4, h1, Nat.lt_irrefl]
      have h2 : L_zf_2 (x, (x, ((x.length : Nat) : Int))) 0 = _ := iter_allR (f := fun v => (S_zf_2 (x, (x, ((x.length : Nat) : Int))) v).ev) (n := x.length) (mk := fun i => (i : Int))
          (p := fun i => (List.range x.length).all fun j => (at2 x i j == at2 x j i) && (!(i == j) || at2 x i j == 0)) (yes := .inl ()) (no := .inr ()) (fun i hi _ => by
        simp (disch := omega) only [EV, S_zf_2, hi, h4 i hi]
        cases (List.range x.length).all fun j => (at2 x i j == at2 x j i) && (!(i == j) || at2 x i j == 0) <;> rfl) (by simp (disch := omega) only [EV, S_zf_2, Nat.lt_irrefl])
      simp (disch := omega) only [EV, h2]
      rw [show groundB x = (List.range x.length).all fun i => (List.range x.length).all fun j => (at2 x i j == at2 x j i) && (!(i == j) || at2 x i j == 0) from ?_]
      · cases (List.range x.length).all fun i => (List.range x.length).all fun j => (at2 x i j == at2 x j i) && (!(i == j) || at2 x i j == 0) <;> rfl
      · rw [Bool.eq_iff_iff, groundB_iff]
        simp only [List.all_eq_true, List.mem_range, Bool.and_eq_true, Bool.or_eq_true, Bool.not_eq_true', beq_iff_eq, beq_eq_false_iff_ne]
        constructor
        · rintro ⟨h1, h2, h3, _⟩ i hi j hj
          refine ⟨h3 i j hi hj, ?_⟩
          by_cases e : i = j
          · subst e; exact .inr (h2 i hi)
          · exact .inl e
        · intro h
          exact ⟨hrow, fun i hi => ((h i hi i hi).2).resolve_left fun h => h rfl, fun i j hi hj => (h i hi j hj).1, by omega⟩
end Go.Proofs.Ytlemejhffpkbkaa
/-
  Plain laws: rising lists, dispersion, allocations, the cost of hubs.
-/
namespace Go.Proofs.Ytlemejhffpkbkaa
def risingB (l : List Int) (lo hi : Int) : Bool := (List.range l.length).all fun i => isIn (l.getD i 0) lo hi && (i == 0 || decide (l.getD (i - 1) 0 < l.getD i 0))
theorem risingB_iff {l : List Int} {lo hi : Int} : risingB l lo hi = true ↔ (∀ x ∈ l, lo ≤ x ∧ x ≤ hi) ∧ l.Pairwise (· < ·) := by
  unfold risingB
  simp only [List.all_eq_true, List.mem_range, Bool.and_eq_true, Bool.or_eq_true, beq_iff_eq, decide_eq_true_eq, isIn_iff]
  constructor
  · intro h
    refine ⟨fun x hx => ?_, ?_⟩
    · obtain ⟨i, hi, e⟩ := List.getElem_of_mem hx
      have := (h i hi).1
      rw [List.getD_eq_getElem?_getD, List.getElem?_eq_getElem hi] at this
      rw [← e]; exact this
    · rw [List.pairwise_iff_getElem]
      have key : ∀ d i, i + d + 1 < l.length → l.getD i 0 < l.getD (i + d + 1) 0 := by
        intro d
        induction d with
        | zero =>
          intro i hi
          have := (h (i + 1) hi).2
          rcases this with h0 | h0
          · omega
          · simpa using h0
        | succ d ih =>
          intro i hi
          have h1 := ih i (by omega)
          have := (h (i + (d + 1) + 1) hi).2
          rcases this with h0 | h0
          · omega
          · have e : i + (d + 1) + 1 - 1 = i + d + 1 := by omega
            rw [e] at h0
            omega
      intro i j hi hj hij
      have := key (j - i - 1) i (by omega)
      rw [show i + (j - i - 1) + 1 = j by omega, List.getD_eq_getElem?_getD, List.getD_eq_getElem?_getD, List.getElem?_eq_getElem hi, List.getElem?_eq_getElem hj] at this
      exact this
  · rintro ⟨h1, h2⟩ i hi
    refine ⟨h1 _ (getD_mem hi), ?_⟩
    by_cases e : i = 0
    · exact .inl e
    · right
      have := List.pairwise_iff_getElem.1 h2 (i - 1) i (by omega) hi (by omega)
      rw [List.getD_eq_getElem?_getD, List.getD_eq_getElem?_getD, List.getElem?_eq_getElem hi, List.getElem?_eq_getElem (by omega)]
      exact this
theorem risingB_in {l : List Int} {lo hi : Int} (h : risingB l lo hi = true) {i : Nat} (hi' : i < l.length) : lo ≤ l.getD i 0 ∧ l.getD i 0 ≤ hi := (risingB_iff.1 h).1 _ (getD_mem hi')
def pl (s : List Int) (i : Nat) : Nat := (s.getD i 0).toNat
def disp (x : List (List Int)) (s : List Int) (b : Int) : Int := (List.range s.length).foldl (fun b i => (List.range i).foldl (fun b j => min b (at2 x (pl s i) (pl s j))) b) b
theorem foldl_min {α : Type} (g : Int → α → Int) (hg : ∀ a b i, g (min a b) i = min a (g b i)) (l : List α) (a b : Int) : l.foldl g (min a b) = min a (l.foldl g b) := by
  induction l generalizing b with
  | nil => rfl
  | cons i l ih => rw [List.foldl_cons, List.foldl_cons, hg, ih]
theorem disp_min (x : List (List Int)) (s : List Int) (a b : Int) : disp x s (min a b) = min a (disp x s b) :=
  foldl_min (fun b i => (List.range i).foldl (fun b j => min b (at2 x (pl s i) (pl s j))) b) (fun a b i => foldl_min (fun b j => min b (at2 x (pl s i) (pl s j))) (fun a b j => by omega) _ a b) _ a b
theorem foldl_min_le {α : Type} (g : Int → α → Int) (hg : ∀ a i, g a i ≤ a) (l : List α) (b : Int) : l.foldl g b ≤ b := by
  induction l generalizing b with
  | nil => exact Int.le_refl _
  | cons i l ih => exact Int.le_trans (ih _) (hg b i)
theorem foldl_min_mem {α : Type} (g : Int → α → Int) (hg : ∀ a i, g a i ≤ a) {l : List α} {i : α} (hi : i ∈ l) {c : Int} (hc : ∀ a, g a i ≤ c) (b : Int) : l.foldl g b ≤ c := by
  induction l generalizing b with
  | nil => cases hi
  | cons k l ih =>
    rw [List.foldl_cons]
    rcases List.mem_cons.1 hi with rfl | hi
    · exact Int.le_trans (foldl_min_le g hg l _) (hc b)
    · exact ih hi _
theorem disp_le (x : List (List Int)) (s : List Int) (b : Int) {i j : Nat} (hi : i < s.length) (hj : j < i) : disp x s b ≤ at2 x (pl s i) (pl s j) :=
  foldl_min_mem _ (fun a i => foldl_min_le _ (fun a j => by omega) _ a) (List.mem_range.2 hi) (fun a => foldl_min_mem _ (fun a j => by omega) (List.mem_range.2 hj) (fun a => by omega) a) b
theorem disp_start {x : List (List Int)} {s : List Int} {i j : Nat} (hi : i < s.length) (hj : j < i) {b : Int} (hb : at2 x (pl s i) (pl s j) ≤ b) : disp x s (at2 x (pl s i) (pl s j)) = disp x s b := by
  have := disp_min x s (at2 x (pl s i) (pl s j)) b
  rw [Int.min_eq_left hb] at this
  rw [this, Int.min_eq_right (disp_le x s b hi hj)]
structure Places (s : List Int) (n : Nat) : Prop where
  low : (s.length : Int) ≤ 1048576
  mem : ∀ i, i < s.length → 0 ≤ s.getD i 0 ∧ s.getD i 0 < n
theorem Places.pl {s : List Int} {n : Nat} (h : Places s n) {i : Nat} (hi : i < s.length) : s.getD i 0 = (pl s i : Int) ∧ Go.Proofs.Ytlemejhffpkbkaa.pl s i < n := by
  have := h.mem i hi
  unfold Go.Proofs.Ytlemejhffpkbkaa.pl
  omega
theorem Places.of {s : List Int} {n : Nat} (hs : Low1 s) (h : risingB s 0 ((n : Int) - 1) = true) : Places s n := ⟨hs, fun i hi => by have := risingB_in h hi; omega⟩
theorem l11Dispersion_eq {x : List (List Int)} (hx : Ground x) {s : List Int} (hs : Places s x.length) (h2 : 2 ≤ s.length) : F_zau x s = some (disp x s 100) := by
  have hl := hx.len
  have hlow := hs.low
  have l2 : ∀ i b, i < s.length → L_zau_2 (x, (s, (i : Int))) (b, 0) = some ((List.range i).foldl (fun b j => min b (at2 x (pl s i) (pl s j))) b) := fun i b hi =>
    (iter_fold (f := fun v => (S_zau_2 (x, (s, (i : Int))) v).ev) (n := i) (mk := fun j b => (b, (j : Int))) (I := fun _ _ => True) (g := fun b j => min b (at2 x (pl s i) (pl s j))) (fin := fun b => b) (s0 := b) trivial (fun j b hj _ => by
      have hj' : j < s.length := by omega
      obtain ⟨e1, h1⟩ := hs.pl hi
      obtain ⟨e2, h2⟩ := hs.pl hj'
      have e3 : (x.getD (pl s i) []).getD (pl s j) 0 = at2 x (pl s i) (pl s j) := rfl
      simp (disch := omega) only [EV, S_zau_2, hi, hj, hj', e1, e2, hx.rowLen h1, h1, h2, l1Least_eq, e3]
      exact ⟨rfl, trivial⟩) (fun b _ => by simp (disch := omega) only [EV, S_zau_2, Nat.lt_irrefl])).1
  have l0 : ∀ b, L_zau_0 (x, s) (b, 0) = some (disp x s b) := fun b =>
    (iter_fold (f := fun v => (S_zau_0 (x, s) v).ev) (n := s.length) (mk := fun j b => (b, (j : Int))) (I := fun _ _ => True) (g := fun b i => (List.range i).foldl (fun b j => min b (at2 x (pl s i) (pl s j))) b) (fin := fun b => b) (s0 := b) trivial (fun i b hi _ => by
      simp (disch := omega) only [EV, S_zau_0, hi, l2 i b hi]
      exact ⟨rfl, trivial⟩) (fun b _ => by simp (disch := omega) only [EV, S_zau_0, Nat.lt_irrefl])).1
  obtain ⟨e0, h0⟩ := hs.pl (show 0 < s.length by omega)
  obtain ⟨e1, h1⟩ := hs.pl (show 1 < s.length by omega)
  unfold F_zau T_zau
  have z0 : Int.toNat 0 = 0 := rfl
  have z1 : Int.toNat 1 = 1 := rfl
  have e3 : (x.getD (pl s 0) []).getD (pl s 1) 0 = at2 x (pl s 0) (pl s 1) := rfl
  simp (disch := omega) only [EV, z0, z1, e0, e1, h0, h1, hx.rowLen h0, e3, l0]
  rw [hx.sym _ _ h0 h1, disp_start (i := 1) (j := 0) (by omega) (by omega) (b := 100)]
  have := hx.in h1 h0
  omega
theorem dispersion_eq {x : List (List Int)} (hx : Ground x) {s : List Int} (hs : Places s x.length) : F_zm x s = some (disp x s 100) := by
  have hl := hx.len
  have hlow := hs.low
  have l2 : ∀ i b, i < s.length → L_zm_2 (x, (s, ((pl s i : Int), (s, ((s.length : Int), ((i : Int), ((s.take i), ((i : Nat) : Int)))))))) (b, 0) = some ((List.range i).foldl (fun b j => min b (at2 x (pl s i) (pl s j))) b) := fun i b hi =>
    (iter_fold (f := fun v => (S_zm_2 (x, (s, ((pl s i : Int), (s, ((s.length : Int), ((i : Int), ((s.take i), ((i : Nat) : Int)))))))) v).ev) (n := i) (mk := fun j b => (b, (j : Int))) (I := fun _ _ => True) (g := fun b j => min b (at2 x (pl s i) (pl s j))) (fin := fun b => b) (s0 := b) trivial (fun j b hj _ => by
      have hj' : j < s.length := by omega
      obtain ⟨e1, h1⟩ := hs.pl hi
      obtain ⟨e2, h2⟩ := hs.pl hj'
      have e4 : (s.take i).length = i := by simp; omega
      have e5 : (s.take i).getD j 0 = s.getD j 0 := by simp [List.getElem?_take, hj]
      have e3 : (x.getD (pl s i) []).getD (pl s j) 0 = at2 x (pl s i) (pl s j) := rfl
      simp (disch := omega) only [EV, S_zm_2, hi, hj, hj', e2, e4, e5, hx.rowLen h1, h1, h2, e3]
      refine ⟨?_, trivial⟩
      by_cases h : at2 x (pl s i) (pl s j) < b
      · rw [if_pos h, Int.min_eq_right (by omega)]; rfl
      · rw [if_neg h, Int.min_eq_left (by omega)]; rfl) (fun b _ => by simp (disch := omega) only [EV, S_zm_2, Nat.lt_irrefl])).1
  have l0 : ∀ b, L_zm_0 (x, (s, (s, (s.length : Int)))) (b, 0) = some (disp x s b) := fun b =>
    (iter_fold (f := fun v => (S_zm_0 (x, (s, (s, (s.length : Int)))) v).ev) (n := s.length) (mk := fun j b => (b, (j : Int))) (I := fun _ _ => True) (g := fun b i => (List.range i).foldl (fun b j => min b (at2 x (pl s i) (pl s j))) b) (fin := fun b => b) (s0 := b) trivial (fun i b hi _ => by
      have e1 := (hs.pl hi).1
      have e4 : (s.take i).length = i := by simp; omega
      have h1 : (0 : Int) ≤ (i : Int) := by omega
      have h2 : (i : Int) ≤ (s.length : Int) := by omega
      simp (disch := omega) only [EV, S_zm_0, hi, List.drop_zero, e4, e1, h1, h2, l2 i b hi]
      exact ⟨rfl, trivial⟩) (fun b _ => by simp (disch := omega) only [EV, S_zm_0, Nat.lt_irrefl])).1
  unfold F_zm T_zm
  simp (disch := omega) only [EV, l0]
end Go.Proofs.Ytlemejhffpkbkaa
/-
  Plain laws: fields, atlases.
-/
namespace Go.Proofs.Ytlemejhffpkbkaa
structure Fld (o : List Int) (ds : List (List Int)) : Prop where
  pos : 1 ≤ o.length
  len : o.length ≤ 7
  cost : ∀ i, i < o.length → 0 ≤ o.getD i 0 ∧ o.getD i 0 ≤ 99
  clients : ds.length ≤ 7
  rowLen : ∀ j, j < ds.length → (ds.getD j []).length = o.length
  dist : ∀ j i, j < ds.length → i < o.length → 0 ≤ (ds.getD j []).getD i 0 ∧ (ds.getD j []).getD i 0 ≤ 99
end Go.Proofs.Ytlemejhffpkbkaa
/-
  Plain laws: what a set of sites serves: lengths, service, payment, total, reach; values of objectives.
-/
namespace Go.Proofs.Ytlemejhffpkbkaa
theorem Fld.at2 {o : List Int} {ds : List (List Int)} (h : Fld o ds) {j i : Nat} (hj : j < ds.length) (hi : i < o.length) : 0 ≤ at2 ds j i ∧ at2 ds j i ≤ 99 := h.dist j i hj hi
end Go.Proofs.Ytlemejhffpkbkaa
