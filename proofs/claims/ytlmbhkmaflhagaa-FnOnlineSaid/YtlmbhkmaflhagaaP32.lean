/-
  Plain laws: openings client by client, on both sides.
-/
import Derived.Test.YtlmbhkmaflhagaaP31
namespace Go.Proofs.Ytlmbhkmaflhagaa
theorem mem_lst {x : Nat} {y : Int} : y ∈ lst x ↔ ∃ a : Nat, a < 7 ∧ x.testBit a = true ∧ (a : Int) = y := by
  simp only [lst, List.mem_map, List.mem_filter, List.mem_range, and_assoc]
theorem tb_lt {x n a : Nat} (hx : x < 2 ^ n) (h : x.testBit a = true) : a < n := by
  rcases Nat.lt_or_ge a n with h1 | h1
  · exact h1
  · have h2 : x < 2 ^ a := Nat.lt_of_lt_of_le hx (Nat.pow_le_pow_right (by omega) h1)
    rw [Nat.testBit_lt_two_pow h2] at h
    cases h
theorem lt128 {x n : Nat} (hn : n ≤ 7) (hx : x < 2 ^ n) : x < 128 := by
  have h1 : 2 ^ n ≤ 2 ^ 7 := Nat.pow_le_pow_right (by omega) hn
  have h2 : 2 ^ 7 = 128 := by decide
  omega
theorem lst_rising {x n : Nat} (hn : n ≤ 7) (hx : x < 2 ^ n) : risingB (lst x) 0 ((n : Int) - 1) = true := by
  obtain ⟨⟨_, h2, _⟩, _⟩ := chkB_at (lt128 hn hx)
  refine risingB_iff.2 ⟨fun y hy => ?_, (risingB_iff.1 h2).2⟩
  obtain ⟨a, _, h3, rfl⟩ := mem_lst.1 hy
  have := tb_lt hx h3
  omega
theorem lst_len (x : Nat) : (lst x).length ≤ 7 := by
  have h := List.length_filter_le x.testBit (List.range 7)
  simp only [List.length_range] at h
  simp only [lst, List.length_map]
  exact h
theorem lst_low (x : Nat) : Low1 (lst x) := by
  have := lst_len x
  unfold Low1
  omega
theorem lst_places {x n : Nat} (hn : n ≤ 7) (hx : x < 2 ^ n) : Places (lst x) n := Places.of (lst_low x) (lst_rising hn hx)
theorem lst_pos {x n : Nat} (hn : n ≤ 7) (hx : x < 2 ^ n) (h0 : 0 < x) : 0 < (lst x).length := (chkB_at (lt128 hn hx)).1.2.2 h0
theorem lst_zero : lst 0 = [] := by decide
theorem or_lt {x n a : Nat} (hx : x < 2 ^ n) (ha : a < n) : x ||| 2 ^ a < 2 ^ n := Nat.or_lt_two_pow hx (Nat.pow_lt_pow_right (by omega) ha)
theorem or_tb (x a b : Nat) : (x ||| 2 ^ a).testBit b = (x.testBit b || decide (a = b)) := by rw [Nat.testBit_or, Nat.testBit_two_pow]
theorem or_gt {x a : Nat} (h : x.testBit a = false) : x < x ||| 2 ^ a := by
  have h1 : x ≤ x ||| 2 ^ a := Nat.left_le_or
  rcases Nat.lt_or_eq_of_le h1 with h2 | h2
  · exact h2
  · have h3 := or_tb x a a
    rw [← h2, h] at h3
    simp at h3
theorem srv_spec {ds : List (List Int)} {j : Nat} {s : List Int} (h0 : 0 < s.length) : (∃ k, k < s.length ∧ srv ds j s = pl s k) ∧ ∀ k, k < s.length → near ds s j ≤ at2 ds j (pl s k) := by
  have key : ∀ m, m ≤ s.length → (∃ k, k < s.length ∧ (List.range m).foldl (srvStep ds j s) (pl s 0) = pl s k) ∧ ∀ k, k < m → at2 ds j ((List.range m).foldl (srvStep ds j s) (pl s 0)) ≤ at2 ds j (pl s k) := by
    intro m
    induction m with
    | zero => exact fun _ => ⟨⟨0, h0, rfl⟩, fun k hk => absurd hk (Nat.not_lt_zero k)⟩
    | succ m ih =>
      intro hm
      obtain ⟨h1, h2⟩ := ih (by omega)
      rw [foldl_range_succ]
      generalize (List.range m).foldl (srvStep ds j s) (pl s 0) = b at h1 h2 ⊢
      unfold srvStep
      by_cases hq : at2 ds j (pl s m) < at2 ds j b
      · rw [if_pos hq]
        refine ⟨⟨m, by omega, rfl⟩, fun k hk => ?_⟩
        by_cases e : k = m
        · rw [e]; exact Int.le_refl _
        · have := h2 k (by omega); omega
      · rw [if_neg hq]
        refine ⟨h1, fun k hk => ?_⟩
        by_cases e : k = m
        · rw [e]; omega
        · exact h2 k (by omega)
  exact key s.length (Nat.le_refl _)
theorem near_mono {ds : List (List Int)} {j : Nat} {s t : List Int} (h0 : 0 < s.length) (h1 : 0 < t.length) (h : ∀ y ∈ s, y ∈ t) : near ds t j ≤ near ds s j := by
  obtain ⟨⟨k, hk, e⟩, _⟩ := srv_spec (ds := ds) (j := j) h0
  obtain ⟨_, h3⟩ := srv_spec (ds := ds) (j := j) h1
  obtain ⟨i, hi, e2⟩ := List.getElem_of_mem (h _ (getD_mem (d := 0) hk))
  have e3 : pl t i = pl s k := by
    unfold pl
    rw [List.getD_eq_getElem?_getD, List.getElem?_eq_getElem hi, Option.getD_some, e2]
  have := h3 i hi
  rw [e3] at this
  unfold near at this ⊢
  rw [e]
  exact this
def wish (ds : List (List Int)) (x i a : Nat) : Int := (List.range i).foldl (fun s j => s + max (near ds (lst x) j - at2 ds j a) 0) 0
def wstep (o : List Int) (ds : List (List Int)) (x i : Nat) (v : Int × Int) (a : Nat) : Int × Int :=
  bif x.testBit a then v else if v.2 < wish ds x i a - o.getD a 0 then ((a : Int), wish ds x i a - o.getD a 0) else v
def wanted (o : List Int) (ds : List (List Int)) (x i : Nat) : Int := ((List.range o.length).foldl (wstep o ds x i) (-1, 0)).1
theorem wanted_spec (o : List Int) (ds : List (List Int)) (x i : Nat) : (wanted o ds x i = -1 ∧ ∀ a, a < o.length → x.testBit a = false → wish ds x i a ≤ o.getD a 0) ∨ ∃ a : Nat, a < o.length ∧ wanted o ds x i = (a : Int) ∧ x.testBit a = false := by
  have key : ∀ k, (((List.range k).foldl (wstep o ds x i) (-1, 0)).1 = -1 ∧ ((List.range k).foldl (wstep o ds x i) (-1, 0)).2 = 0 ∧ ∀ a, a < k → x.testBit a = false → wish ds x i a ≤ o.getD a 0) ∨ ∃ a : Nat, a < k ∧ ((List.range k).foldl (wstep o ds x i) (-1, 0)).1 = (a : Int) ∧ x.testBit a = false := by
    intro k
    induction k with
    | zero => exact .inl ⟨rfl, rfl, fun a ha => absurd ha (Nat.not_lt_zero a)⟩
    | succ k ih =>
      rw [foldl_range_succ]
      generalize (List.range k).foldl (wstep o ds x i) (-1, 0) = v at ih ⊢
      unfold wstep
      cases hb : x.testBit k with
      | true =>
        simp only [cond_true]
        rcases ih with ⟨h1, h2, h3⟩ | ⟨a, h1, h2⟩
        · refine .inl ⟨h1, h2, fun a ha hf => ?_⟩
          by_cases e : a = k
          · rw [e, hb] at hf; cases hf
          · exact h3 a (by omega) hf
        · exact .inr ⟨a, by omega, h2⟩
      | false =>
        simp only [cond_false]
        by_cases hq : v.2 < wish ds x i k - o.getD k 0
        · rw [if_pos hq]
          exact .inr ⟨k, by omega, rfl, hb⟩
        · rw [if_neg hq]
          rcases ih with ⟨h1, h2, h3⟩ | ⟨a, h1, h2⟩
          · refine .inl ⟨h1, h2, fun a ha hf => ?_⟩
            by_cases e : a = k
            · rw [e]; omega
            · exact h3 a (by omega) hf
          · exact .inr ⟨a, by omega, h2⟩
  unfold wanted
  exact (key o.length).imp (fun h => ⟨h.1, h.2.2⟩) id
def grow (o : List Int) (ds : List (List Int)) (i : Nat) : Nat → Nat × List Int → Nat × List Int
  | 0, v => v
  | k + 1, v => if wanted o ds v.1 i < 0 then v else grow o ds i k (v.1 ||| 2 ^ (wanted o ds v.1 i).toNat, v.2 ++ [wanted o ds v.1 i])
def fstep (o : List Int) (ds : List (List Int)) (i : Nat) (b a : Nat) : Nat := if o.getD a 0 + at2 ds i a < o.getD b 0 + at2 ds i b then a else b
theorem grow_stop {o : List Int} {ds : List (List Int)} {i : Nat} {k : Nat} {v : Nat × List Int} (h : wanted o ds v.1 i < 0) : grow o ds i (k + 1) v = v := if_pos h
theorem grow_next {o : List Int} {ds : List (List Int)} {i k a x : Nat} {row : List Int} (h : wanted o ds x i = (a : Int)) : grow o ds i (k + 1) (x, row) = grow o ds i k (x ||| 2 ^ a, row ++ [(a : Int)]) := by
  have h1 : ¬ wanted o ds x i < 0 := by omega
  have h2 : (wanted o ds x i).toNat = a := by omega
  show (if wanted o ds x i < 0 then (x, row) else grow o ds i k (x ||| 2 ^ (wanted o ds x i).toNat, row ++ [wanted o ds x i])) = _
  rw [if_neg h1, h2, h]
def first (o : List Int) (ds : List (List Int)) (i : Nat) : Nat := (List.range o.length).foldl (fstep o ds i) 0
theorem first_lt {o : List Int} (h : 0 < o.length) (ds : List (List Int)) (i : Nat) : first o ds i < o.length :=
  foldl_inv (fun b => b < o.length) (fun b a ha hb => by unfold fstep; split; · exact List.mem_range.1 ha
                                                         · exact hb) h
def start (o : List Int) (ds : List (List Int)) (x i : Nat) : Nat × List Int := if x = 0 then (2 ^ first o ds i, [(first o ds i : Int)]) else (x, [])
def adds (n : Nat) : Nat → List Int → Nat → Prop
  | x, [], x' => x = x'
  | x, y :: ys, x' => ∃ a : Nat, y = (a : Int) ∧ a < n ∧ x.testBit a = false ∧ adds n (x ||| 2 ^ a) ys x'
theorem adds_snoc {n : Nat} {a : Nat} (ha : a < n) : ∀ (ys : List Int) {x x' : Nat}, adds n x ys x' → x'.testBit a = false → adds n x (ys ++ [(a : Int)]) (x' ||| 2 ^ a)
  | [], x, x', h, hb => by cases h; exact ⟨a, rfl, ha, hb, rfl⟩
  | y :: ys, x, x', h, hb => by
    obtain ⟨b, h1, h2, h3, h4⟩ := h
    exact ⟨b, h1, h2, h3, adds_snoc ha ys h4 hb⟩
theorem adds_mono {n : Nat} : ∀ (ys : List Int) {x x' : Nat}, adds n x ys x' → ∀ a, x.testBit a = true → x'.testBit a = true
  | [], x, x', h, a, ha => by cases h; exact ha
  | y :: ys, x, x', h, a, ha => by
    obtain ⟨b, _, _, _, h4⟩ := h
    exact adds_mono ys h4 a (by rw [or_tb, ha]; rfl)
theorem adds_len {n : Nat} : ∀ (ys : List Int) {x x' : Nat}, adds n x ys x' → ys.length + x ≤ x'
  | [], x, x', h => by cases h; simp
  | y :: ys, x, x', h => by
    obtain ⟨b, _, _, h3, h4⟩ := h
    have := adds_len ys h4
    have := or_gt h3
    simp only [List.length_cons]
    omega
theorem adds_mem {n : Nat} : ∀ (ys : List Int) {x x' : Nat}, adds n x ys x' → ∀ y ∈ ys, ∃ a : Nat, y = (a : Int) ∧ a < n
  | [], x, x', h, y, hy => by cases hy
  | z :: ys, x, x', h, y, hy => by
    obtain ⟨b, h1, h2, _, h4⟩ := h
    rcases List.mem_cons.1 hy with rfl | hy
    · exact ⟨b, h1, h2⟩
    · exact adds_mem ys h4 y hy
theorem adds_places {n : Nat} {ys : List Int} {x x' : Nat} (h : adds n x ys x') (hx : x' < 128) : Places ys n := by
  have := adds_len ys h
  refine ⟨by omega, fun i hi => ?_⟩
  obtain ⟨a, h1, h2⟩ := adds_mem ys h _ (getD_mem (d := 0) hi)
  omega
theorem grow_spec {o : List Int} (hn : o.length ≤ 7) (ds : List (List Int)) (i : Nat) : ∀ (K x : Nat) (x0 : Nat) (row : List Int), 0 < x → x < 2 ^ o.length → 128 ≤ x + K → adds o.length x0 row x →
    adds o.length x0 (grow o ds i K (x, row)).2 (grow o ds i K (x, row)).1 ∧ 0 < (grow o ds i K (x, row)).1 ∧ (grow o ds i K (x, row)).1 < 2 ^ o.length ∧ wanted o ds (grow o ds i K (x, row)).1 i < 0 ∧ ∀ a, x.testBit a = true → (grow o ds i K (x, row)).1.testBit a = true
  | 0, x, x0, row, h0, hx, hK, ha => by have := lt128 hn hx; omega
  | K + 1, x, x0, row, h0, hx, hK, ha => by
    unfold grow
    by_cases hw : wanted o ds x i < 0
    · rw [if_pos hw]
      exact ⟨ha, h0, hx, hw, fun a h => h⟩
    · rw [if_neg hw]
      rcases wanted_spec o ds x i with ⟨h1, _⟩ | ⟨a, h1, h2, h3⟩
      · omega
      · have e : (wanted o ds x i).toNat = a := by omega
        have hg := or_gt h3
        simp only [e, h2]
        obtain ⟨k1, k2, k3, k4, k5⟩ := grow_spec hn ds i K (x ||| 2 ^ a) x0 (row ++ [(a : Int)]) (by omega) (or_lt hx h1) (by omega) (adds_snoc h1 row ha h3)
        exact ⟨k1, k2, k3, k4, fun b hb => k5 b (by rw [or_tb, hb]; rfl)⟩
theorem start_adds {o : List Int} (h : 0 < o.length) (ds : List (List Int)) {x : Nat} (hx : x < 2 ^ o.length) (i : Nat) : adds o.length x (start o ds x i).2 (start o ds x i).1 ∧ 0 < (start o ds x i).1 ∧ (start o ds x i).1 < 2 ^ o.length := by
  unfold start
  have hf := first_lt h ds i
  by_cases e : x = 0
  · rw [if_pos e, e]
    refine ⟨⟨first o ds i, rfl, hf, by simp, ?_⟩, Nat.two_pow_pos _, Nat.pow_lt_pow_right (by omega) hf⟩
    show 0 ||| 2 ^ first o ds i = 2 ^ first o ds i
    rw [Nat.zero_or]
  · rw [if_neg e]
    exact ⟨rfl, by show 0 < x; omega, hx⟩
def client (o : List Int) (ds : List (List Int)) (x i : Nat) : Nat × List Int := grow o ds (i + 1) 128 (start o ds x i)
theorem client_spec {o : List Int} (h : 0 < o.length) (hn : o.length ≤ 7) (ds : List (List Int)) {x : Nat} (hx : x < 2 ^ o.length) (i : Nat) :
    adds o.length x (client o ds x i).2 (client o ds x i).1 ∧ 0 < (client o ds x i).1 ∧ (client o ds x i).1 < 2 ^ o.length ∧ wanted o ds (client o ds x i).1 (i + 1) < 0 := by
  obtain ⟨h1, h2, h3⟩ := start_adds h ds hx i
  obtain ⟨k1, k2, k3, k4, _⟩ := grow_spec hn ds (i + 1) 128 _ x _ h2 h3 (by omega) h1
  exact ⟨k1, k2, k3, k4⟩
def opn (o : List Int) (ds : List (List Int)) : Nat → Nat
  | 0 => 0
  | k + 1 => (client o ds (opn o ds k) k).1
def rowsTo (o : List Int) (ds : List (List Int)) (k : Nat) : List (List Int) := (List.range k).map fun i => (client o ds (opn o ds i) i).2
def lensTo (o : List Int) (ds : List (List Int)) (k : Nat) : List Int := (List.range k).map fun i => near ds (lst (opn o ds (i + 1))) i
theorem opn_lt {o : List Int} (h : 0 < o.length) (hn : o.length ≤ 7) (ds : List (List Int)) : ∀ k, opn o ds k < 2 ^ o.length
  | 0 => Nat.two_pow_pos _
  | k + 1 => (client_spec h hn ds (opn_lt h hn ds k) k).2.2.1
theorem rowsTo_succ (o : List Int) (ds : List (List Int)) (k : Nat) : rowsTo o ds (k + 1) = rowsTo o ds k ++ [(client o ds (opn o ds k) k).2] := by simp [rowsTo, List.range_succ]
theorem lensTo_succ (o : List Int) (ds : List (List Int)) (k : Nat) : lensTo o ds (k + 1) = lensTo o ds k ++ [near ds (lst (opn o ds (k + 1))) k] := by simp [lensTo, List.range_succ]
theorem rowsTo_getD {o : List Int} {ds : List (List Int)} {k i : Nat} (h : i < k) : (rowsTo o ds k).getD i [] = (client o ds (opn o ds i) i).2 := by
  rw [rowsTo, List.getD_eq_getElem?_getD, List.getElem?_map, List.getElem?_range h]
  rfl
theorem wish_in {o : List Int} {ds : List (List Int)} (hf : Fld o ds) {x : Nat} (hx : x < 2 ^ o.length) (h0 : 0 < x) {i : Nat} (hi : i ≤ ds.length) {a : Nat} (ha : a < o.length) : 0 ≤ wish ds x i a ∧ wish ds x i a ≤ (i : Int) * 99 := by
  have hp := lst_places hf.len hx
  have hl := lst_pos hf.len hx h0
  have := sum_bound (l := List.range i) (f := fun j => max (near ds (lst x) j - at2 ds j a) 0) (B := 99) (fun j hj => by
    have hj' := List.mem_range.1 hj
    have h1 := near_in hf hp hl (j := j) (by omega)
    have h2 := hf.at2 (j := j) (by omega) ha
    omega) 0
  simp only [List.length_range, Int.zero_add] at this
  exact this
theorem im8_eq {o : List Int} {ds : List (List Int)} (hf : Fld o ds) {x i a : Nat} (hx : x < 2 ^ o.length) (h0 : 0 < x) (hi : i < ds.length) (ha : a < o.length) (p2 : Int) (p3 : List Int) (p4 p5 : Int) (p7 : List (List Int)) (p8 p9 p10 p11 : Int) (p15 : (List (List Int)) × ((List Int) × (List Int))) :
    L_zh_8 ((x : Int), (p2, (p3, (p4, (p5, ((a : Int), (p7, (p8, (p9, (p10, (p11, ((i : Int) + 1, (o, (ds, p15)))))))))))))) (0 - o.getD a 0, (0 : Int)) = some (wish ds x (i + 1) a - o.getD a 0) := by
  have hp := lst_places hf.len hx
  have hl := lst_pos hf.len hx h0
  have hb := chkB_at (lt128 hf.len hx)
  have hc := hf.cost a ha
  have hm := hf.clients
  exact (iter_fold (f := fun v => (S_zh_8 ((x : Int), (p2, (p3, (p4, (p5, ((a : Int), (p7, (p8, (p9, (p10, (p11, ((i : Int) + 1, (o, (ds, p15)))))))))))))) v).ev) (n := i + 1) (mk := fun j s => (s - o.getD a 0, (j : Int))) (I := fun j s => 0 ≤ s ∧ s ≤ (j : Int) * 99)
    (g := fun s j => s + max (near ds (lst x) j - at2 ds j a) 0) (fin := fun s => s - o.getD a 0) (s0 := 0) (by simp)
    (fun j s hj hs => by
      have hjm : j < ds.length := by omega
      have h1 : 0 ≤ (ds.getD j []).getD (srv ds j (lst x)) 0 ∧ (ds.getD j []).getD (srv ds j (lst x)) 0 ≤ 99 := near_in hf hp hl hjm
      have h2 : 0 ≤ (ds.getD j []).getD a 0 ∧ (ds.getD j []).getD a 0 ≤ 99 := hf.at2 hjm ha
      have h3 := srv_lt (ds := ds) (j := j) hp hl
      have h4 := hf.rowLen j hjm
      have hji : (j : Int) < (i : Int) + 1 := by omega
      have hmx : (if (0 : Int) < (ds.getD j []).getD (srv ds j (lst x)) 0 - (ds.getD j []).getD a 0 then (ds.getD j []).getD (srv ds j (lst x)) 0 - (ds.getD j []).getD a 0 else 0) = max ((ds.getD j []).getD (srv ds j (lst x)) 0 - (ds.getD j []).getD a 0) 0 := by split <;> omega
      have hI : 0 ≤ s + max ((ds.getD j []).getD (srv ds j (lst x)) 0 - (ds.getD j []).getD a 0) 0 ∧ s + max ((ds.getD j []).getD (srv ds j (lst x)) 0 - (ds.getD j []).getD a 0) 0 ≤ ((j + 1 : Nat) : Int) * 99 := by omega
      refine ⟨?_, hI⟩
      simp (disch := omega) only [EV, S_zh_8, hji, hjm, hb.1.1, server_eq hf hp hl hjm, h3, h4, ha, hmx]
      have e : s - o.getD a 0 + max ((ds.getD j []).getD (srv ds j (lst x)) 0 - (ds.getD j []).getD a 0) 0 = s + max ((ds.getD j []).getD (srv ds j (lst x)) 0 - (ds.getD j []).getD a 0) 0 - o.getD a 0 := by omega
      rw [e]
      rfl)
    (fun s _ => by
      have hji : ¬ ((i + 1 : Nat) : Int) < (i : Int) + 1 := by omega
      simp (disch := omega) only [EV, S_zh_8, hji])).1
theorem wstep_in {o : List Int} {ds : List (List Int)} (hf : Fld o ds) {x : Nat} (hx : x < 2 ^ o.length) (h0 : 0 < x) {i : Nat} (hi : i ≤ ds.length) {a : Nat} (ha : a < o.length) {v : Int × Int} (hv : 0 ≤ v.2 ∧ v.2 ≤ 693) : 0 ≤ (wstep o ds x i v a).2 ∧ (wstep o ds x i v a).2 ≤ 693 := by
  have h1 := wish_in hf hx h0 hi ha
  have h2 := hf.cost a ha
  have h3 := hf.clients
  unfold wstep
  cases x.testBit a with
  | true => exact hv
  | false =>
    simp only [cond_false]
    split
    · simp only
      omega
    · exact hv
theorem im6_eq {o : List Int} {ds : List (List Int)} (hf : Fld o ds) {x i : Nat} (hx : x < 2 ^ o.length) (h0 : 0 < x) (hi : i < ds.length) (p3 : List Int) (p4 : List (List Int)) (p5 p6 : Int) (p10 : (List (List Int)) × ((List Int) × (List Int))) :
    L_zh_6 ((x : Int), ((i : Int), (p3, (p4, (p5, (p6, ((o.length : Int), (o, (ds, p10))))))))) ((-1 : Int), ((0 : Int), (0 : Int))) = some (wanted o ds x (i + 1)) := by
  have hb := chkB_at (lt128 hf.len hx)
  have hm := hf.clients
  have hn := hf.len
  exact (iter_fold (f := fun v => (S_zh_6 ((x : Int), ((i : Int), (p3, (p4, (p5, (p6, ((o.length : Int), (o, (ds, p10))))))))) v).ev) (n := o.length) (mk := fun a (v : Int × Int) => (v.1, (v.2, (a : Int)))) (I := fun _ v => 0 ≤ v.2 ∧ v.2 ≤ 693)
    (g := wstep o ds x (i + 1)) (fin := fun v => v.1) (s0 := (-1, 0)) (by simp)
    (fun a v ha hv => by
      refine ⟨?_, wstep_in hf hx h0 (by omega) ha hv⟩
      have h1 := wish_in hf hx h0 (i := i + 1) (by omega) ha
      have h2 := hf.cost a ha
      have hh := (hb.2 a (by omega)).1
      cases hbit : x.testBit a with
      | true =>
        have e : wstep o ds x (i + 1) v a = v := by unfold wstep; rw [hbit]; rfl
        simp (disch := omega) only [EV, S_zh_6, ha, hh, hbit, e]
        rfl
      | false =>
        by_cases hq : v.2 < wish ds x (i + 1) a - o.getD a 0
        · have e : wstep o ds x (i + 1) v a = ((a : Int), wish ds x (i + 1) a - o.getD a 0) := by unfold wstep; rw [hbit]; exact if_pos hq
          simp (disch := omega) only [EV, S_zh_6, ha, hh, hbit, im8_eq hf hx h0 hi ha, hq, e]
          rfl
        · have e : wstep o ds x (i + 1) v a = v := by unfold wstep; rw [hbit]; exact if_neg hq
          simp (disch := omega) only [EV, S_zh_6, ha, hh, hbit, im8_eq hf hx h0 hi ha, hq, e]
          rfl)
    (fun v _ => by simp (disch := omega) only [EV, S_zh_6, Nat.lt_irrefl])).1
theorem im4_eq {o : List Int} {ds : List (List Int)} (hf : Fld o ds) {i : Nat} (hi : i < ds.length) (p2 : List Int) (p3 : List (List Int)) (p4 p5 : Int) (p8 : (List (List Int)) × (List Int)) : ∀ (K x : Nat) (row : List Int), 0 < x → x < 2 ^ o.length → 128 ≤ x + K → row.length ≤ x →
    L_zh_4 ((i : Int), (p2, (p3, (p4, (p5, (o, (ds, p8))))))) ((x : Int), row) = some (((grow o ds (i + 1) K (x, row)).1 : Int), (grow o ds (i + 1) K (x, row)).2)
  | 0, x, row, h0, hx, hK, hr => by have := lt128 hf.len hx; omega
  | K + 1, x, row, h0, hx, hK, hr => by
    have h128 := lt128 hf.len hx
    have hn := hf.len
    unfold L_zh_4
    rw [iter_eq]
    rcases wanted_spec o ds x (i + 1) with ⟨h1, _⟩ | ⟨a, h1, h2, h3⟩
    · have e : grow o ds (i + 1) (K + 1) (x, row) = (x, row) := grow_stop (by show wanted o ds x (i + 1) < 0; rw [h1]; decide)
      have hneg : ((-1 : Int) < 0) := by decide
      simp (disch := omega) only [EV, S_zh_4, im6_eq hf hx h0 hi, h1, hneg, e]
    · have hneg : ¬ (a : Int) < 0 := by omega
      have e : grow o ds (i + 1) (K + 1) (x, row) = grow o ds (i + 1) K (x ||| 2 ^ a, row ++ [(a : Int)]) := grow_next h2
      have hg := or_gt h3
      have hor := ((chkB_at h128).2 a (by omega)).2.2.2
      have r1 := room8 row (a : Int) (by omega)
      have g0 : (0 : Int) ≤ (a : Int) := by omega
      have ih := im4_eq hf hi p2 p3 p4 p5 p8 K (x ||| 2 ^ a) (row ++ [(a : Int)]) (by omega) (or_lt hx h1) (by omega) (by simp; omega)
      have hst : (S_zh_4 ((i : Int), (p2, (p3, (p4, (p5, (o, (ds, p8))))))) ((x : Int), row)).ev = some (.inl (((x ||| 2 ^ a : Nat) : Int), row ++ [(a : Int)])) := by
        simp (disch := omega) only [EV, S_zh_4, im6_eq hf hx h0 hi, h2, hneg, r1, g0, hor]
      rw [hst, e]
      exact ih
theorem im2_eq {o : List Int} {ds : List (List Int)} (hf : Fld o ds) {i : Nat} (hi : i < ds.length) (p1 : Int) (p3 : List (List Int)) (p4 p5 : Int) (p9 : (List (List Int)) × ((List (List Int)) × ((List Int) × (List Int)))) :
    L_zh_2 (p1, (ds.getD i [], (p3, (p4, (p5, (ds.getD i [], ((o.length : Int), (o, p9)))))))) ((0 : Int), (0 : Int)) = some (first o ds i : Int) := by
  have hl := hf.rowLen i hi
  exact (iter_fold (f := fun v => (S_zh_2 (p1, (ds.getD i [], (p3, (p4, (p5, (ds.getD i [], ((o.length : Int), (o, p9)))))))) v).ev) (n := o.length) (mk := fun a (b : Nat) => ((b : Int), (a : Int))) (I := fun _ b => b < o.length)
    (g := fstep o ds i) (fin := fun b => (b : Int)) (s0 := 0) hf.pos
    (fun a b ha hb => by
      have h1 := hf.cost a ha
      have h2 := hf.cost b hb
      have h3 : 0 ≤ (ds.getD i []).getD a 0 ∧ (ds.getD i []).getD a 0 ≤ 99 := hf.at2 hi ha
      have h4 : 0 ≤ (ds.getD i []).getD b 0 ∧ (ds.getD i []).getD b 0 ≤ 99 := hf.at2 hi hb
      have hn := hf.len
      by_cases hq : o.getD a 0 + (ds.getD i []).getD a 0 < o.getD b 0 + (ds.getD i []).getD b 0
      · have e : fstep o ds i b a = a := if_pos hq
        refine ⟨?_, by rw [e]; exact ha⟩
        simp (disch := omega) only [EV, S_zh_2, ha, hb, hl, hq, e]
        rfl
      · have e : fstep o ds i b a = b := if_neg hq
        refine ⟨?_, by rw [e]; exact hb⟩
        simp (disch := omega) only [EV, S_zh_2, ha, hb, hl, hq, e]
        rfl)
    (fun b _ => by simp (disch := omega) only [EV, S_zh_2, Nat.lt_irrefl])).1
theorem im_step {o : List Int} {ds : List (List Int)} (hf : Fld o ds) {x i : Nat} (hx : x < 2 ^ o.length) (hi : i < ds.length) {rows : List (List Int)} {lens : List Int} (hr : rows.length ≤ 1000) (hlen : lens.length ≤ 1000) :
    (S_zh_0 (ds, ((ds.length : Int), (o, ds))) ((x : Int), ((i : Int), (rows, lens)))).ev = some (.inl (((client o ds x i).1 : Int), (((i + 1 : Nat) : Int), (rows ++ [(client o ds x i).2], lens ++ [near ds (lst (client o ds x i).1) i])))) := by
  obtain ⟨_, g1, g2, _⟩ := client_spec hf.pos hf.len ds hx i
  obtain ⟨_, s1, s2⟩ := start_adds hf.pos ds hx i
  have hn := hf.len
  have hm := hf.clients
  have hl := hf.rowLen i hi
  have hfl := first_lt hf.pos ds i
  have hcl : client o ds x i = grow o ds (i + 1) 128 (start o ds x i) := rfl
  have hpl := lst_places hf.len g2
  have hpp := lst_pos hf.len g2 g1
  have hbl := (chkB_at (lt128 hf.len g2)).1.1
  have hsv := srv_lt (ds := ds) (j := i) hpl hpp
  generalize hG : client o ds x i = G at *
  have r1 := room24' rows G.2 (by omega)
  have r2 := room8 lens ((ds.getD i []).getD (srv ds i (lst G.1)) 0) (by omega)
  by_cases hz : x = 0
  · have hz' : ((x : Int) == (0 : Int)) = true := by rw [hz]; rfl
    have es : start o ds x i = (2 ^ first o ds i, [(first o ds i : Int)]) := if_pos hz
    rw [es] at hcl s1 s2
    have r0 := room8 [] (first o ds i : Int) (by simp)
    have g0 : (0 : Int) ≤ (first o ds i : Int) := by omega
    have h1 : ([(first o ds i : Int)] : List Int).length ≤ 2 ^ first o ds i := s1
    have e4 := fun p2 p3 p4 p5 p8 => im4_eq hf hi p2 p3 p4 p5 p8 128 (2 ^ first o ds i) [(first o ds i : Int)] s1 s2 (by omega) h1
    rw [← hcl] at e4
    simp (disch := omega) only [EV, S_zh_0, hi, hz', hl, im2_eq hf hi, r0, g0, one_eq (first o ds i) (by omega), List.nil_append, e4, r1, hbl, server_eq hf hpl hpp hi, hsv, r2]
    rfl
  · have hz' : ((x : Int) == (0 : Int)) = false := by rw [beq_eq_false_iff_ne]; omega
    have es : start o ds x i = (x, []) := if_neg hz
    rw [es] at hcl s1 s2
    have e4 := fun p2 p3 p4 p5 p8 => im4_eq hf hi p2 p3 p4 p5 p8 128 x [] s1 s2 (by omega) (by simp)
    rw [← hcl] at e4
    simp (disch := omega) only [EV, S_zh_0, hi, hz', hl, e4, r1, hbl, server_eq hf hpl hpp hi, hsv, r2]
    rfl
theorem im_online_eq {o : List Int} {ds : List (List Int)} (hf : Fld o ds) : F_zh o ds = some (rowsTo o ds ds.length, lensTo o ds ds.length) := by
  have hm := hf.clients
  obtain ⟨r, h1, h2⟩ := iter_cnt (f := fun v => (S_zh_0 (ds, ((ds.length : Int), (o, ds))) v).ev) (n := ds.length)
    (fun i v => v = ((opn o ds i : Int), ((i : Int), (rowsTo o ds i, lensTo o ds i)))) (fun r => r = (rowsTo o ds ds.length, lensTo o ds ds.length))
    (fun i v hi hv => by
      subst hv
      refine ⟨_, im_step hf (opn_lt hf.pos hf.len ds i) hi (by simp [rowsTo]; omega) (by simp [lensTo]; omega), ?_⟩
      rw [rowsTo_succ, lensTo_succ]
      rfl)
    (fun v hv => by
      subst hv
      exact ⟨_, by simp (disch := omega) only [EV, S_zh_0, Nat.lt_irrefl], rfl⟩)
    (v := ((0 : Int), ((0 : Int), (([] : List (List Int)), ([] : List Int))))) rfl
  rw [h2] at h1
  have h1' : L_zh_0 (ds, ((ds.length : Int), (o, ds))) ((0 : Int), ((0 : Int), (([] : List (List Int)), ([] : List Int)))) = some (rowsTo o ds ds.length, lensTo o ds ds.length) := h1
  unfold F_zh T_zh
  simp (disch := omega) only [EV, h1']
theorem l10Wishes_eq {o : List Int} {ds : List (List Int)} (hf : Fld o ds) {x i a : Nat} (hx : x < 2 ^ o.length) (h0 : 0 < x) (hi : i < ds.length) (ha : a < o.length) : F_zbl o ds ((i : Int) + 1) (lst x) (a : Int) = some (wish ds x (i + 1) a) := by
  have hp := lst_places hf.len hx
  have hl := lst_pos hf.len hx h0
  have hm := hf.clients
  have h := (iter_fold (f := fun v => (S_zbl_0 ((i : Int) + 1, (lst x, ((a : Int), (o, ds)))) v).ev) (n := i + 1) (mk := fun j s => (s, (j : Int))) (I := fun j s => 0 ≤ s ∧ s ≤ (j : Int) * 99)
    (g := fun s j => s + max (near ds (lst x) j - at2 ds j a) 0) (fin := fun s => s) (s0 := 0) (by simp)
    (fun j s hj hs => by
      have hjm : j < ds.length := by omega
      have h1 := near_in hf hp hl hjm
      have h2 : 0 ≤ (ds.getD j []).getD a 0 ∧ (ds.getD j []).getD a 0 ≤ 99 := hf.at2 hjm ha
      have h4 := hf.rowLen j hjm
      have hji : (j : Int) < (i : Int) + 1 := by omega
      have hI : 0 ≤ s + max (near ds (lst x) j - (ds.getD j []).getD a 0) 0 ∧ s + max (near ds (lst x) j - (ds.getD j []).getD a 0) 0 ≤ ((j + 1 : Nat) : Int) * 99 := by omega
      refine ⟨?_, hI⟩
      simp (disch := omega) only [EV, S_zbl_0, hji, hjm, l2Nearest_eq hf hp hl hjm, h4, ha, l1Most_eq]
      rfl)
    (fun s _ => by
      have hji : ¬ ((i + 1 : Nat) : Int) < (i : Int) + 1 := by omega
      simp (disch := omega) only [EV, S_zbl_0, hji])).1
  have h' : L_zbl_0 ((i : Int) + 1, (lst x, ((a : Int), (o, ds)))) ((0 : Int), (0 : Int)) = some (wish ds x (i + 1) a) := h
  unfold F_zbl T_zbl
  simp (disch := omega) only [EV, h']
theorem l10Wanted_eq {o : List Int} {ds : List (List Int)} (hf : Fld o ds) {x i : Nat} (hx : x < 2 ^ o.length) (h0 : 0 < x) (hi : i < ds.length) : F_zbk o ds ((i : Int) + 1) (lst x) = some (wanted o ds x (i + 1)) := by
  have hb := chkB_at (lt128 hf.len hx)
  have hm := hf.clients
  have hn := hf.len
  have h := (iter_fold (f := fun v => (S_zbk_0 ((i : Int) + 1, (lst x, (o, ds))) v).ev) (n := o.length) (mk := fun a (v : Int × Int) => (v.1, (v.2, (a : Int)))) (I := fun _ v => 0 ≤ v.2 ∧ v.2 ≤ 693)
    (g := wstep o ds x (i + 1)) (fin := fun v => v.1) (s0 := (-1, 0)) (by simp)
    (fun a v ha hv => by
      refine ⟨?_, wstep_in hf hx h0 (by omega) ha hv⟩
      have h1 := wish_in hf hx h0 (i := i + 1) (by omega) ha
      have h2 := hf.cost a ha
      have hh := (hb.2 a (by omega)).2.1
      cases hbit : x.testBit a with
      | true =>
        have e : wstep o ds x (i + 1) v a = v := by unfold wstep; rw [hbit]; rfl
        simp (disch := omega) only [EV, S_zbk_0, ha, hh, hbit, e]
        rfl
      | false =>
        by_cases hq : v.2 < wish ds x (i + 1) a - o.getD a 0
        · have e : wstep o ds x (i + 1) v a = ((a : Int), wish ds x (i + 1) a - o.getD a 0) := by unfold wstep; rw [hbit]; exact if_pos hq
          simp (disch := omega) only [EV, S_zbk_0, ha, hh, hbit, l10Wishes_eq hf hx h0 hi ha, hq, e]
          rfl
        · have e : wstep o ds x (i + 1) v a = v := by unfold wstep; rw [hbit]; exact if_neg hq
          simp (disch := omega) only [EV, S_zbk_0, ha, hh, hbit, l10Wishes_eq hf hx h0 hi ha, hq, e]
          rfl)
    (fun v _ => by simp (disch := omega) only [EV, S_zbk_0, Nat.lt_irrefl])).1
  have h' : L_zbk_0 ((i : Int) + 1, (lst x, (o, ds))) ((-1 : Int), ((0 : Int), (0 : Int))) = some (wanted o ds x (i + 1)) := h
  unfold F_zbk T_zbk
  simp (disch := omega) only [EV, h']
theorem sp2_eq {o : List Int} {ds : List (List Int)} (hf : Fld o ds) {i : Nat} (hi : i < ds.length) (p1 : Int) (p5 : List (List Int)) : ∀ (K x : Nat) (row : List Int), 0 < x → x < 2 ^ o.length → 128 ≤ x + K → row.length ≤ x →
    L_zbj_2 (p1, ((i : Int), (o, (ds, p5)))) (lst x, (wanted o ds x (i + 1), row)) = some (lst (grow o ds (i + 1) K (x, row)).1, (grow o ds (i + 1) K (x, row)).2)
  | 0, x, row, h0, hx, hK, hr => by have := lt128 hf.len hx; omega
  | K + 1, x, row, h0, hx, hK, hr => by
    have h128 := lt128 hf.len hx
    have hn := hf.len
    have hm := hf.clients
    unfold L_zbj_2
    rw [iter_eq]
    rcases wanted_spec o ds x (i + 1) with ⟨h1, _⟩ | ⟨a, h1, h2, h3⟩
    · have e : grow o ds (i + 1) (K + 1) (x, row) = (x, row) := grow_stop (by show wanted o ds x (i + 1) < 0; rw [h1]; decide)
      have hneg : ¬ (0 : Int) ≤ -1 := by decide
      simp (disch := omega) only [EV, S_zbj_2, h1, hneg, e]
    · have hneg : ¬ (a : Int) < 0 := by omega
      have e : grow o ds (i + 1) (K + 1) (x, row) = grow o ds (i + 1) K (x ||| 2 ^ a, row ++ [(a : Int)]) := grow_next h2
      have hg := or_gt h3
      have hput := ((chkB_at h128).2 a (by omega)).2.2.1 h3
      have r1 := room8 row (a : Int) (by omega)
      have g0 : (0 : Int) ≤ (a : Int) := by omega
      have ih := sp2_eq hf hi p1 p5 K (x ||| 2 ^ a) (row ++ [(a : Int)]) (by omega) (or_lt hx h1) (by omega) (by simp; omega)
      have hst : (S_zbj_2 (p1, ((i : Int), (o, (ds, p5)))) (lst x, (wanted o ds x (i + 1), row))).ev = some (.inl (lst (x ||| 2 ^ a), (wanted o ds (x ||| 2 ^ a) (i + 1), row ++ [(a : Int)]))) := by
        simp (disch := omega) only [EV, S_zbj_2, h2, g0, r1, hput, l10Wanted_eq hf (or_lt hx h1) (show 0 < x ||| 2 ^ a by omega) hi]
      rw [hst, e]
      exact ih
theorem l10First_eq {o : List Int} {ds : List (List Int)} (hf : Fld o ds) {i : Nat} (hi : i < ds.length) : F_zbi o ds (i : Int) = some (first o ds i : Int) := by
  have hl := hf.rowLen i hi
  have hpos := hf.pos
  have hn := hf.len
  obtain ⟨n, hn'⟩ : ∃ n, o.length = n + 1 := ⟨o.length - 1, by omega⟩
  have h := (iter_fold (f := fun v => (S_zbi_0 ((i : Int), (o, ds)) v).ev) (n := n) (mk := fun a (b : Nat) => ((b : Int), ((a + 1 : Nat) : Int))) (I := fun _ b => b < o.length)
    (g := fun b a => fstep o ds i b (a + 1)) (fin := fun b => (b : Int)) (s0 := 0) hf.pos
    (fun a b ha hb => by
      have ha' : a + 1 < o.length := by omega
      have h1 := hf.cost (a + 1) ha'
      have h2 := hf.cost b hb
      have h3 : 0 ≤ (ds.getD i []).getD (a + 1) 0 ∧ (ds.getD i []).getD (a + 1) 0 ≤ 99 := hf.at2 hi ha'
      have h4 : 0 ≤ (ds.getD i []).getD b 0 ∧ (ds.getD i []).getD b 0 ≤ 99 := hf.at2 hi hb
      by_cases hq : o.getD (a + 1) 0 + (ds.getD i []).getD (a + 1) 0 < o.getD b 0 + (ds.getD i []).getD b 0
      · have e : fstep o ds i b (a + 1) = a + 1 := if_pos hq
        refine ⟨?_, by rw [e]; exact ha'⟩
        simp (disch := omega) only [EV, S_zbi_0, ha', hb, hi, hl, hq, e]
        rfl
      · have e : fstep o ds i b (a + 1) = b := if_neg hq
        refine ⟨?_, by rw [e]; exact hb⟩
        simp (disch := omega) only [EV, S_zbi_0, ha', hb, hi, hl, hq, e]
        rfl)
    (fun b _ => by
      have hq : ¬ n + 1 < o.length := by omega
      simp (disch := omega) only [EV, S_zbi_0, hq])).1
  have e : first o ds i = (List.range n).foldl (fun b a => fstep o ds i b (a + 1)) 0 := by
    unfold first
    rw [hn', List.range_succ_eq_map, List.foldl_cons, List.foldl_map]
    have : fstep o ds i 0 0 = 0 := by unfold fstep; split <;> rfl
    rw [this]
  have h' : L_zbi_0 ((i : Int), (o, ds)) ((0 : Int), (1 : Int)) = some (first o ds i : Int) := by rw [e]; exact h
  unfold F_zbi T_zbi
  simp (disch := omega) only [EV, h']
theorem sp_step {o : List Int} {ds : List (List Int)} (hf : Fld o ds) {x i : Nat} (hx : x < 2 ^ o.length) (hi : i < ds.length) {rows : List (List Int)} {sum : Int} (hr : rows.length ≤ 1000) (hs : 0 ≤ sum ∧ sum ≤ 1000000) :
    (S_zbj_0 (o, ds) (lst x, (sum, ((i : Int), rows)))).ev = some (.inl (lst (client o ds x i).1, (sum + near ds (lst (client o ds x i).1) i, (((i + 1 : Nat) : Int), rows ++ [(client o ds x i).2])))) := by
  obtain ⟨_, g1, g2, _⟩ := client_spec hf.pos hf.len ds hx i
  obtain ⟨_, s1, s2⟩ := start_adds hf.pos ds hx i
  have hn := hf.len
  have hm := hf.clients
  have hfl := first_lt hf.pos ds i
  have hcl : client o ds x i = grow o ds (i + 1) 128 (start o ds x i) := rfl
  have hpl := lst_places hf.len g2
  have hpp := lst_pos hf.len g2 g1
  have hnr := near_in hf hpl hpp hi
  generalize hG : client o ds x i = G at *
  have r1 := room24 rows (by omega)
  by_cases hz : x = 0
  · have hz' : ((((lst x).length : Nat) : Int) == (0 : Int)) = true := by rw [hz, lst_zero]; rfl
    have es : start o ds x i = (2 ^ first o ds i, [(first o ds i : Int)]) := if_pos hz
    rw [es] at hcl s1 s2
    have r0 := room8 [] (first o ds i : Int) (by simp)
    have h1 : ([(first o ds i : Int)] : List Int).length ≤ 2 ^ first o ds i := s1
    have e4 := fun p1 p5 => sp2_eq hf hi p1 p5 128 (2 ^ first o ds i) [(first o ds i : Int)] s1 s2 (by omega) h1
    rw [← hcl] at e4
    have hput := ((chkB_at (lt128 hf.len hx)).2 (first o ds i) (by omega)).2.2.1 (by rw [hz]; simp)
    have e0 : x ||| 2 ^ first o ds i = 2 ^ first o ds i := by rw [hz, Nat.zero_or]
    rw [e0] at hput
    have z : Int.toNat 0 = 0 := rfl
    have z2 : List.getD [(first o ds i : Int)] 0 0 = (first o ds i : Int) := rfl
    have z3 : inR (0 : Int) (List.length [(first o ds i : Int)]) = true := rfl
    have z4 : decide (0 < List.length [(first o ds i : Int)]) = true := rfl
    simp (disch := omega) only [EV, S_zbj_0, hi, hz', l10First_eq hf hi, r0, List.nil_append, z, z3, z4, z2, hput, l10Wanted_eq hf s2 s1 hi, e4, r1, l2Nearest_eq hf hpl hpp hi, set_end]
    rfl
  · have hz' : ((((lst x).length : Nat) : Int) == (0 : Int)) = false := by
      have := lst_pos hf.len hx (by omega)
      rw [beq_eq_false_iff_ne]
      omega
    have es : start o ds x i = (x, []) := if_neg hz
    rw [es] at hcl s1 s2
    have e4 := fun p1 p5 => sp2_eq hf hi p1 p5 128 x [] s1 s2 (by omega) (by simp)
    rw [← hcl] at e4
    simp (disch := omega) only [EV, S_zbj_0, hi, hz', l10Wanted_eq hf s2 s1 hi, e4, r1, l2Nearest_eq hf hpl hpp hi, set_end]
    rfl
def sumTo (o : List Int) (ds : List (List Int)) (k : Nat) : Int := (lensTo o ds k).foldl (fun a x => a + x) 0
theorem sumTo_succ (o : List Int) (ds : List (List Int)) (k : Nat) : sumTo o ds (k + 1) = sumTo o ds k + near ds (lst (opn o ds (k + 1))) k := by
  unfold sumTo
  rw [lensTo_succ, List.foldl_append]
  rfl
theorem near_opn {o : List Int} {ds : List (List Int)} (hf : Fld o ds) {k : Nat} (hk : k < ds.length) : 0 ≤ near ds (lst (opn o ds (k + 1))) k ∧ near ds (lst (opn o ds (k + 1))) k ≤ 99 := by
  have h := client_spec hf.pos hf.len ds (opn_lt hf.pos hf.len ds k) k
  exact near_in hf (lst_places hf.len h.2.2.1) (lst_pos hf.len h.2.2.1 h.2.1) hk
theorem sumTo_in {o : List Int} {ds : List (List Int)} (hf : Fld o ds) : ∀ k, k ≤ ds.length → 0 ≤ sumTo o ds k ∧ sumTo o ds k ≤ (k : Int) * 99
  | 0, _ => ⟨Int.le_refl _, Int.le_refl _⟩
  | k + 1, hk => by
    have h1 := sumTo_in hf k (by omega)
    have h2 := near_opn hf (k := k) (by omega)
    rw [sumTo_succ]
    omega
theorem sp_online_eq {o : List Int} {ds : List (List Int)} (hf : Fld o ds) : F_zbj o ds = some (sumTo o ds ds.length + pay o (lst (opn o ds ds.length)), rowsTo o ds ds.length) := by
  have hm := hf.clients
  obtain ⟨r, h1, h2⟩ := iter_cnt (f := fun v => (S_zbj_0 (o, ds) v).ev) (n := ds.length)
    (fun i v => v = (lst (opn o ds i), (sumTo o ds i, ((i : Int), rowsTo o ds i)))) (fun r => r = (lst (opn o ds ds.length), (sumTo o ds ds.length, rowsTo o ds ds.length)))
    (fun i v hi hv => by
      subst hv
      have hs := sumTo_in hf i (by omega)
      refine ⟨_, sp_step hf (opn_lt hf.pos hf.len ds i) hi (by simp [rowsTo]; omega) (by omega), ?_⟩
      rw [rowsTo_succ, sumTo_succ]
      rfl)
    (fun v hv => by
      subst hv
      exact ⟨_, by simp (disch := omega) only [EV, S_zbj_0, Nat.lt_irrefl], rfl⟩)
    (v := (([] : List Int), ((0 : Int), ((0 : Int), ([] : List (List Int)))))) (by rw [show opn o ds 0 = 0 from rfl, lst_zero]; rfl)
  rw [h2] at h1
  have h1' : L_zbj_0 (o, ds) (([] : List Int), ((0 : Int), ((0 : Int), ([] : List (List Int))))) = some (lst (opn o ds ds.length), (sumTo o ds ds.length, rowsTo o ds ds.length)) := h1
  have hpl := lst_places hf.len (opn_lt hf.pos hf.len ds ds.length)
  have h3 := pay_in hf hpl
  have h4 := sumTo_in hf ds.length (Nat.le_refl _)
  unfold F_zbj T_zbj
  simp (disch := omega) only [EV, h1', l2Pay_eq hf hpl]
end Go.Proofs.Ytlmbhkmaflhagaa
