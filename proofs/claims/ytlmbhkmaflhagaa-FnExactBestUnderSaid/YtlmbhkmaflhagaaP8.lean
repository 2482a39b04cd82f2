/-
  Plain laws: grounds, metric grounds.
-/
import Derived.Test.YtlmbhkmaflhagaaPM
namespace Go.Proofs.Ytlmbhkmaflhagaa
def at2 (x : List (List Int)) (i j : Nat) : Int := (x.getD i []).getD j 0
def rowOK (x : List (List Int)) (n i : Nat) : Bool := allIn (x.getD i []) 0 99 && (((x.getD i []).length : Int) == (n : Int))
structure Ground (x : List (List Int)) : Prop where
  row : ∀ i, i < x.length → rowOK x x.length i = true
  diag : ∀ i, i < x.length → at2 x i i = 0
  sym : ∀ i j, i < x.length → j < x.length → at2 x i j = at2 x j i
  len : x.length ≤ 7
def groundB (x : List (List Int)) : Bool := ((List.range x.length).all fun i => rowOK x x.length i && at2 x i i == 0 && (List.range i).all fun j => at2 x i j == at2 x j i) && decide ((x.length : Int) ≤ 7)
theorem rowOK_len {x : List (List Int)} {n i : Nat} (h : rowOK x n i = true) : (x.getD i []).length = n := by
  simp only [rowOK, Bool.and_eq_true, beq_iff_eq] at h
  omega
theorem rowOK_in {x : List (List Int)} {n i j : Nat} (h : rowOK x n i = true) (hj : j < n) : 0 ≤ at2 x i j ∧ at2 x i j ≤ 99 := by
  have hl := rowOK_len h
  simp only [rowOK, Bool.and_eq_true] at h
  exact allIn_getD h.1 (by omega)
theorem Ground.in {x : List (List Int)} (h : Ground x) {i j : Nat} (hi : i < x.length) (hj : j < x.length) : 0 ≤ at2 x i j ∧ at2 x i j ≤ 99 := rowOK_in (h.row i hi) hj
theorem Ground.rowLen {x : List (List Int)} (h : Ground x) {i : Nat} (hi : i < x.length) : (x.getD i []).length = x.length := rowOK_len (h.row i hi)
theorem groundB_iff (x : List (List Int)) : groundB x = true ↔ Ground x := by
  unfold groundB
  simp only [List.all_eq_true, List.mem_range, Bool.and_eq_true, beq_iff_eq, decide_eq_true_eq]
  constructor
  · rintro ⟨h, h7⟩
    refine ⟨fun i hi => (h i hi).1.1, fun i hi => (h i hi).1.2, fun i j hi hj => ?_, by omega⟩
    rcases Nat.lt_trichotomy i j with h1 | h1 | h1
    · exact ((h j hj).2 i h1).symm
    · rw [h1]
    · exact (h i hi).2 j h1
  · rintro ⟨h1, h2, h3, h4⟩
    exact ⟨fun i hi => ⟨⟨h1 i hi, h2 i hi⟩, fun j hj => h3 i j hi (by omega)⟩, by omega⟩
def metricB (x : List (List Int)) : Bool := (List.range x.length).all fun i => (List.range x.length).all fun j => (List.range x.length).all fun k => decide (at2 x i j ≤ at2 x i k + at2 x k j)
end Go.Proofs.Ytlmbhkmaflhagaa
/-
  Plain laws: rising lists, dispersion, allocations, the cost of hubs.
-/
namespace Go.Proofs.Ytlmbhkmaflhagaa
theorem mul_in {a b A B : Int} (ha : 0 ≤ a ∧ a ≤ A) (hb : 0 ≤ b ∧ b ≤ B) : 0 ≤ a * b ∧ a * b ≤ A * B :=
  ⟨Int.mul_nonneg ha.1 hb.1, Int.mul_le_mul ha.2 hb.2 hb.1 (by omega)⟩
def risingB (l : List Int) (lo hi : Int) : Bool := (List.range l.length).all fun i => isIn (l.getD i 0) lo hi && (i == 0 || decide (l.getD (i - 1) 0 < l.getD i 0))
theorem risingB_iff {l : List Int} {lo hi : Int} : risingB l lo hi = true ↔ (∀ x ∈ l, lo ≤ x ∧ x ≤ hi) ∧ l.Pairwise (· < ·) := by
  unfold risingB
  simp only [List.all_eq_true, List.mem_range, Bool.and_eq_true, Bool.or_eq_true, beq_iff_eq, decide_eq_true_eq, isIn_iff]
  constructor
  · intro h
    refine ⟨fun x hx => ?_, ?_⟩
    · obtain ⟨i, hi, e⟩ := List.getElem_of_mem hx
      have := (h i hi).1
      rw [List.getD_eq_getElem?_getD, List.getElem?_eq_getElem hi] at this
      rw [← e]; exact this
    · rw [List.pairwise_iff_getElem]
      have key : ∀ d i, i + d + 1 < l.length → l.getD i 0 < l.getD (i + d + 1) 0 := by
        intro d
        induction d with
        | zero =>
          intro i hi
          have := (h (i + 1) hi).2
          rcases this with h0 | h0
          · omega
          · simpa using h0
        | succ d ih =>
          intro i hi
          have h1 := ih i (by omega)
          have := (h (i + (d + 1) + 1) hi).2
          rcases this with h0 | h0
          · omega
          · have e : i + (d + 1) + 1 - 1 = i + d + 1 := by omega
            rw [e] at h0
            omega
      intro i j hi hj hij
      have := key (j - i - 1) i (by omega)
      rw [show i + (j - i - 1) + 1 = j by omega, List.getD_eq_getElem?_getD, List.getD_eq_getElem?_getD, List.getElem?_eq_getElem hi, List.getElem?_eq_getElem hj] at this
      exact this
  · rintro ⟨h1, h2⟩ i hi
    refine ⟨h1 _ (getD_mem hi), ?_⟩
    by_cases e : i = 0
    · exact .inl e
    · right
      have := List.pairwise_iff_getElem.1 h2 (i - 1) i (by omega) hi (by omega)
      rw [List.getD_eq_getElem?_getD, List.getD_eq_getElem?_getD, List.getElem?_eq_getElem hi, List.getElem?_eq_getElem (by omega)]
      exact this
theorem risingB_in {l : List Int} {lo hi : Int} (h : risingB l lo hi = true) {i : Nat} (hi' : i < l.length) : lo ≤ l.getD i 0 ∧ l.getD i 0 ≤ hi := (risingB_iff.1 h).1 _ (getD_mem hi')
def pl (s : List Int) (i : Nat) : Nat := (s.getD i 0).toNat
def disp (x : List (List Int)) (s : List Int) (b : Int) : Int := (List.range s.length).foldl (fun b i => (List.range i).foldl (fun b j => min b (at2 x (pl s i) (pl s j))) b) b
theorem foldl_min {α : Type} (g : Int → α → Int) (hg : ∀ a b i, g (min a b) i = min a (g b i)) (l : List α) (a b : Int) : l.foldl g (min a b) = min a (l.foldl g b) := by
  induction l generalizing b with
  | nil => rfl
  | cons i l ih => rw [List.foldl_cons, List.foldl_cons, hg, ih]
theorem disp_min (x : List (List Int)) (s : List Int) (a b : Int) : disp x s (min a b) = min a (disp x s b) :=
  foldl_min (fun b i => (List.range i).foldl (fun b j => min b (at2 x (pl s i) (pl s j))) b) (fun a b i => foldl_min (fun b j => min b (at2 x (pl s i) (pl s j))) (fun a b j => by omega) _ a b) _ a b
theorem foldl_min_le {α : Type} (g : Int → α → Int) (hg : ∀ a i, g a i ≤ a) (l : List α) (b : Int) : l.foldl g b ≤ b := by
  induction l generalizing b with
  | nil => exact Int.le_refl _
  | cons i l ih => exact Int.le_trans (ih _) (hg b i)
theorem foldl_min_mem {α : Type} (g : Int → α → Int) (hg : ∀ a i, g a i ≤ a) {l : List α} {i : α} (hi : i ∈ l) {c : Int} (hc : ∀ a, g a i ≤ c) (b : Int) : l.foldl g b ≤ c := by
  induction l generalizing b with
  | nil => cases hi
  | cons k l ih =>
    rw [List.foldl_cons]
    rcases List.mem_cons.1 hi with rfl | hi
    · exact Int.le_trans (foldl_min_le g hg l _) (hc b)
    · exact ih hi _
theorem disp_le (x : List (List Int)) (s : List Int) (b : Int) {i j : Nat} (hi : i < s.length) (hj : j < i) : disp x s b ≤ at2 x (pl s i) (pl s j) :=
  foldl_min_mem _ (fun a i => foldl_min_le _ (fun a j => by omega) _ a) (List.mem_range.2 hi) (fun a => foldl_min_mem _ (fun a j => by omega) (List.mem_range.2 hj) (fun a => by omega) a) b
theorem disp_start {x : List (List Int)} {s : List Int} {i j : Nat} (hi : i < s.length) (hj : j < i) {b : Int} (hb : at2 x (pl s i) (pl s j) ≤ b) : disp x s (at2 x (pl s i) (pl s j)) = disp x s b := by
  have := disp_min x s (at2 x (pl s i) (pl s j)) b
  rw [Int.min_eq_left hb] at this
  rw [this, Int.min_eq_right (disp_le x s b hi hj)]
structure Places (s : List Int) (n : Nat) : Prop where
  low : (s.length : Int) ≤ 1048576
  mem : ∀ i, i < s.length → 0 ≤ s.getD i 0 ∧ s.getD i 0 < n
theorem Places.pl {s : List Int} {n : Nat} (h : Places s n) {i : Nat} (hi : i < s.length) : s.getD i 0 = (pl s i : Int) ∧ Go.Proofs.Ytlmbhkmaflhagaa.pl s i < n := by
  have := h.mem i hi
  unfold Go.Proofs.Ytlmbhkmaflhagaa.pl
  omega
theorem Places.of {s : List Int} {n : Nat} (hs : Low1 s) (h : risingB s 0 ((n : Int) - 1) = true) : Places s n := ⟨hs, fun i hi => by have := risingB_in h hi; omega⟩
def dispOf (x : List (List Int)) (s : List Int) : Int × Bool := bif groundB x && (risingB s 0 ((x.length : Int) - 1) && decide (2 ≤ s.length)) then (disp x s 100, true) else (0, false)
end Go.Proofs.Ytlmbhkmaflhagaa
/-
  Plain laws: fields, atlases.
-/
namespace Go.Proofs.Ytlmbhkmaflhagaa
def fieldB (o : List Int) (ds : List (List Int)) : Bool := isIn (o.length : Int) 1 7 && (allIn o 0 99 && (decide ((ds.length : Int) ≤ 7) && ds.all fun r => decide (r.length = o.length) && allIn r 0 99))
structure Fld (o : List Int) (ds : List (List Int)) : Prop where
  pos : 1 ≤ o.length
  len : o.length ≤ 7
  cost : ∀ i, i < o.length → 0 ≤ o.getD i 0 ∧ o.getD i 0 ≤ 99
  clients : ds.length ≤ 7
  rowLen : ∀ j, j < ds.length → (ds.getD j []).length = o.length
  dist : ∀ j i, j < ds.length → i < o.length → 0 ≤ (ds.getD j []).getD i 0 ∧ (ds.getD j []).getD i 0 ≤ 99
theorem fieldB_iff {o : List Int} {ds : List (List Int)} : fieldB o ds = true ↔ Fld o ds := by
  unfold fieldB
  simp only [Bool.and_eq_true, decide_eq_true_eq, List.all_eq_true, isIn_iff]
  constructor
  · rintro ⟨⟨h1, h2⟩, h3, h4, h5⟩
    have h6 : ∀ j, j < ds.length → (ds.getD j []).length = o.length ∧ allIn (ds.getD j []) 0 99 = true := fun j hj => h5 _ (getD_mem (d := []) hj)
    exact ⟨by omega, by omega, fun i hi => allIn_getD h3 hi, by omega, fun j hj => (h6 j hj).1, fun j i hj hi => allIn_getD (h6 j hj).2 (by rw [(h6 j hj).1]; exact hi)⟩
  · rintro ⟨h1, h2, h3, h4, h5, h6⟩
    refine ⟨by omega, allIn_iff.2 fun a ha => ?_, by omega, fun r hr => ?_⟩
    · obtain ⟨i, hi, e⟩ := List.getElem_of_mem ha
      have := h3 i hi
      rw [List.getD_eq_getElem?_getD, List.getElem?_eq_getElem hi, Option.getD_some, e] at this
      exact this
    · obtain ⟨j, hj, e⟩ := List.getElem_of_mem hr
      have e2 : ds.getD j [] = r := by rw [List.getD_eq_getElem?_getD, List.getElem?_eq_getElem hj, Option.getD_some, e]
      have h7 := h5 j hj
      rw [e2] at h7
      refine ⟨h7, allIn_iff.2 fun a ha => ?_⟩
      obtain ⟨i, hi, e3⟩ := List.getElem_of_mem ha
      have := h6 j i hj (by omega)
      rw [e2, List.getD_eq_getElem?_getD, List.getElem?_eq_getElem hi, Option.getD_some, e3] at this
      exact this
theorem l2Good_eq {o : List Int} {ds : List (List Int)} (ho : Low1 o) (hd : Low2 ds) : F_sp_l2Good o ds = some (fieldB o ds) := by
  have hl := hd.1
  have h0 : L_sp_l2Good_0 ((o.length : Int), (o, ds)) 0 = _ := iter_allR (f := fun v => (S_sp_l2Good_0 ((o.length : Int), (o, ds)) v).ev) (n := ds.length) (mk := fun i => (i : Int)) (p := fun i => decide ((ds.getD i []).length = o.length) && allIn (ds.getD i []) 0 99) (yes := .inl ()) (no := .inr ()) (fun i hi _ => by
      simp (disch := omega) only [EV, S_sp_l2Good_0, hi, l2Row_eq (hd.2 _ (getD_mem (d := []) hi)), int_eq]
      cases allIn (ds.getD i []) 0 99 <;> cases decide ((ds.getD i []).length = o.length) <;> rfl) (by simp (disch := omega) only [EV, S_sp_l2Good_0, Nat.lt_irrefl])
  rw [all_range ds [] (fun r => decide (r.length = o.length) && allIn r 0 99)] at h0
  unfold F_sp_l2Good T_sp_l2Good fieldB
  simp (disch := omega) only [EV, h0, l1In_eq, l2Row_eq ho, int_eq]
  cases ds.all (fun r => decide (r.length = o.length) && allIn r 0 99) <;> cases isIn (o.length : Int) 1 7 <;> cases allIn o 0 99 <;> cases decide ((ds.length : Int) ≤ 7) <;> rfl
theorem IsField_eq {o : List Int} {ds : List (List Int)} (ho : Low1 o) (hd : Low2 ds) : F_im_IsField o ds = some (fieldB o ds) := by
  have hl := hd.1
  have hc := containsFunc_Sint (l := ds) (show (ds.length : Int) < 9223372036854775807 by omega) (p := fun a => Option.bind (F_im_IsField_1 a.1 o ds) fun y => some y) (q := fun r => !(decide (r.length = o.length) && allIn r 0 99)) fun r hr => by
    unfold F_im_IsField_1 T_im_IsField_1
    simp (disch := omega) only [EV, areBetween_eq (hd.2 r hr), int_ne]
    cases decide (r.length = o.length) <;> cases allIn r 0 99 <;> rfl
  unfold F_im_IsField T_im_IsField fieldB
  simp (disch := omega) only [EV, between_eq, areBetween_eq ho, hc]
  rw [List.any_eq_not_all_not]
  simp only [Bool.not_not]
  cases isIn (o.length : Int) 1 7 <;> cases allIn o 0 99 <;> by_cases h : (ds.length : Int) ≤ 7 <;> simp only [h, decide_true, decide_false, if_true, if_false] <;> rfl
def atlasB (o : List Int) (ds : List (List Int)) (s : List Int) (c : Int) : Bool := fieldB o ds && (risingB s 0 ((o.length : Int) - 1) && isIn c 0 1000)
theorem szField_sz {o : List Int} {ds : List (List Int)} {b : Int} (ho : Fit1 o) (hd : Fit2 ds) (h0 : 0 ≤ b) (h1 : b ≤ 1048576) : Sz (F_lw_szField o ds b) (Low1 o ∧ Low2 ds) := by
  unfold F_lw_szField T_lw_szField
  obtain ⟨r, e1, k1, k2⟩ := szIntS_sz ho h0 h1
  simp (disch := omega) only [EV, e1]
  by_cases hr : r < 0
  · simp (disch := omega) only [EV, hr]
    exact ⟨_, rfl, by omega, fun h => by omega⟩
  · obtain ⟨r2, e2, k3, k4⟩ := szIntSS_sz hd (show 0 ≤ r by omega) k1
    simp (disch := omega) only [EV, hr, e2]
    by_cases hr2 : r2 < 0
    · simp (disch := omega) only [EV, hr2]
      exact ⟨_, rfl, by omega, fun h => by omega⟩
    · simp (disch := omega) only [EV, hr2]
      exact ⟨_, rfl, k3, fun h => ⟨k2 (by omega), k4 h⟩⟩
theorem toField_eq {o : List Int} {ds : List (List Int)} (ho : Low1 o) (hd : Low2 ds) : F_lw_toField o ds = some (o, ds) := by
  unfold F_lw_toField T_lw_toField
  simp (disch := omega) only [EV, toIntS_eq ho, toIntSS_eq hd]
theorem eqField_eq {o o' : List Int} {ds ds' : List (List Int)} (ho : Low1 o) (hd : Low2 ds) : F_lw_eqField o ds o' ds' = some ((o == o') && (ds == ds')) := by
  unfold F_lw_eqField T_lw_eqField
  simp (disch := omega) only [EV, eqIntS_eq ho, eqIntSS_eq hd]
  cases (o == o') <;> cases (ds == ds') <;> rfl
end Go.Proofs.Ytlmbhkmaflhagaa
/-
  Plain laws: what a set of sites serves: lengths, service, payment, total, reach; values of objectives.
-/
namespace Go.Proofs.Ytlmbhkmaflhagaa
theorem Fld.at2 {o : List Int} {ds : List (List Int)} (h : Fld o ds) {j i : Nat} (hj : j < ds.length) (hi : i < o.length) : 0 ≤ at2 ds j i ∧ at2 ds j i ≤ 99 := h.dist j i hj hi
def srvStep (ds : List (List Int)) (j : Nat) (s : List Int) (b k : Nat) : Nat := if at2 ds j (pl s k) < at2 ds j b then pl s k else b
def srv (ds : List (List Int)) (j : Nat) (s : List Int) : Nat := (List.range s.length).foldl (srvStep ds j s) (pl s 0)
def near (ds : List (List Int)) (s : List Int) (j : Nat) : Int := at2 ds j (srv ds j s)
def pay (o s : List Int) : Int := (List.range s.length).foldl (fun a k => a + o.getD (pl s k) 0) 0
def serve (ds : List (List Int)) (s : List Int) : Int := (List.range ds.length).foldl (fun a j => a + near ds s j) 0
def far (ds : List (List Int)) (s : List Int) : Int := (List.range ds.length).foldl (fun a j => max a (near ds s j)) 0
def lensOf (ds : List (List Int)) (s : List Int) : List Int := (List.range ds.length).map (near ds s)
theorem foldl_inv {α S : Type} {g : S → α → S} (Q : S → Prop) {l : List α} (h : ∀ s a, a ∈ l → Q s → Q (g s a)) {s : S} (hs : Q s) : Q (l.foldl g s) := by
  induction l generalizing s with
  | nil => exact hs
  | cons a l ih => exact ih (fun s b hb => h s b (List.mem_cons_of_mem _ hb)) (h s a List.mem_cons_self hs)
theorem srvStep_lt {ds : List (List Int)} {j : Nat} {s : List Int} {n b k : Nat} (hs : Places s n) (hk : k < s.length) (hb : b < n) : srvStep ds j s b k < n := by
  unfold srvStep
  split
  · exact (hs.pl hk).2
  · exact hb
theorem srv_lt {ds : List (List Int)} {j : Nat} {s : List Int} {n : Nat} (hs : Places s n) (h0 : 0 < s.length) : srv ds j s < n :=
  foldl_inv (fun b => b < n) (fun _ _ hk hb => srvStep_lt hs (List.mem_range.1 hk) hb) (hs.pl h0).2
theorem near_in {o : List Int} {ds : List (List Int)} (hf : Fld o ds) {s : List Int} (hs : Places s o.length) (h0 : 0 < s.length) {j : Nat} (hj : j < ds.length) : 0 ≤ near ds s j ∧ near ds s j ≤ 99 := hf.at2 hj (srv_lt hs h0)
theorem sum_bound {α : Type} {l : List α} {f : α → Int} {B : Int} (h : ∀ a ∈ l, 0 ≤ f a ∧ f a ≤ B) (a0 : Int) : a0 ≤ l.foldl (fun a x => a + f x) a0 ∧ l.foldl (fun a x => a + f x) a0 ≤ a0 + (l.length : Int) * B := by
  induction l generalizing a0 with
  | nil => simp
  | cons x l ih =>
    have h1 := ih (fun a ha => h a (List.mem_cons_of_mem _ ha)) (a0 + f x)
    have h2 := h x List.mem_cons_self
    simp only [List.foldl_cons, List.length_cons]
    have e : ((l.length + 1 : Nat) : Int) * B = (l.length : Int) * B + B := by
      rw [Int.natCast_add, Int.add_mul]; simp
    rw [e]
    omega
theorem serve_in {o : List Int} {ds : List (List Int)} (hf : Fld o ds) {s : List Int} (hs : Places s o.length) (h0 : 0 < s.length) : 0 ≤ serve ds s ∧ serve ds s ≤ 693 := by
  have := sum_bound (l := List.range ds.length) (f := near ds s) (B := 99) (fun j hj => near_in hf hs h0 (List.mem_range.1 hj)) 0
  have hc := hf.clients
  unfold serve
  simp only [List.length_range] at this
  omega
theorem pay_in {o : List Int} {ds : List (List Int)} (hf : Fld o ds) {s : List Int} (hs : Places s o.length) : 0 ≤ pay o s ∧ pay o s ≤ 103809024 := by
  have := sum_bound (l := List.range s.length) (f := fun k => o.getD (pl s k) 0) (B := 99) (fun k hk => hf.cost _ (hs.pl (List.mem_range.1 hk)).2) 0
  have hc := hs.low
  unfold pay
  simp only [List.length_range] at this
  omega
theorem l2Site_eq {o : List Int} {ds : List (List Int)} (hf : Fld o ds) {s : List Int} (hs : Places s o.length) (h0 : 0 < s.length) {j : Nat} (hj : j < ds.length) : F_sp_l2Site o ds (j : Int) s = some (srv ds j s : Int) := by
  have hlow := hs.low
  have hr := hf.rowLen j hj
  have hlen := hf.len
  have key : L_sp_l2Site_0 ((j : Int), (s, (o, ds))) ((pl s 0 : Int), 0) = some (srv ds j s : Int) :=
    (iter_fold (f := fun v => (S_sp_l2Site_0 ((j : Int), (s, (o, ds))) v).ev) (n := s.length) (mk := fun k (b : Nat) => ((b : Int), (k : Int))) (I := fun _ b => b < o.length) (g := srvStep ds j s) (fin := fun b => (b : Int)) (s0 := pl s 0) (hs.pl h0).2
      (fun k b hk hb => by
        obtain ⟨e1, h1⟩ := hs.pl hk
        have e3 : (ds.getD j []).getD (pl s k) 0 = at2 ds j (pl s k) := rfl
        have e4 : (ds.getD j []).getD b 0 = at2 ds j b := rfl
        refine ⟨?_, srvStep_lt hs hk hb⟩
        simp (disch := omega) only [EV, S_sp_l2Site_0, hj, hk, e1, hr, h1, hb, e3, e4]
        unfold srvStep
        split <;> rfl)
      (fun b _ => by simp (disch := omega) only [EV, S_sp_l2Site_0, Nat.lt_irrefl])).1
  have key2 : L_sp_l2Site_0 ((j : Int), (s, (o, ds))) ((pl s 0 : Int), 1) = some (srv ds j s : Int) := by
    rw [← key]
    unfold L_sp_l2Site_0
    conv => rhs; rw [iter_eq]
    obtain ⟨e1, h1⟩ := hs.pl h0
    have e3 : (ds.getD j []).getD (pl s 0) 0 = at2 ds j (pl s 0) := rfl
    have z : Int.toNat 0 = 0 := rfl
    simp (disch := omega) only [EV, S_sp_l2Site_0, hj, h0, z, e1, hr, h1, e3, Int.lt_irrefl, show (0 : Int) < (s.length : Int) by omega]
    rfl
  unfold F_sp_l2Site T_sp_l2Site
  have z : Int.toNat 0 = 0 := rfl
  simp (disch := omega) only [EV, z, (hs.pl h0).1, key2]
theorem l2Nearest_eq {o : List Int} {ds : List (List Int)} (hf : Fld o ds) {s : List Int} (hs : Places s o.length) (h0 : 0 < s.length) {j : Nat} (hj : j < ds.length) : F_sp_l2Nearest o ds (j : Int) s = some (near ds s j) := by
  have hr := hf.rowLen j hj
  have hb : srv ds j s < o.length := srv_lt hs h0
  unfold F_sp_l2Nearest T_sp_l2Nearest
  have e3 : (ds.getD j []).getD (srv ds j s) 0 = near ds s j := rfl
  simp (disch := omega) only [EV, hj, l2Site_eq hf hs h0 hj, hr, hb, e3]
theorem server_eq {o : List Int} {ds : List (List Int)} (hf : Fld o ds) {s : List Int} (hs : Places s o.length) (h0 : 0 < s.length) {j : Nat} (hj : j < ds.length) : F_im_Field_server o ds (j : Int) s = some (srv ds j s : Int) := by
  have hlow := hs.low
  have hr := hf.rowLen j hj
  have hlen := hf.len
  have key : L_im_Field_server_0 ((j : Int), (s, ((s.length : Int), (o, ds)))) ((pl s 0 : Int), 0) = some (srv ds j s : Int) :=
    (iter_fold (f := fun v => (S_im_Field_server_0 ((j : Int), (s, ((s.length : Int), (o, ds)))) v).ev) (n := s.length) (mk := fun k (b : Nat) => ((b : Int), (k : Int))) (I := fun _ b => b < o.length) (g := srvStep ds j s) (fin := fun b => (b : Int)) (s0 := pl s 0) (hs.pl h0).2
      (fun k b hk hb => by
        obtain ⟨e1, h1⟩ := hs.pl hk
        have e3 : (ds.getD j []).getD (pl s k) 0 = at2 ds j (pl s k) := rfl
        have e4 : (ds.getD j []).getD b 0 = at2 ds j b := rfl
        refine ⟨?_, srvStep_lt hs hk hb⟩
        simp (disch := omega) only [EV, S_im_Field_server_0, hj, hk, e1, hr, h1, hb, e3, e4]
        unfold srvStep
        split <;> rfl)
      (fun b _ => by simp (disch := omega) only [EV, S_im_Field_server_0, Nat.lt_irrefl])).1
  unfold F_im_Field_server T_im_Field_server
  have z : Int.toNat 0 = 0 := rfl
  simp (disch := omega) only [EV, z, (hs.pl h0).1, key]
theorem iter_app {V R α : Type} {f : V → Option (V ⊕ R)} {n : Nat} (mk : Nat → List α → V) (g : Nat → α) (fin : List α → R)
    (hstep : ∀ i l, i < n → l.length = i → f (mk i l) = some (.inl (mk (i + 1) (l ++ [g i])))) (hend : ∀ l, l.length = n → f (mk n l) = some (.inr (fin l))) : iter f (mk 0 []) = some (fin ((List.range n).map g)) := by
  have := (iter_fold (f := f) (n := n) mk (fun i l => l.length = i) (fun l i => l ++ [g i]) fin (s0 := []) rfl (fun i l hi hl => ⟨hstep i l hi hl, by simp [hl]⟩) hend).1
  rw [this]
  congr 2
  have : ∀ (l : List Nat) (acc : List α), l.foldl (fun l i => l ++ [g i]) acc = acc ++ l.map g := by
    intro l
    induction l with
    | nil => simp
    | cons x l ih => intro acc; simp [ih]
  rw [this]; simp
theorem served_eq {o : List Int} {ds : List (List Int)} (hf : Fld o ds) {s : List Int} (hs : Places s o.length) (h0 : 0 < s.length) : F_im_Field_served o ds s = some ((List.range ds.length).map fun j => (srv ds j s : Int)) := by
  have hc := hf.clients
  have key : L_im_Field_served_0 (s, ((ds.length : Int), (o, ds))) (0, []) = some ((List.range ds.length).map fun j => (srv ds j s : Int)) :=
    iter_app (f := fun v => (S_im_Field_served_0 (s, ((ds.length : Int), (o, ds))) v).ev) (n := ds.length) (mk := fun k (l : List Int) => ((k : Int), l)) (fun j => (srv ds j s : Int)) (fun l => l)
      (fun j l hj hl => by
        have e : (l.length + List.length [(srv ds j s : Int)]) * 8 ≤ 140737488355328 := by simp; omega
        simp (disch := omega) only [EV, S_im_Field_served_0, hj, server_eq hf hs h0 hj, e]
        rfl) (fun l _ => by simp (disch := omega) only [EV, S_im_Field_served_0, Nat.lt_irrefl])
  unfold F_im_Field_served T_im_Field_served
  simp (disch := omega) only [EV, key]
theorem lengths_eq {o : List Int} {ds : List (List Int)} (hf : Fld o ds) {s : List Int} (hs : Places s o.length) (h0 : 0 < s.length) : F_im_Field_lengths o ds s = some (lensOf ds s) := by
  have hc := hf.clients
  unfold F_im_Field_lengths T_im_Field_lengths
  simp (disch := omega) only [EV, served_eq hf hs h0]
  generalize hr : ((List.range ds.length).map fun j => (srv ds j s : Int)) = r
  have hrl : r.length = ds.length := by rw [← hr]; simp
  have hrg : ∀ j, j < ds.length → r.getD j 0 = (srv ds j s : Int) := fun j hj => by rw [← hr, List.getD_eq_getElem?_getD, List.getElem?_map, List.getElem?_range hj]; rfl
  have key : L_im_Field_lengths_0 ((r.length : Int), (o, (ds, r))) (0, []) = some (lensOf ds s) :=
    iter_app (f := fun v => (S_im_Field_lengths_0 ((r.length : Int), (o, (ds, r))) v).ev) (n := ds.length) (mk := fun k (l : List Int) => ((k : Int), l)) (near ds s) (fun l => l)
      (fun j l hj hl => by
        have hb : srv ds j s < o.length := srv_lt hs h0
        have e3 : (ds.getD j []).getD (srv ds j s) 0 = near ds s j := rfl
        have e : ∀ x : Int, (l.length + List.length [x]) * 8 ≤ 140737488355328 := fun x => by simp; omega
        simp (disch := omega) only [EV, S_im_Field_lengths_0, hj, hrl, hrg j hj, hf.rowLen j hj, hb, e3, e]
        rfl) (fun l _ => by simp (disch := omega) only [EV, S_im_Field_lengths_0, hrl, Nat.lt_irrefl])
  simp (disch := omega) only [EV, key]
theorem im_sum_eq {l : List Int} {B : Int} (hl : (l.length : Int) * B < 9223372036854775808) (hn : (l.length : Int) < 9223372036854775807) (h : ∀ a ∈ l, 0 ≤ a ∧ a ≤ B) : F_im_sum l = some (l.foldl (fun a x => a + x) 0) := by
  have key := iter_foldl (f := fun v => (S_im_sum_0 (l, (l.length : Int)) v).ev) l 0 (mk := fun k a => (a, (k : Int))) (I := fun k a => 0 ≤ a ∧ a ≤ (k : Int) * B) (g := fun a x => a + x) (fin := fun a => a) (s0 := 0) (by simp)
    (fun k a hk ha => by
      have h1 := h _ (getD_mem (d := 0) hk)
      have h2 : ((k + 1 : Nat) : Int) * B = (k : Int) * B + B := by rw [Int.natCast_add, Int.add_mul]; simp
      have hB : 0 ≤ B := by omega
      have h3 : ((k + 1 : Nat) : Int) * B ≤ (l.length : Int) * B := Int.mul_le_mul_of_nonneg_right (by omega) hB
      refine ⟨?_, by omega, by omega⟩
      simp (disch := omega) only [EV, S_im_sum_0, hk]
      rfl)
    (fun a _ => by simp (disch := omega) only [EV, S_im_sum_0, Nat.lt_irrefl])
  unfold F_im_sum T_im_sum
  have k1 : L_im_sum_0 (l, (l.length : Int)) (0, 0) = _ := key.1
  simp (disch := omega) only [EV, k1]
theorem service_eq {o : List Int} {ds : List (List Int)} (hf : Fld o ds) {s : List Int} (hs : Places s o.length) (h0 : 0 < s.length) : F_im_Field_service o ds s = some (serve ds s) := by
  have hc := hf.clients
  unfold F_im_Field_service T_im_Field_service
  have hl : (lensOf ds s).length = ds.length := by simp [lensOf]
  simp (disch := omega) only [EV, lengths_eq hf hs h0, im_sum_eq (l := lensOf ds s) (B := 99) (by omega) (by omega) (fun a ha => by
    obtain ⟨j, hj, rfl⟩ := List.mem_map.1 ha
    exact near_in hf hs h0 (List.mem_range.1 hj))]
  unfold lensOf serve
  rw [List.foldl_map]
theorem l2Serve_eq {o : List Int} {ds : List (List Int)} (hf : Fld o ds) {s : List Int} (hs : Places s o.length) (h0 : 0 < s.length) : F_sp_l2Serve o ds s = some (serve ds s) := by
  have hc := hf.clients
  have key : L_sp_l2Serve_0 (s, (o, ds)) (0, 0) = some (serve ds s) :=
    (iter_fold (f := fun v => (S_sp_l2Serve_0 (s, (o, ds)) v).ev) (n := ds.length) (mk := fun k a => (a, (k : Int))) (I := fun k a => 0 ≤ a ∧ a ≤ (k : Int) * 99) (g := fun a j => a + near ds s j) (fin := fun a => a) (s0 := 0) (by simp)
      (fun j a hj ha => by
        have h1 := near_in hf hs h0 hj
        refine ⟨?_, by omega, by omega⟩
        simp (disch := omega) only [EV, S_sp_l2Serve_0, hj, l2Nearest_eq hf hs h0 hj]
        rfl)
      (fun a _ => by simp (disch := omega) only [EV, S_sp_l2Serve_0, Nat.lt_irrefl])).1
  unfold F_sp_l2Serve T_sp_l2Serve
  simp (disch := omega) only [EV, key]
theorem l2Pay_eq {o : List Int} {ds : List (List Int)} (hf : Fld o ds) {s : List Int} (hs : Places s o.length) : F_sp_l2Pay o ds s = some (pay o s) := by
  have hlow := hs.low
  have key : L_sp_l2Pay_0 (s, (o, ds)) (0, 0) = some (pay o s) :=
    (iter_fold (f := fun v => (S_sp_l2Pay_0 (s, (o, ds)) v).ev) (n := s.length) (mk := fun k a => (a, (k : Int))) (I := fun k a => 0 ≤ a ∧ a ≤ (k : Int) * 99) (g := fun a k => a + o.getD (pl s k) 0) (fin := fun a => a) (s0 := 0) (by simp)
      (fun k a hk ha => by
        obtain ⟨e1, h1⟩ := hs.pl hk
        have h2 := hf.cost _ h1
        refine ⟨?_, by omega, by omega⟩
        simp (disch := omega) only [EV, S_sp_l2Pay_0, hk, e1, h1]
        rfl)
      (fun a _ => by simp (disch := omega) only [EV, S_sp_l2Pay_0, Nat.lt_irrefl])).1
  unfold F_sp_l2Pay T_sp_l2Pay
  simp (disch := omega) only [EV, key]
theorem payment_eq {o : List Int} {ds : List (List Int)} (hf : Fld o ds) {s : List Int} (hs : Places s o.length) : F_im_Field_payment o ds s = some (pay o s) := by
  have hlow := hs.low
  have key : L_im_Field_payment_0 (s, ((s.length : Int), (o, ds))) (0, 0) = some (pay o s) :=
    (iter_fold (f := fun v => (S_im_Field_payment_0 (s, ((s.length : Int), (o, ds))) v).ev) (n := s.length) (mk := fun k a => (a, (k : Int))) (I := fun k a => 0 ≤ a ∧ a ≤ (k : Int) * 99) (g := fun a k => a + o.getD (pl s k) 0) (fin := fun a => a) (s0 := 0) (by simp)
      (fun k a hk ha => by
        obtain ⟨e1, h1⟩ := hs.pl hk
        have h2 := hf.cost _ h1
        refine ⟨?_, by omega, by omega⟩
        simp (disch := omega) only [EV, S_im_Field_payment_0, hk, e1, h1]
        rfl)
      (fun a _ => by simp (disch := omega) only [EV, S_im_Field_payment_0, Nat.lt_irrefl])).1
  unfold F_im_Field_payment T_im_Field_payment
  simp (disch := omega) only [EV, key]
theorem l2Total_eq {o : List Int} {ds : List (List Int)} (hf : Fld o ds) {s : List Int} (hs : Places s o.length) (h0 : 0 < s.length) : F_sp_l2Total o ds s = some (pay o s + serve ds s) := by
  have h1 := serve_in hf hs h0
  have h2 := pay_in hf hs
  unfold F_sp_l2Total T_sp_l2Total
  simp (disch := omega) only [EV, l2Serve_eq hf hs h0, l2Pay_eq hf hs]
  rw [Int.add_comm]
theorem total_eq {o : List Int} {ds : List (List Int)} (hf : Fld o ds) {s : List Int} (hs : Places s o.length) (h0 : 0 < s.length) : F_im_Field_total o ds s = some (pay o s + serve ds s) := by
  have h1 := serve_in hf hs h0
  have h2 := pay_in hf hs
  unfold F_im_Field_total T_im_Field_total
  simp (disch := omega) only [EV, service_eq hf hs h0, payment_eq hf hs]
theorem foldl_max_start {l : List Int} (a : Int) (h : ∀ x ∈ l, x ≤ a) : l.foldl (fun a x => max a x) a = a := by
  induction l with
  | nil => rfl
  | cons x l ih =>
    rw [List.foldl_cons, Int.max_eq_left (h x List.mem_cons_self)]
    exact ih fun y hy => h y (List.mem_cons_of_mem _ hy)
theorem slicesMax_eq {l : List Int} (h0 : 0 < l.length) (hn : (l.length : Int) < 9223372036854775807) : F_slices_Max_Sint_int l = some (l.foldl (fun a x => max a x) (l.getD 0 0)) := by
  have mx : ∀ a x : Int, (if a < x then x else a) = max a x := fun a x => by
    by_cases h : a < x
    · rw [if_pos h, Int.max_eq_right (by omega)]
    · rw [if_neg h, Int.max_eq_left (by omega)]
  have key := (iter_foldl (f := fun v => (S_slices_Max_Sint_int_0 l v).ev) l 0 (mk := fun k a => (a, (k : Int))) (I := fun _ _ => True) (g := fun a x => max a x) (fin := fun a => a) (s0 := l.getD 0 0) trivial
    (fun k a hk _ => by
      refine ⟨?_, trivial⟩
      simp (disch := omega) only [EV, S_slices_Max_Sint_int_0, hk, mx]
      rfl)
    (fun a _ => by simp (disch := omega) only [EV, S_slices_Max_Sint_int_0, Nat.lt_irrefl])).1
  have key2 : L_slices_Max_Sint_int_0 l (l.getD 0 0, 1) = some (l.foldl (fun a x => max a x) (l.getD 0 0)) := by
    rw [← key]
    unfold L_slices_Max_Sint_int_0
    conv => rhs; rw [iter_eq]
    have z : Int.toNat 0 = 0 := rfl
    have z1 : ((0 : Nat) : Int) = 0 := rfl
    have h0' : (0 : Int) < (l.length : Int) := by omega
    simp (disch := omega) only [EV, S_slices_Max_Sint_int_0, h0, h0', z, z1, mx, Int.max_self]
    rfl
  unfold F_slices_Max_Sint_int T_slices_Max_Sint_int
  have z : Int.toNat 0 = 0 := rfl
  have h1 : ¬ (l.length : Int) < 1 := by omega
  simp (disch := omega) only [EV, h1, z, key2]
theorem max_zero {l : List Int} (h : ∀ x ∈ l, 0 ≤ x) : (l ++ [0]).foldl (fun a x => max a x) ((l ++ [0]).getD 0 0) = l.foldl (fun a x => max a x) 0 := by
  cases l with
  | nil => rfl
  | cons y l =>
    have h1 := h y List.mem_cons_self
    have hge : ∀ (l : List Int) (a : Int), a ≤ l.foldl (fun a x => max a x) a := by
      intro l
      induction l with
      | nil => intro a; exact Int.le_refl _
      | cons x l ih => intro a; exact Int.le_trans (Int.le_max_left a x) (ih _)
    rw [List.foldl_append]
    have e : ((y :: l) ++ [0]).getD 0 0 = y := rfl
    have := hge l y
    simp only [e, List.foldl_cons, List.foldl_nil, Int.max_self, Int.max_eq_right h1]
    omega
theorem l2Far_eq {o : List Int} {ds : List (List Int)} (hf : Fld o ds) {s : List Int} (hs : Places s o.length) (h0 : 0 < s.length) : F_sp_l2Far o ds s = some (far ds s) := by
  have hc := hf.clients
  have key : L_sp_l2Far_0 (s, (o, ds)) (0, 0) = some (far ds s) :=
    (iter_fold (f := fun v => (S_sp_l2Far_0 (s, (o, ds)) v).ev) (n := ds.length) (mk := fun k a => (a, (k : Int))) (I := fun _ _ => True) (g := fun a j => max a (near ds s j)) (fin := fun a => a) (s0 := 0) trivial
      (fun j a hj _ => by
        refine ⟨?_, trivial⟩
        simp (disch := omega) only [EV, S_sp_l2Far_0, hj, l2Nearest_eq hf hs h0 hj, l1Most_eq]
        rfl)
      (fun a _ => by simp (disch := omega) only [EV, S_sp_l2Far_0, Nat.lt_irrefl])).1
  unfold F_sp_l2Far T_sp_l2Far
  simp (disch := omega) only [EV, key]
theorem reach_eq {o : List Int} {ds : List (List Int)} (hf : Fld o ds) {s : List Int} (hs : Places s o.length) (h0 : 0 < s.length) : F_im_Field_reach o ds s = some (far ds s) := by
  have hc := hf.clients
  have hl : (lensOf ds s).length = ds.length := by simp [lensOf]
  unfold F_im_Field_reach T_im_Field_reach
  have e : ((lensOf ds s).length + List.length [(0 : Int)]) * 8 ≤ 140737488355328 := by simp; omega
  simp (disch := omega) only [EV, lengths_eq hf hs h0, e, slicesMax_eq (l := lensOf ds s ++ [0]) (by simp) (by simp; omega)]
  rw [max_zero fun x hx => by
    obtain ⟨j, hj, rfl⟩ := List.mem_map.1 hx
    exact (near_in hf hs h0 (List.mem_range.1 hj)).1]
  unfold lensOf far
  rw [List.foldl_map]
def valueOf (o : List Int) (ds : List (List Int)) (s : List Int) (k : Int) : Int :=
  if k = 1 then serve ds s else if k = 2 then pay o s else if k = 3 then pay o s + serve ds s else if k = 4 then far ds s else (s.length : Int)
def openB (o : List Int) (ds : List (List Int)) (s : List Int) : Bool := fieldB o ds && (risingB s 0 ((o.length : Int) - 1) && decide (0 < s.length))
theorem beq_dec (a b : Int) : (a == b) = decide (a = b) := by
  rw [Bool.eq_iff_iff]; simp
theorem openB_iff {o : List Int} {ds : List (List Int)} {s : List Int} (hs : Low1 s) (h : openB o ds s = true) : Fld o ds ∧ Places s o.length ∧ 0 < s.length := by
  unfold openB at h
  simp only [Bool.and_eq_true, decide_eq_true_eq] at h
  exact ⟨fieldB_iff.1 h.1, Places.of hs h.2.1, h.2.2⟩
theorem l11Value_eq {o : List Int} {ds : List (List Int)} (hf : Fld o ds) {s : List Int} (hs : Places s o.length) (h0 : 0 < s.length) (k : Int) : F_sp_l11Value o ds s k = some (valueOf o ds s k) := by
  unfold F_sp_l11Value T_sp_l11Value valueOf
  simp (disch := omega) only [EV, l2Serve_eq hf hs h0, l2Pay_eq hf hs, l2Total_eq hf hs h0, l2Far_eq hf hs h0, beq_dec]
  by_cases h1 : k = 1 <;> by_cases h2 : k = 2 <;> by_cases h3 : k = 3 <;> by_cases h4 : k = 4 <;> simp [h1, h2, h3, h4]
theorem value_eq {o : List Int} {ds : List (List Int)} (hf : Fld o ds) {s : List Int} (hs : Places s o.length) (h0 : 0 < s.length) (k : Int) : F_im_Field_value o ds s k = some (valueOf o ds s k) := by
  unfold F_im_Field_value T_im_Field_value valueOf
  simp (disch := omega) only [EV, service_eq hf hs h0, payment_eq hf hs, total_eq hf hs h0, reach_eq hf hs h0, beq_dec]
  by_cases h1 : k = 1 <;> by_cases h2 : k = 2 <;> by_cases h3 : k = 3 <;> by_cases h4 : k = 4 <;> simp [h1, h2, h3, h4]
def objOf (o : List Int) (ds : List (List Int)) (s : List Int) (k : Int) : Int × Bool := bif openB o ds s && isIn k 1 5 then (valueOf o ds s k, true) else (0, false)
def totalOf (o : List Int) (ds : List (List Int)) (s : List Int) (c : Int) : Int × Bool := bif atlasB o ds s c && decide (0 < s.length) then (pay o s + serve ds s, true) else (0, false)
theorem atlasB_fld {o : List Int} {ds : List (List Int)} {s : List Int} {c : Int} (hs : Low1 s) (h : atlasB o ds s c = true) : Fld o ds ∧ Places s o.length := by
  unfold atlasB at h
  simp only [Bool.and_eq_true] at h
  exact ⟨fieldB_iff.1 h.1, Places.of hs h.2.1⟩
end Go.Proofs.Ytlmbhkmaflhagaa
