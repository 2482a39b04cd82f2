/-
  Plain laws: what a set of sites serves: lengths, service, payment, total, reach; values of objectives.
-/
import Derived.Test.YtlmbhkmaflhagaaP6
namespace Go.Proofs.Ytlmbhkmaflhagaa

theorem Fld.at2 {o : List Int} {ds : List (List Int)} (h : Fld o ds) {j i : Nat} (hj : j < ds.length) (hi : i < o.length) : 0 ≤ at2 ds j i ∧ at2 ds j i ≤ 99 := h.dist j i hj hi

/-- The site by which a client is served: a step, all. -/
def srvStep (ds : List (List Int)) (j : Nat) (s : List Int) (b k : Nat) : Nat := if at2 ds j (pl s k) < at2 ds j b then pl s k else b
def srv (ds : List (List Int)) (j : Nat) (s : List Int) : Nat := (List.range s.length).foldl (srvStep ds j s) (pl s 0)
def near (ds : List (List Int)) (s : List Int) (j : Nat) : Int := at2 ds j (srv ds j s)
def pay (o s : List Int) : Int := (List.range s.length).foldl (fun a k => a + o.getD (pl s k) 0) 0
def serve (ds : List (List Int)) (s : List Int) : Int := (List.range ds.length).foldl (fun a j => a + near ds s j) 0
def far (ds : List (List Int)) (s : List Int) : Int := (List.range ds.length).foldl (fun a j => max a (near ds s j)) 0
def lensOf (ds : List (List Int)) (s : List Int) : List Int := (List.range ds.length).map (near ds s)

theorem foldl_inv {α S : Type} {g : S → α → S} (Q : S → Prop) {l : List α} (h : ∀ s a, a ∈ l → Q s → Q (g s a)) {s : S} (hs : Q s) : Q (l.foldl g s) := by
  induction l generalizing s with
  | nil => exact hs
  | cons a l ih => exact ih (fun s b hb => h s b (List.mem_cons_of_mem _ hb)) (h s a List.mem_cons_self hs)

theorem srvStep_lt {ds : List (List Int)} {j : Nat} {s : List Int} {n b k : Nat} (hs : Places s n) (hk : k < s.length) (hb : b < n) : srvStep ds j s b k < n := by
  unfold srvStep
  split
  · exact (hs.pl hk).2
  · exact hb
theorem srv_lt {ds : List (List Int)} {j : Nat} {s : List Int} {n : Nat} (hs : Places s n) (h0 : 0 < s.length) : srv ds j s < n :=
  foldl_inv (fun b => b < n) (fun _ _ hk hb => srvStep_lt hs (List.mem_range.1 hk) hb) (hs.pl h0).2
theorem near_in {o : List Int} {ds : List (List Int)} (hf : Fld o ds) {s : List Int} (hs : Places s o.length) (h0 : 0 < s.length) {j : Nat} (hj : j < ds.length) : 0 ≤ near ds s j ∧ near ds s j ≤ 99 := hf.at2 hj (srv_lt hs h0)

theorem sum_bound {α : Type} {l : List α} {f : α → Int} {B : Int} (h : ∀ a ∈ l, 0 ≤ f a ∧ f a ≤ B) (a0 : Int) : a0 ≤ l.foldl (fun a x => a + f x) a0 ∧ l.foldl (fun a x => a + f x) a0 ≤ a0 + (l.length : Int) * B := by
  induction l generalizing a0 with
  | nil => simp
  | cons x l ih =>
    have h1 := ih (fun a ha => h a (List.mem_cons_of_mem _ ha)) (a0 + f x)
    have h2 := h x List.mem_cons_self
    simp only [List.foldl_cons, List.length_cons]
    have e : ((l.length + 1 : Nat) : Int) * B = (l.length : Int) * B + B := by
      rw [Int.natCast_add, Int.add_mul]; simp
    rw [e]
    omega

theorem serve_in {o : List Int} {ds : List (List Int)} (hf : Fld o ds) {s : List Int} (hs : Places s o.length) (h0 : 0 < s.length) : 0 ≤ serve ds s ∧ serve ds s ≤ 693 := by
  have := sum_bound (l := List.range ds.length) (f := near ds s) (B := 99) (fun j hj => near_in hf hs h0 (List.mem_range.1 hj)) 0
  have hc := hf.clients
  unfold serve
  simp only [List.length_range] at this
  omega
theorem pay_in {o : List Int} {ds : List (List Int)} (hf : Fld o ds) {s : List Int} (hs : Places s o.length) : 0 ≤ pay o s ∧ pay o s ≤ 103809024 := by
  have := sum_bound (l := List.range s.length) (f := fun k => o.getD (pl s k) 0) (B := 99) (fun k hk => hf.cost _ (hs.pl (List.mem_range.1 hk)).2) 0
  have hc := hs.low
  unfold pay
  simp only [List.length_range] at this
  omega

theorem l2Site_eq {o : List Int} {ds : List (List Int)} (hf : Fld o ds) {s : List Int} (hs : Places s o.length) (h0 : 0 < s.length) {j : Nat} (hj : j < ds.length) : F_sp_l2Site o ds (j : Int) s = some (srv ds j s : Int) := by
  have hlow := hs.low
  have hr := hf.rowLen j hj
  have hlen := hf.len
  have key : L_sp_l2Site_0 ((j : Int), (s, (o, ds))) ((pl s 0 : Int), 0) = some (srv ds j s : Int) :=
    (iter_fold (f := fun v => (S_sp_l2Site_0 ((j : Int), (s, (o, ds))) v).ev) (n := s.length) (mk := fun k (b : Nat) => ((b : Int), (k : Int))) (I := fun _ b => b < o.length) (g := srvStep ds j s) (fin := fun b => (b : Int)) (s0 := pl s 0) (hs.pl h0).2
      (fun k b hk hb => by
        obtain ⟨e1, h1⟩ := hs.pl hk
        have e3 : (ds.getD j []).getD (pl s k) 0 = at2 ds j (pl s k) := rfl
        have e4 : (ds.getD j []).getD b 0 = at2 ds j b := rfl
        refine ⟨?_, srvStep_lt hs hk hb⟩
        simp (disch := omega) only [EV, S_sp_l2Site_0, hj, hk, e1, hr, h1, hb, e3, e4]
        unfold srvStep
        split <;> rfl)
      (fun b _ => by simp (disch := omega) only [EV, S_sp_l2Site_0, Nat.lt_irrefl])).1
  have key2 : L_sp_l2Site_0 ((j : Int), (s, (o, ds))) ((pl s 0 : Int), 1) = some (srv ds j s : Int) := by
    rw [← key]
    unfold L_sp_l2Site_0
    conv => rhs; rw [iter_eq]
    obtain ⟨e1, h1⟩ := hs.pl h0
    have e3 : (ds.getD j []).getD (pl s 0) 0 = at2 ds j (pl s 0) := rfl
    have z : Int.toNat 0 = 0 := rfl
    simp (disch := omega) only [EV, S_sp_l2Site_0, hj, h0, z, e1, hr, h1, e3, Int.lt_irrefl, show (0 : Int) < (s.length : Int) by omega]
    rfl
  unfold F_sp_l2Site T_sp_l2Site
  have z : Int.toNat 0 = 0 := rfl
  simp (disch := omega) only [EV, z, (hs.pl h0).1, key2]
theorem l2Nearest_eq {o : List Int} {ds : List (List Int)} (hf : Fld o ds) {s : List Int} (hs : Places s o.length) (h0 : 0 < s.length) {j : Nat} (hj : j < ds.length) : F_sp_l2Nearest o ds (j : Int) s = some (near ds s j) := by
  have hr := hf.rowLen j hj
  have hb : srv ds j s < o.length := srv_lt hs h0
  unfold F_sp_l2Nearest T_sp_l2Nearest
  have e3 : (ds.getD j []).getD (srv ds j s) 0 = near ds s j := rfl
  simp (disch := omega) only [EV, hj, l2Site_eq hf hs h0 hj, hr, hb, e3]
theorem server_eq {o : List Int} {ds : List (List Int)} (hf : Fld o ds) {s : List Int} (hs : Places s o.length) (h0 : 0 < s.length) {j : Nat} (hj : j < ds.length) : F_im_Field_server o ds (j : Int) s = some (srv ds j s : Int) := by
  have hlow := hs.low
  have hr := hf.rowLen j hj
  have hlen := hf.len
  have key : L_im_Field_server_0 ((j : Int), (s, ((s.length : Int), (o, ds)))) ((pl s 0 : Int), 0) = some (srv ds j s : Int) :=
    (iter_fold (f := fun v => (S_im_Field_server_0 ((j : Int), (s, ((s.length : Int), (o, ds)))) v).ev) (n := s.length) (mk := fun k (b : Nat) => ((b : Int), (k : Int))) (I := fun _ b => b < o.length) (g := srvStep ds j s) (fin := fun b => (b : Int)) (s0 := pl s 0) (hs.pl h0).2
      (fun k b hk hb => by
        obtain ⟨e1, h1⟩ := hs.pl hk
        have e3 : (ds.getD j []).getD (pl s k) 0 = at2 ds j (pl s k) := rfl
        have e4 : (ds.getD j []).getD b 0 = at2 ds j b := rfl
        refine ⟨?_, srvStep_lt hs hk hb⟩
        simp (disch := omega) only [EV, S_im_Field_server_0, hj, hk, e1, hr, h1, hb, e3, e4]
        unfold srvStep
        split <;> rfl)
      (fun b _ => by simp (disch := omega) only [EV, S_im_Field_server_0, Nat.lt_irrefl])).1
  unfold F_im_Field_server T_im_Field_server
  have z : Int.toNat 0 = 0 := rfl
  simp (disch := omega) only [EV, z, (hs.pl h0).1, key]

/-- Rounds that append. -/
theorem iter_app {V R α : Type} {f : V → Option (V ⊕ R)} {n : Nat} (mk : Nat → List α → V) (g : Nat → α) (fin : List α → R)
    (hstep : ∀ i l, i < n → l.length = i → f (mk i l) = some (.inl (mk (i + 1) (l ++ [g i])))) (hend : ∀ l, l.length = n → f (mk n l) = some (.inr (fin l))) : iter f (mk 0 []) = some (fin ((List.range n).map g)) := by
  have := (iter_fold (f := f) (n := n) mk (fun i l => l.length = i) (fun l i => l ++ [g i]) fin (s0 := []) rfl (fun i l hi hl => ⟨hstep i l hi hl, by simp [hl]⟩) hend).1
  rw [this]
  congr 2
  have : ∀ (l : List Nat) (acc : List α), l.foldl (fun l i => l ++ [g i]) acc = acc ++ l.map g := by
    intro l
    induction l with
    | nil => simp
    | cons x l ih => intro acc; simp [ih]
  rw [this]; simp

theorem served_eq {o : List Int} {ds : List (List Int)} (hf : Fld o ds) {s : List Int} (hs : Places s o.length) (h0 : 0 < s.length) : F_im_Field_served o ds s = some ((List.range ds.length).map fun j => (srv ds j s : Int)) := by
  have hc := hf.clients
  have key : L_im_Field_served_0 (s, ((ds.length : Int), (o, ds))) (0, []) = some ((List.range ds.length).map fun j => (srv ds j s : Int)) :=
    iter_app (f := fun v => (S_im_Field_served_0 (s, ((ds.length : Int), (o, ds))) v).ev) (n := ds.length) (mk := fun k (l : List Int) => ((k : Int), l)) (fun j => (srv ds j s : Int)) (fun l => l)
      (fun j l hj hl => by
        have e : (l.length + List.length [(srv ds j s : Int)]) * 8 ≤ 140737488355328 := by simp; omega
        simp (disch := omega) only [EV, S_im_Field_served_0, hj, server_eq hf hs h0 hj, e]
        rfl) (fun l _ => by simp (disch := omega) only [EV, S_im_Field_served_0, Nat.lt_irrefl])
  unfold F_im_Field_served T_im_Field_served
  simp (disch := omega) only [EV, key]
theorem lengths_eq {o : List Int} {ds : List (List Int)} (hf : Fld o ds) {s : List Int} (hs : Places s o.length) (h0 : 0 < s.length) : F_im_Field_lengths o ds s = some (lensOf ds s) := by
  have hc := hf.clients
  unfold F_im_Field_lengths T_im_Field_lengths
  simp (disch := omega) only [EV, served_eq hf hs h0]
  generalize hr : ((List.range ds.length).map fun j => (srv ds j s : Int)) = r
  have hrl : r.length = ds.length := by rw [← hr]; simp
  have hrg : ∀ j, j < ds.length → r.getD j 0 = (srv ds j s : Int) := fun j hj => by rw [← hr, List.getD_eq_getElem?_getD, List.getElem?_map, List.getElem?_range hj]; rfl
  have key : L_im_Field_lengths_0 ((r.length : Int), (o, (ds, r))) (0, []) = some (lensOf ds s) :=
    iter_app (f := fun v => (S_im_Field_lengths_0 ((r.length : Int), (o, (ds, r))) v).ev) (n := ds.length) (mk := fun k (l : List Int) => ((k : Int), l)) (near ds s) (fun l => l)
      (fun j l hj hl => by
        have hb : srv ds j s < o.length := srv_lt hs h0
        have e3 : (ds.getD j []).getD (srv ds j s) 0 = near ds s j := rfl
        have e : ∀ x : Int, (l.length + List.length [x]) * 8 ≤ 140737488355328 := fun x => by simp; omega
        simp (disch := omega) only [EV, S_im_Field_lengths_0, hj, hrl, hrg j hj, hf.rowLen j hj, hb, e3, e]
        rfl) (fun l _ => by simp (disch := omega) only [EV, S_im_Field_lengths_0, hrl, Nat.lt_irrefl])
  simp (disch := omega) only [EV, key]
theorem im_sum_eq {l : List Int} {B : Int} (hl : (l.length : Int) * B < 9223372036854775808) (hn : (l.length : Int) < 9223372036854775807) (h : ∀ a ∈ l, 0 ≤ a ∧ a ≤ B) : F_im_sum l = some (l.foldl (fun a x => a + x) 0) := by
  have key := iter_foldl (f := fun v => (S_im_sum_0 (l, (l.length : Int)) v).ev) l 0 (mk := fun k a => (a, (k : Int))) (I := fun k a => 0 ≤ a ∧ a ≤ (k : Int) * B) (g := fun a x => a + x) (fin := fun a => a) (s0 := 0) (by simp)
    (fun k a hk ha => by
      have h1 := h _ (getD_mem (d := 0) hk)
      have h2 : ((k + 1 : Nat) : Int) * B = (k : Int) * B + B := by rw [Int.natCast_add, Int.add_mul]; simp
      have hB : 0 ≤ B := by omega
      have h3 : ((k + 1 : Nat) : Int) * B ≤ (l.length : Int) * B := Int.mul_le_mul_of_nonneg_right (by omega) hB
      refine ⟨?_, by omega, by omega⟩
      simp (disch := omega) only [EV, S_im_sum_0, hk]
      rfl)
    (fun a _ => by simp (disch := omega) only [EV, S_im_sum_0, Nat.lt_irrefl])
  unfold F_im_sum T_im_sum
  have k1 : L_im_sum_0 (l, (l.length : Int)) (0, 0) = _ := key.1
  simp (disch := omega) only [EV, k1]
theorem service_eq {o : List Int} {ds : List (List Int)} (hf : Fld o ds) {s : List Int} (hs : Places s o.length) (h0 : 0 < s.length) : F_im_Field_service o ds s = some (serve ds s) := by
  have hc := hf.clients
  unfold F_im_Field_service T_im_Field_service
  have hl : (lensOf ds s).length = ds.length := by simp [lensOf]
  simp (disch := omega) only [EV, lengths_eq hf hs h0, im_sum_eq (l := lensOf ds s) (B := 99) (by omega) (by omega) (fun a ha => by
    obtain ⟨j, hj, rfl⟩ := List.mem_map.1 ha
    exact near_in hf hs h0 (List.mem_range.1 hj))]
  unfold lensOf serve
  rw [List.foldl_map]
theorem l2Serve_eq {o : List Int} {ds : List (List Int)} (hf : Fld o ds) {s : List Int} (hs : Places s o.length) (h0 : 0 < s.length) : F_sp_l2Serve o ds s = some (serve ds s) := by
  have hc := hf.clients
  have key : L_sp_l2Serve_0 (s, (o, ds)) (0, 0) = some (serve ds s) :=
    (iter_fold (f := fun v => (S_sp_l2Serve_0 (s, (o, ds)) v).ev) (n := ds.length) (mk := fun k a => (a, (k : Int))) (I := fun k a => 0 ≤ a ∧ a ≤ (k : Int) * 99) (g := fun a j => a + near ds s j) (fin := fun a => a) (s0 := 0) (by simp)
      (fun j a hj ha => by
        have h1 := near_in hf hs h0 hj
        refine ⟨?_, by omega, by omega⟩
        simp (disch := omega) only [EV, S_sp_l2Serve_0, hj, l2Nearest_eq hf hs h0 hj]
        rfl)
      (fun a _ => by simp (disch := omega) only [EV, S_sp_l2Serve_0, Nat.lt_irrefl])).1
  unfold F_sp_l2Serve T_sp_l2Serve
  simp (disch := omega) only [EV, key]

/-! ### Reach -/
theorem foldl_max_start {l : List Int} (a : Int) (h : ∀ x ∈ l, x ≤ a) : l.foldl (fun a x => max a x) a = a := by
  induction l with
  | nil => rfl
  | cons x l ih =>
    rw [List.foldl_cons, Int.max_eq_left (h x List.mem_cons_self)]
    exact ih fun y hy => h y (List.mem_cons_of_mem _ hy)
theorem slicesMax_eq {l : List Int} (h0 : 0 < l.length) (hn : (l.length : Int) < 9223372036854775807) : F_slices_Max_Sint_int l = some (l.foldl (fun a x => max a x) (l.getD 0 0)) := by
  have mx : ∀ a x : Int, (if a < x then x else a) = max a x := fun a x => by
    by_cases h : a < x
    · rw [if_pos h, Int.max_eq_right (by omega)]
    · rw [if_neg h, Int.max_eq_left (by omega)]
  have key := (iter_foldl (f := fun v => (S_slices_Max_Sint_int_0 l v).ev) l 0 (mk := fun k a => (a, (k : Int))) (I := fun _ _ => True) (g := fun a x => max a x) (fin := fun a => a) (s0 := l.getD 0 0) trivial
    (fun k a hk _ => by
      refine ⟨?_, trivial⟩
      simp (disch := omega) only [EV, S_slices_Max_Sint_int_0, hk, mx]
      rfl)
    (fun a _ => by simp (disch := omega) only [EV, S_slices_Max_Sint_int_0, Nat.lt_irrefl])).1
  have key2 : L_slices_Max_Sint_int_0 l (l.getD 0 0, 1) = some (l.foldl (fun a x => max a x) (l.getD 0 0)) := by
    rw [← key]
    unfold L_slices_Max_Sint_int_0
    conv => rhs; rw [iter_eq]
    have z : Int.toNat 0 = 0 := rfl
    have z1 : ((0 : Nat) : Int) = 0 := rfl
    have h0' : (0 : Int) < (l.length : Int) := by omega
    simp (disch := omega) only [EV, S_slices_Max_Sint_int_0, h0, h0', z, z1, mx, Int.max_self]
    rfl
  unfold F_slices_Max_Sint_int T_slices_Max_Sint_int
  have z : Int.toNat 0 = 0 := rfl
  have h1 : ¬ (l.length : Int) < 1 := by omega
  simp (disch := omega) only [EV, h1, z, key2]
theorem max_zero {l : List Int} (h : ∀ x ∈ l, 0 ≤ x) : (l ++ [0]).foldl (fun a x => max a x) ((l ++ [0]).getD 0 0) = l.foldl (fun a x => max a x) 0 := by
  cases l with
  | nil => rfl
  | cons y l =>
    have h1 := h y List.mem_cons_self
    have hge : ∀ (l : List Int) (a : Int), a ≤ l.foldl (fun a x => max a x) a := by
      intro l
      induction l with
      | nil => intro a; exact Int.le_refl _
      | cons x l ih => intro a; exact Int.le_trans (Int.le_max_left a x) (ih _)
    rw [List.foldl_append]
    have e : ((y :: l) ++ [0]).getD 0 0 = y := rfl
    have := hge l y
    simp only [e, List.foldl_cons, List.foldl_nil, Int.max_self, Int.max_eq_right h1]
    omega

/-! ### Objectives -/
def valueOf (o : List Int) (ds : List (List Int)) (s : List Int) (k : Int) : Int :=
  if k = 1 then serve ds s else if k = 2 then pay o s else if k = 3 then pay o s + serve ds s else if k = 4 then far ds s else (s.length : Int)
def openB (o : List Int) (ds : List (List Int)) (s : List Int) : Bool := fieldB o ds && (risingB s 0 ((o.length : Int) - 1) && decide (0 < s.length))
theorem beq_dec (a b : Int) : (a == b) = decide (a = b) := by
  rw [Bool.eq_iff_iff]; simp

theorem openB_iff {o : List Int} {ds : List (List Int)} {s : List Int} (hs : Low1 s) (h : openB o ds s = true) : Fld o ds ∧ Places s o.length ∧ 0 < s.length := by
  unfold openB at h
  simp only [Bool.and_eq_true, decide_eq_true_eq] at h
  exact ⟨fieldB_iff.1 h.1, Places.of hs h.2.1, h.2.2⟩
def objOf (o : List Int) (ds : List (List Int)) (s : List Int) (k : Int) : Int × Bool := bif openB o ds s && isIn k 1 5 then (valueOf o ds s k, true) else (0, false)
def totalOf (o : List Int) (ds : List (List Int)) (s : List Int) (c : Int) : Int × Bool := bif atlasB o ds s c && decide (0 < s.length) then (pay o s + serve ds s, true) else (0, false)
theorem atlasB_fld {o : List Int} {ds : List (List Int)} {s : List Int} {c : Int} (hs : Low1 s) (h : atlasB o ds s c = true) : Fld o ds ∧ Places s o.length := by
  unfold atlasB at h
  simp only [Bool.and_eq_true] at h
  exact ⟨fieldB_iff.1 h.1, Places.of hs h.2.1⟩
end Go.Proofs.Ytlmbhkmaflhagaa
