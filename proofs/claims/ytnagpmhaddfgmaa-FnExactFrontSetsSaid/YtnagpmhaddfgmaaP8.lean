/-
 Plain laws: grounds, metric grounds.
-/
import Derived.Test.YtnagpmhaddfgmaaPM
namespace Go.Proofs.Ytnagpmhaddfgmaa
def at2 (x : List (List Int)) (i j : Nat) : Int := (x.getD i []).getD j 0
def wago (x : List (List Int)) (n i : Nat) : Bool := allIn (x.getD i []) 0 99 && (((x.getD i []).length : Int) == (n : Int))
structure Ground (x : List (List Int)) : Prop where
 row : ∀ i, i < x.length → wago x x.length i = true
 diag : ∀ i, i < x.length → at2 x i i = 0
 sym : ∀ i j, i < x.length → j < x.length → at2 x i j = at2 x j i
 len : x.length ≤ 7
theorem wso {x : List (List Int)} {n i : Nat} (h : wago x n i = true) : (x.getD i []).length = n := by
 simp only [wago, Bool.and_eq_true, beq_iff_eq] at h
 omega
theorem walq {x : List (List Int)} {n i j : Nat} (h : wago x n i = true) (hj : j < n) : 0 ≤ at2 x i j ∧ at2 x i j ≤ 99 := by
 have hl := wso h
 simp only [wago, Bool.and_eq_true] at h
 exact wiz h.1 (by omega)
theorem Ground.in {x : List (List Int)} (h : Ground x) {i j : Nat} (hi : i < x.length) (hj : j < x.length) : 0 ≤ at2 x i j ∧ at2 x i j ≤ 99 := walq (h.row i hi) hj
theorem Ground.rowLen {x : List (List Int)} (h : Ground x) {i : Nat} (hi : i < x.length) : (x.getD i []).length = x.length := wso (h.row i hi)
end Go.Proofs.Ytnagpmhaddfgmaa
/-
 Plain laws: rising lists, dispersion, allocations, the cost of hubs.
-/
namespace Go.Proofs.Ytnagpmhaddfgmaa
def wgp (l : List Int) (lo hi : Int) : Bool := (List.range l.length).all fun i => wnw (l.getD i 0) lo hi && (i == 0 || decide (l.getD (i - 1) 0 < l.getD i 0))
theorem wvc {l : List Int} {lo hi : Int} : wgp l lo hi = true ↔ (∀ x ∈ l, lo ≤ x ∧ x ≤ hi) ∧ l.Pairwise (· < ·) := by
 unfold wgp
 simp only [List.all_eq_true, List.mem_range, Bool.and_eq_true, Bool.or_eq_true, beq_iff_eq, decide_eq_true_eq, wyn]
 constructor
 ·intro h
  refine ⟨fun x hx => ?_, ?_⟩
  ·obtain ⟨i, hi, e⟩ := List.getElem_of_mem hx
   have := (h i hi).1
   rw [List.getD_eq_getElem?_getD, List.getElem?_eq_getElem hi] at this
   rw [← e]; exact this
  ·rw [List.pairwise_iff_getElem]
   have key : ∀ d i, i + d + 1 < l.length → l.getD i 0 < l.getD (i + d + 1) 0 := by
    intro d
    induction d with
    | zero =>
     intro i hi
     have := (h (i + 1) hi).2
     rcases this with h0 | h0
     ·omega
     ·simpa using h0
    | succ d ih =>
     intro i hi
     have h1 := ih i (by omega)
     have := (h (i + (d + 1) + 1) hi).2
     rcases this with h0 | h0
     ·omega
     ·have e : i + (d + 1) + 1 - 1 = i + d + 1 := by omega
      rw [e] at h0
      omega
   intro i j hi hj hij
   have := key (j - i - 1) i (by omega)
   rw [show i + (j - i - 1) + 1 = j by omega, List.getD_eq_getElem?_getD, List.getD_eq_getElem?_getD, List.getElem?_eq_getElem hi, List.getElem?_eq_getElem hj] at this
   exact this
 ·rintro ⟨h1, h2⟩ i hi
  refine ⟨h1 _ (getD_mem hi), ?_⟩
  by_cases e : i = 0
  ·exact .inl e
  ·right
   have := List.pairwise_iff_getElem.1 h2 (i - 1) i (by omega) hi (by omega)
   rw [List.getD_eq_getElem?_getD, List.getD_eq_getElem?_getD, List.getElem?_eq_getElem hi, List.getElem?_eq_getElem (by omega)]
   exact this
theorem waaq {l : List Int} {lo hi : Int} (h : wgp l lo hi = true) {i : Nat} (hi' : i < l.length) : lo ≤ l.getD i 0 ∧ l.getD i 0 ≤ hi := (wvc.1 h).1 _ (getD_mem hi')
def pl (s : List Int) (i : Nat) : Nat := (s.getD i 0).toNat
structure Places (s : List Int) (n : Nat) : Prop where
 low : (s.length : Int) ≤ 1048576
 mem : ∀ i, i < s.length → 0 ≤ s.getD i 0 ∧ s.getD i 0 < n
theorem Places.pl {s : List Int} {n : Nat} (h : Places s n) {i : Nat} (hi : i < s.length) : s.getD i 0 = (pl s i : Int) ∧ Go.Proofs.Ytnagpmhaddfgmaa.pl s i < n := by
 have := h.mem i hi
 unfold Go.Proofs.Ytnagpmhaddfgmaa.pl
 omega
theorem Places.of {s : List Int} {n : Nat} (hs : wgo s) (h : wgp s 0 ((n : Int) - 1) = true) : Places s n := ⟨hs, fun i hi => by have := waaq h hi; omega⟩
end Go.Proofs.Ytnagpmhaddfgmaa
/-
 Plain laws: fields, atlases.
-/
namespace Go.Proofs.Ytnagpmhaddfgmaa
def wht (o : List Int) (ds : List (List Int)) : Bool := wnw (o.length : Int) 1 7 && (allIn o 0 99 && (decide ((ds.length : Int) ≤ 7) && ds.all fun r => decide (r.length = o.length) && allIn r 0 99))
structure Fld (o : List Int) (ds : List (List Int)) : Prop where
 pos : 1 ≤ o.length
 len : o.length ≤ 7
 cost : ∀ i, i < o.length → 0 ≤ o.getD i 0 ∧ o.getD i 0 ≤ 99
 clients : ds.length ≤ 7
 rowLen : ∀ j, j < ds.length → (ds.getD j []).length = o.length
 dist : ∀ j i, j < ds.length → i < o.length → 0 ≤ (ds.getD j []).getD i 0 ∧ (ds.getD j []).getD i 0 ≤ 99
theorem waar {o : List Int} {ds : List (List Int)} : wht o ds = true ↔ Fld o ds := by
 unfold wht
 simp only [Bool.and_eq_true, decide_eq_true_eq, List.all_eq_true, wyn]
 constructor
 ·rintro ⟨⟨h1, h2⟩, h3, h4, h5⟩
  have h6 : ∀ j, j < ds.length → (ds.getD j []).length = o.length ∧ allIn (ds.getD j []) 0 99 = true := fun j hj => h5 _ (getD_mem (d := []) hj)
  exact ⟨by omega, by omega, fun i hi => wiz h3 hi, by omega, fun j hj => (h6 j hj).1, fun j i hj hi => wiz (h6 j hj).2 (by rw [(h6 j hj).1]; exact hi)⟩
 ·rintro ⟨h1, h2, h3, h4, h5, h6⟩
  refine ⟨by omega, wmx.2 fun a ha => ?_, by omega, fun r hr => ?_⟩
  ·obtain ⟨i, hi, e⟩ := List.getElem_of_mem ha
   have := h3 i hi
   rw [List.getD_eq_getElem?_getD, List.getElem?_eq_getElem hi, Option.getD_some, e] at this
   exact this
  ·obtain ⟨j, hj, e⟩ := List.getElem_of_mem hr
   have e2 : ds.getD j [] = r := by rw [List.getD_eq_getElem?_getD, List.getElem?_eq_getElem hj, Option.getD_some, e]
   have h7 := h5 j hj
   rw [e2] at h7
   refine ⟨h7, wmx.2 fun a ha => ?_⟩
   obtain ⟨i, hi, e3⟩ := List.getElem_of_mem ha
   have := h6 j i hj (by omega)
   rw [e2, List.getD_eq_getElem?_getD, List.getElem?_eq_getElem hi, Option.getD_some, e3] at this
   exact this
theorem wagp {o : List Int} {ds : List (List Int)} (ho : wgo o) (hd : wsa ds) : wajz o ds = some (wht o ds) := by
 have hl := hd.1
 have h0 : waew ((o.length : Int), (o, ds)) 0 = _ := whp (f := fun v => (wmi ((o.length : Int), (o, ds)) v).ev) (n := ds.length) (mk := fun i => (i : Int)) (p := fun i => decide ((ds.getD i []).length = o.length) && allIn (ds.getD i []) 0 99) (yes := .inl ()) (no := .inr ()) (fun i hi _ => by
   simp (disch := omega) only [EV, wmi, hi, wyo (hd.2 _ (getD_mem (d := []) hi)), int_eq]
   cases allIn (ds.getD i []) 0 99 <;> cases decide ((ds.getD i []).length = o.length) <;> rfl) (by simp (disch := omega) only [EV, wmi, Nat.lt_irrefl])
 rw [wmw ds [] (fun r => decide (r.length = o.length) && allIn r 0 99)] at h0
 unfold wajz wass wht
 simp (disch := omega) only [EV, h0, wux, wyo ho, int_eq]
 cases ds.all (fun r => decide (r.length = o.length) && allIn r 0 99) <;> cases wnw (o.length : Int) 1 7 <;> cases allIn o 0 99 <;> cases decide ((ds.length : Int) ≤ 7) <;> rfl
theorem waas {o : List Int} {ds : List (List Int)} (ho : wgo o) (hd : wsa ds) : F_zp o ds = some (wht o ds) := by
 have hl := hd.1
 have hc := wjb (l := ds) (show (ds.length : Int) < 9223372036854775807 by omega) (p := fun a => Option.bind (F_zq a.1 o ds) fun y => some y) (q := fun r => !(decide (r.length = o.length) && allIn r 0 99)) fun r hr => by
  unfold F_zq T_zq
  simp (disch := omega) only [EV, whq (hd.2 r hr), int_ne]
  cases decide (r.length = o.length) <;> cases allIn r 0 99 <;> rfl
 unfold F_zp T_zp wht
 simp (disch := omega) only [EV, wja, whq ho, hc]
 rw [List.any_eq_not_all_not]
 simp only [Bool.not_not]
 cases wnw (o.length : Int) 1 7 <;> cases allIn o 0 99 <;> by_cases h : (ds.length : Int) ≤ 7 <;> simp only [h, decide_true, decide_false, if_true, if_false] <;> rfl
theorem waat {o : List Int} {ds : List (List Int)} {b : Int} (ho : Fit1 o) (hd : Fit2 ds) (h0 : 0 ≤ b) (h1 : b ≤ 1048576) : Sz (wajw o ds b) (wgo o ∧ wsa ds) := by
 unfold wajw wary
 obtain ⟨r, e1, k1, k2⟩ := wsc ho h0 h1
 simp (disch := omega) only [EV, e1]
 by_cases hr : r < 0
 ·simp (disch := omega) only [EV, hr]
  exact ⟨_, rfl, by omega, fun h => by omega⟩
 ·obtain ⟨r2, e2, k3, k4⟩ := waaj hd (show 0 ≤ r by omega) k1
  simp (disch := omega) only [EV, hr, e2]
  by_cases hr2 : r2 < 0
  ·simp (disch := omega) only [EV, hr2]
   exact ⟨_, rfl, by omega, fun h => by omega⟩
  ·simp (disch := omega) only [EV, hr2]
   exact ⟨_, rfl, k3, fun h => ⟨k2 (by omega), k4 h⟩⟩
theorem waau {o : List Int} {ds : List (List Int)} (ho : wgo o) (hd : wsa ds) : wuv o ds = some (o, ds) := by
 unfold wuv wask
 simp (disch := omega) only [EV, wsd ho, waak hd]
theorem waav {o o' : List Int} {ds ds' : List (List Int)} (ho : wgo o) (hd : wsa ds) : wald o ds o' ds' = some ((o == o') && (ds == ds')) := by
 unfold wald wavt
 simp (disch := omega) only [EV, wsf ho, woo hd]
 cases (o == o') <;> cases (ds == ds') <;> rfl
end Go.Proofs.Ytnagpmhaddfgmaa
/-
 Plain laws: what a set of sites serves: lengths, service, payment, total, reach; values of objectives.
-/
namespace Go.Proofs.Ytnagpmhaddfgmaa
theorem Fld.at2 {o : List Int} {ds : List (List Int)} (h : Fld o ds) {j i : Nat} (hj : j < ds.length) (hi : i < o.length) : 0 ≤ at2 ds j i ∧ at2 ds j i ≤ 99 := h.dist j i hj hi
def wgq (ds : List (List Int)) (j : Nat) (s : List Int) (b k : Nat) : Nat := if at2 ds j (pl s k) < at2 ds j b then pl s k else b
def srv (ds : List (List Int)) (j : Nat) (s : List Int) : Nat := (List.range s.length).foldl (wgq ds j s) (pl s 0)
def near (ds : List (List Int)) (s : List Int) (j : Nat) : Int := at2 ds j (srv ds j s)
def pay (o s : List Int) : Int := (List.range s.length).foldl (fun a k => a + o.getD (pl s k) 0) 0
def serve (ds : List (List Int)) (s : List Int) : Int := (List.range ds.length).foldl (fun a j => a + near ds s j) 0
def far (ds : List (List Int)) (s : List Int) : Int := (List.range ds.length).foldl (fun a j => max a (near ds s j)) 0
def wfq (ds : List (List Int)) (s : List Int) : List Int := (List.range ds.length).map (near ds s)
theorem wagq {α S : Type} {g : S → α → S} (Q : S → Prop) {l : List α} (h : ∀ s a, a ∈ l → Q s → Q (g s a)) {s : S} (hs : Q s) : Q (l.foldl g s) := by
 induction l generalizing s with
 | nil => exact hs
 | cons a l ih => exact ih (fun s b hb => h s b (List.mem_cons_of_mem _ hb)) (h s a List.mem_cons_self hs)
theorem wjc {ds : List (List Int)} {j : Nat} {s : List Int} {n b k : Nat} (hs : Places s n) (hk : k < s.length) (hb : b < n) : wgq ds j s b k < n := by
 unfold wgq
 split
 ·exact (hs.pl hk).2
 ·exact hb
theorem wagr {ds : List (List Int)} {j : Nat} {s : List Int} {n : Nat} (hs : Places s n) (h0 : 0 < s.length) : srv ds j s < n :=
 wagq (fun b => b < n) (fun _ _ hk hb => wjc hs (List.mem_range.1 hk) hb) (hs.pl h0).2
theorem wqh {o : List Int} {ds : List (List Int)} (hf : Fld o ds) {s : List Int} (hs : Places s o.length) (h0 : 0 < s.length) {j : Nat} (hj : j < ds.length) : 0 ≤ near ds s j ∧ near ds s j ≤ 99 := hf.at2 hj (wagr hs h0)
theorem wsp {α : Type} {l : List α} {f : α → Int} {B : Int} (h : ∀ a ∈ l, 0 ≤ f a ∧ f a ≤ B) (a0 : Int) : a0 ≤ l.foldl (fun a x => a + f x) a0 ∧ l.foldl (fun a x => a + f x) a0 ≤ a0 + (l.length : Int) * B := by
 induction l generalizing a0 with
 | nil => simp
 | cons x l ih =>
  have h1 := ih (fun a ha => h a (List.mem_cons_of_mem _ ha)) (a0 + f x)
  have h2 := h x List.mem_cons_self
  simp only [List.foldl_cons, List.length_cons]
  have e : ((l.length + 1 : Nat) : Int) * B = (l.length : Int) * B + B := by
   rw [Int.natCast_add, Int.add_mul]; simp
  rw [e]
  omega
theorem wyr {o : List Int} {ds : List (List Int)} (hf : Fld o ds) {s : List Int} (hs : Places s o.length) (h0 : 0 < s.length) : 0 ≤ serve ds s ∧ serve ds s ≤ 693 := by
 have := wsp (l := List.range ds.length) (f := near ds s) (B := 99) (fun j hj => wqh hf hs h0 (List.mem_range.1 hj)) 0
 have hc := hf.clients
 unfold serve
 simp only [List.length_range] at this
 omega
theorem waoa {o : List Int} {ds : List (List Int)} (hf : Fld o ds) {s : List Int} (hs : Places s o.length) : 0 ≤ pay o s ∧ pay o s ≤ 103809024 := by
 have := wsp (l := List.range s.length) (f := fun k => o.getD (pl s k) 0) (B := 99) (fun k hk => hf.cost _ (hs.pl (List.mem_range.1 hk)).2) 0
 have hc := hs.low
 unfold pay
 simp only [List.length_range] at this
 omega
theorem wags {o : List Int} {ds : List (List Int)} (hf : Fld o ds) {s : List Int} (hs : Places s o.length) (h0 : 0 < s.length) {j : Nat} (hj : j < ds.length) : waki o ds (j : Int) s = some (srv ds j s : Int) := by
 have hlow := hs.low
 have hr := hf.rowLen j hj
 have hlen := hf.len
 have key : wpy ((j : Int), (s, (o, ds))) ((pl s 0 : Int), 0) = some (srv ds j s : Int) :=
  (wbh (f := fun v => (wiy ((j : Int), (s, (o, ds))) v).ev) (n := s.length) (mk := fun k (b : Nat) => ((b : Int), (k : Int))) (I := fun _ b => b < o.length) (g := wgq ds j s) (fin := fun b => (b : Int)) (s0 := pl s 0) (hs.pl h0).2
   (fun k b hk hb => by
    obtain ⟨e1, h1⟩ := hs.pl hk
    have e3 : (ds.getD j []).getD (pl s k) 0 = at2 ds j (pl s k) := rfl
    have e4 : (ds.getD j []).getD b 0 = at2 ds j b := rfl
    refine ⟨?_, wjc hs hk hb⟩
    simp (disch := omega) only [EV, wiy, hj, hk, e1, hr, h1, hb, e3, e4]
    unfold wgq
    split <;> rfl)
   (fun b _ => by simp (disch := omega) only [EV, wiy, Nat.lt_irrefl])).1
 have key2 : wpy ((j : Int), (s, (o, ds))) ((pl s 0 : Int), 1) = some (srv ds j s : Int) := by
  rw [← key]
  unfold wpy
  conv => rhs; rw [wac]
  obtain ⟨e1, h1⟩ := hs.pl h0
  have e3 : (ds.getD j []).getD (pl s 0) 0 = at2 ds j (pl s 0) := rfl
  have z : Int.toNat 0 = 0 := rfl
  simp (disch := omega) only [EV, wiy, hj, h0, z, e1, hr, h1, e3, Int.lt_irrefl, show (0 : Int) < (s.length : Int) by omega]
  rfl
 unfold waki wato
 have z : Int.toNat 0 = 0 := rfl
 simp (disch := omega) only [EV, z, (hs.pl h0).1, key2]
theorem wjm {o : List Int} {ds : List (List Int)} (hf : Fld o ds) {s : List Int} (hs : Places s o.length) (h0 : 0 < s.length) {j : Nat} (hj : j < ds.length) : wafb o ds (j : Int) s = some (near ds s j) := by
 have hr := hf.rowLen j hj
 have hb : srv ds j s < o.length := wagr hs h0
 unfold wafb watt
 have e3 : (ds.getD j []).getD (srv ds j s) 0 = near ds s j := rfl
 simp (disch := omega) only [EV, hj, wags hf hs h0 hj, hr, hb, e3]
theorem wagt {o : List Int} {ds : List (List Int)} (hf : Fld o ds) {s : List Int} (hs : Places s o.length) (h0 : 0 < s.length) {j : Nat} (hj : j < ds.length) : F_zj o ds (j : Int) s = some (srv ds j s : Int) := by
 have hlow := hs.low
 have hr := hf.rowLen j hj
 have hlen := hf.len
 have key : wanc ((j : Int), (s, ((s.length : Int), (o, ds)))) ((pl s 0 : Int), 0) = some (srv ds j s : Int) :=
  (wbh (f := fun v => (wrv ((j : Int), (s, ((s.length : Int), (o, ds)))) v).ev) (n := s.length) (mk := fun k (b : Nat) => ((b : Int), (k : Int))) (I := fun _ b => b < o.length) (g := wgq ds j s) (fin := fun b => (b : Int)) (s0 := pl s 0) (hs.pl h0).2
   (fun k b hk hb => by
    obtain ⟨e1, h1⟩ := hs.pl hk
    have e3 : (ds.getD j []).getD (pl s k) 0 = at2 ds j (pl s k) := rfl
    have e4 : (ds.getD j []).getD b 0 = at2 ds j b := rfl
    refine ⟨?_, wjc hs hk hb⟩
    simp (disch := omega) only [EV, wrv, hj, hk, e1, hr, h1, hb, e3, e4]
    unfold wgq
    split <;> rfl)
   (fun b _ => by simp (disch := omega) only [EV, wrv, Nat.lt_irrefl])).1
 unfold F_zj T_zj
 have z : Int.toNat 0 = 0 := rfl
 simp (disch := omega) only [EV, z, (hs.pl h0).1, key]
theorem wys {V R α : Type} {f : V → Option (V ⊕ R)} {n : Nat} (mk : Nat → List α → V) (g : Nat → α) (fin : List α → R)
  (hstep : ∀ i l, i < n → l.length = i → f (mk i l) = some (.inl (mk (i + 1) (l ++ [g i])))) (hend : ∀ l, l.length = n → f (mk n l) = some (.inr (fin l))) : iter f (mk 0 []) = some (fin ((List.range n).map g)) := by
 have := (wbh (f := f) (n := n) mk (fun i l => l.length = i) (fun l i => l ++ [g i]) fin (s0 := []) rfl (fun i l hi hl => ⟨hstep i l hi hl, by simp [hl]⟩) hend).1
 rw [this]
 congr 2
 have : ∀ (l : List Nat) (acc : List α), l.foldl (fun l i => l ++ [g i]) acc = acc ++ l.map g := by
  intro l
  induction l with
  | nil => simp
  | cons x l ih => intro acc; simp [ih]
 rw [this]; simp
theorem wagu {o : List Int} {ds : List (List Int)} (hf : Fld o ds) {s : List Int} (hs : Places s o.length) (h0 : 0 < s.length) : F_zi o ds s = some ((List.range ds.length).map fun j => (srv ds j s : Int)) := by
 have hc := hf.clients
 have key : wand (s, ((ds.length : Int), (o, ds))) (0, []) = some ((List.range ds.length).map fun j => (srv ds j s : Int)) :=
  wys (f := fun v => (wrw (s, ((ds.length : Int), (o, ds))) v).ev) (n := ds.length) (mk := fun k (l : List Int) => ((k : Int), l)) (fun j => (srv ds j s : Int)) (fun l => l)
   (fun j l hj hl => by
    have e : (l.length + List.length [(srv ds j s : Int)]) * 8 ≤ 140737488355328 := by simp; omega
    simp (disch := omega) only [EV, wrw, hj, wagt hf hs h0 hj, e]
    rfl) (fun l _ => by simp (disch := omega) only [EV, wrw, Nat.lt_irrefl])
 unfold F_zi T_zi
 simp (disch := omega) only [EV, key]
theorem wor {o : List Int} {ds : List (List Int)} (hf : Fld o ds) {s : List Int} (hs : Places s o.length) (h0 : 0 < s.length) : F_zf o ds s = some (wfq ds s) := by
 have hc := hf.clients
 unfold F_zf T_zf
 simp (disch := omega) only [EV, wagu hf hs h0]
 generalize hr : ((List.range ds.length).map fun j => (srv ds j s : Int)) = r
 have hrl : r.length = ds.length := by rw [← hr]; simp
 have hrg : ∀ j, j < ds.length → r.getD j 0 = (srv ds j s : Int) := fun j hj => by rw [← hr, List.getD_eq_getElem?_getD, List.getElem?_map, List.getElem?_range hj]; rfl
 have key : wane ((r.length : Int), (o, (ds, r))) (0, []) = some (wfq ds s) :=
  wys (f := fun v => (wrx ((r.length : Int), (o, (ds, r))) v).ev) (n := ds.length) (mk := fun k (l : List Int) => ((k : Int), l)) (near ds s) (fun l => l)
   (fun j l hj hl => by
    have hb : srv ds j s < o.length := wagr hs h0
    have e3 : (ds.getD j []).getD (srv ds j s) 0 = near ds s j := rfl
    have e : ∀ x : Int, (l.length + List.length [x]) * 8 ≤ 140737488355328 := fun x => by simp; omega
    simp (disch := omega) only [EV, wrx, hj, hrl, hrg j hj, hf.rowLen j hj, hb, e3, e]
    rfl) (fun l _ => by simp (disch := omega) only [EV, wrx, hrl, Nat.lt_irrefl])
 simp (disch := omega) only [EV, key]
theorem wagv {l : List Int} {B : Int} (hl : (l.length : Int) * B < 9223372036854775808) (hn : (l.length : Int) < 9223372036854775807) (h : ∀ a ∈ l, 0 ≤ a ∧ a ≤ B) : wajn l = some (l.foldl (fun a x => a + x) 0) := by
 have key := wej (f := fun v => (wlr (l, (l.length : Int)) v).ev) l 0 (mk := fun k a => (a, (k : Int))) (I := fun k a => 0 ≤ a ∧ a ≤ (k : Int) * B) (g := fun a x => a + x) (fin := fun a => a) (s0 := 0) (by simp)
  (fun k a hk ha => by
   have h1 := h _ (getD_mem (d := 0) hk)
   have h2 : ((k + 1 : Nat) : Int) * B = (k : Int) * B + B := by rw [Int.natCast_add, Int.add_mul]; simp
   have hB : 0 ≤ B := by omega
   have h3 : ((k + 1 : Nat) : Int) * B ≤ (l.length : Int) * B := Int.mul_le_mul_of_nonneg_right (by omega) hB
   refine ⟨?_, by omega, by omega⟩
   simp (disch := omega) only [EV, wlr, hk]
   rfl)
  (fun a _ => by simp (disch := omega) only [EV, wlr, Nat.lt_irrefl])
 unfold wajn waqr
 have k1 : waek (l, (l.length : Int)) (0, 0) = _ := key.1
 simp (disch := omega) only [EV, k1]
theorem wos {o : List Int} {ds : List (List Int)} (hf : Fld o ds) {s : List Int} (hs : Places s o.length) (h0 : 0 < s.length) : F_zk o ds s = some (serve ds s) := by
 have hc := hf.clients
 unfold F_zk T_zk
 have hl : (wfq ds s).length = ds.length := by simp [wfq]
 simp (disch := omega) only [EV, wor hf hs h0, wagv (l := wfq ds s) (B := 99) (by omega) (by omega) (fun a ha => by
  obtain ⟨j, hj, rfl⟩ := List.mem_map.1 ha
  exact wqh hf hs h0 (List.mem_range.1 hj))]
 unfold wfq serve
 rw [List.foldl_map]
theorem wot {o : List Int} {ds : List (List Int)} (hf : Fld o ds) {s : List Int} (hs : Places s o.length) (h0 : 0 < s.length) : wafd o ds s = some (serve ds s) := by
 have hc := hf.clients
 have key : wafc (s, (o, ds)) (0, 0) = some (serve ds s) :=
  (wbh (f := fun v => (wmj (s, (o, ds)) v).ev) (n := ds.length) (mk := fun k a => (a, (k : Int))) (I := fun k a => 0 ≤ a ∧ a ≤ (k : Int) * 99) (g := fun a j => a + near ds s j) (fin := fun a => a) (s0 := 0) (by simp)
   (fun j a hj ha => by
    have h1 := wqh hf hs h0 hj
    refine ⟨?_, by omega, by omega⟩
    simp (disch := omega) only [EV, wmj, hj, wjm hf hs h0 hj]
    rfl)
   (fun a _ => by simp (disch := omega) only [EV, wmj, Nat.lt_irrefl])).1
 unfold wafd watu
 simp (disch := omega) only [EV, key]
theorem wyt {o : List Int} {ds : List (List Int)} (hf : Fld o ds) {s : List Int} (hs : Places s o.length) : waff o ds s = some (pay o s) := by
 have hlow := hs.low
 have key : wafe (s, (o, ds)) (0, 0) = some (pay o s) :=
  (wbh (f := fun v => (wmk (s, (o, ds)) v).ev) (n := s.length) (mk := fun k a => (a, (k : Int))) (I := fun k a => 0 ≤ a ∧ a ≤ (k : Int) * 99) (g := fun a k => a + o.getD (pl s k) 0) (fin := fun a => a) (s0 := 0) (by simp)
   (fun k a hk ha => by
    obtain ⟨e1, h1⟩ := hs.pl hk
    have h2 := hf.cost _ h1
    refine ⟨?_, by omega, by omega⟩
    simp (disch := omega) only [EV, wmk, hk, e1, h1]
    rfl)
   (fun a _ => by simp (disch := omega) only [EV, wmk, Nat.lt_irrefl])).1
 unfold waff waty
 simp (disch := omega) only [EV, key]
theorem wou {o : List Int} {ds : List (List Int)} (hf : Fld o ds) {s : List Int} (hs : Places s o.length) : F_zg o ds s = some (pay o s) := by
 have hlow := hs.low
 have key : wanf (s, ((s.length : Int), (o, ds))) (0, 0) = some (pay o s) :=
  (wbh (f := fun v => (wry (s, ((s.length : Int), (o, ds))) v).ev) (n := s.length) (mk := fun k a => (a, (k : Int))) (I := fun k a => 0 ≤ a ∧ a ≤ (k : Int) * 99) (g := fun a k => a + o.getD (pl s k) 0) (fin := fun a => a) (s0 := 0) (by simp)
   (fun k a hk ha => by
    obtain ⟨e1, h1⟩ := hs.pl hk
    have h2 := hf.cost _ h1
    refine ⟨?_, by omega, by omega⟩
    simp (disch := omega) only [EV, wry, hk, e1, h1]
    rfl)
   (fun a _ => by simp (disch := omega) only [EV, wry, Nat.lt_irrefl])).1
 unfold F_zg T_zg
 simp (disch := omega) only [EV, key]
theorem waaw {o : List Int} {ds : List (List Int)} (hf : Fld o ds) {s : List Int} (hs : Places s o.length) (h0 : 0 < s.length) : wakm o ds s = some (pay o s + serve ds s) := by
 have h1 := wyr hf hs h0
 have h2 := waoa hf hs
 unfold wakm wauc
 simp (disch := omega) only [EV, wot hf hs h0, wyt hf hs]
 rw [Int.add_comm]
theorem walr {o : List Int} {ds : List (List Int)} (hf : Fld o ds) {s : List Int} (hs : Places s o.length) (h0 : 0 < s.length) : F_zl o ds s = some (pay o s + serve ds s) := by
 have h1 := wyr hf hs h0
 have h2 := waoa hf hs
 unfold F_zl T_zl
 simp (disch := omega) only [EV, wos hf hs h0, wou hf hs]
theorem wsq {l : List Int} (h0 : 0 < l.length) (hn : (l.length : Int) < 9223372036854775807) : wajo l = some (l.foldl (fun a x => max a x) (l.getD 0 0)) := by
 have mx : ∀ a x : Int, (if a < x then x else a) = max a x := fun a x => by
  by_cases h : a < x
  ·rw [if_pos h, Int.max_eq_right (by omega)]
  ·rw [if_neg h, Int.max_eq_left (by omega)]
 have key := (wej (f := fun v => (wir l v).ev) l 0 (mk := fun k a => (a, (k : Int))) (I := fun _ _ => True) (g := fun a x => max a x) (fin := fun a => a) (s0 := l.getD 0 0) trivial
  (fun k a hk _ => by
   refine ⟨?_, trivial⟩
   simp (disch := omega) only [EV, wir, hk, mx]
   rfl)
  (fun a _ => by simp (disch := omega) only [EV, wir, Nat.lt_irrefl])).1
 have key2 : wum l (l.getD 0 0, 1) = some (l.foldl (fun a x => max a x) (l.getD 0 0)) := by
  rw [← key]
  unfold wum
  conv => rhs; rw [wac]
  have z : Int.toNat 0 = 0 := rfl
  have z1 : ((0 : Nat) : Int) = 0 := rfl
  have h0' : (0 : Int) < (l.length : Int) := by omega
  simp (disch := omega) only [EV, wir, h0, h0', z, z1, mx, Int.max_self]
  rfl
 unfold wajo waqw
 have z : Int.toNat 0 = 0 := rfl
 have h1 : ¬ (l.length : Int) < 1 := by omega
 simp (disch := omega) only [EV, h1, z, key2]
theorem wals {l : List Int} (h : ∀ x ∈ l, 0 ≤ x) : (l ++ [0]).foldl (fun a x => max a x) ((l ++ [0]).getD 0 0) = l.foldl (fun a x => max a x) 0 := by
 cases l with
 | nil => rfl
 | cons y l =>
  have h1 := h y List.mem_cons_self
  have hge : ∀ (l : List Int) (a : Int), a ≤ l.foldl (fun a x => max a x) a := by
   intro l
   induction l with
   | nil => intro a; exact Int.le_refl _
   | cons x l ih => intro a; exact Int.le_trans (Int.le_max_left a x) (ih _)
  rw [List.foldl_append]
  have e : ((y :: l) ++ [0]).getD 0 0 = y := rfl
  have := hge l y
  simp only [e, List.foldl_cons, List.foldl_nil, Int.max_self, Int.max_eq_right h1]
  omega
theorem walt {o : List Int} {ds : List (List Int)} (hf : Fld o ds) {s : List Int} (hs : Places s o.length) (h0 : 0 < s.length) : wako o ds s = some (far ds s) := by
 have hc := hf.clients
 have key : wafg (s, (o, ds)) (0, 0) = some (far ds s) :=
  (wbh (f := fun v => (wml (s, (o, ds)) v).ev) (n := ds.length) (mk := fun k a => (a, (k : Int))) (I := fun _ _ => True) (g := fun a j => max a (near ds s j)) (fin := fun a => a) (s0 := 0) trivial
   (fun j a hj _ => by
    refine ⟨?_, trivial⟩
    simp (disch := omega) only [EV, wml, hj, wjm hf hs h0 hj, wafz]
    rfl)
   (fun a _ => by simp (disch := omega) only [EV, wml, Nat.lt_irrefl])).1
 unfold wako waug
 simp (disch := omega) only [EV, key]
theorem reach_eq {o : List Int} {ds : List (List Int)} (hf : Fld o ds) {s : List Int} (hs : Places s o.length) (h0 : 0 < s.length) : F_zh o ds s = some (far ds s) := by
 have hc := hf.clients
 have hl : (wfq ds s).length = ds.length := by simp [wfq]
 unfold F_zh T_zh
 have e : ((wfq ds s).length + List.length [(0 : Int)]) * 8 ≤ 140737488355328 := by simp; omega
 simp (disch := omega) only [EV, wor hf hs h0, e, wsq (l := wfq ds s ++ [0]) (by simp) (by simp; omega)]
 rw [wals fun x hx => by
  obtain ⟨j, hj, rfl⟩ := List.mem_map.1 hx
  exact (wqh hf hs h0 (List.mem_range.1 hj)).1]
 unfold wfq far
 rw [List.foldl_map]
def valueOf (o : List Int) (ds : List (List Int)) (s : List Int) (k : Int) : Int :=
 if k = 1 then serve ds s else if k = 2 then pay o s else if k = 3 then pay o s + serve ds s else if k = 4 then far ds s else (s.length : Int)
theorem wagw (a b : Int) : (a == b) = decide (a = b) := by
 rw [Bool.eq_iff_iff]; simp
theorem wvd {o : List Int} {ds : List (List Int)} (hf : Fld o ds) {s : List Int} (hs : Places s o.length) (h0 : 0 < s.length) (k : Int) : wafh o ds s k = some (valueOf o ds s k) := by
 unfold wafh waul valueOf
 simp (disch := omega) only [EV, wot hf hs h0, wyt hf hs, waaw hf hs h0, walt hf hs h0, wagw]
 by_cases h1 : k = 1 <;> by_cases h2 : k = 2 <;> by_cases h3 : k = 3 <;> by_cases h4 : k = 4 <;> simp [h1, h2, h3, h4]
theorem walu {o : List Int} {ds : List (List Int)} (hf : Fld o ds) {s : List Int} (hs : Places s o.length) (h0 : 0 < s.length) (k : Int) : F_zm o ds s k = some (valueOf o ds s k) := by
 unfold F_zm T_zm valueOf
 simp (disch := omega) only [EV, wos hf hs h0, wou hf hs, walr hf hs h0, reach_eq hf hs h0, wagw]
 by_cases h1 : k = 1 <;> by_cases h2 : k = 2 <;> by_cases h3 : k = 3 <;> by_cases h4 : k = 4 <;> simp [h1, h2, h3, h4]
end Go.Proofs.Ytnagpmhaddfgmaa
