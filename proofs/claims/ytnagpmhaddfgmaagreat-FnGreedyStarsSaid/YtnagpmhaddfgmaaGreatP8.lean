/-
 Plain laws: grounds, metric grounds.
-/
import Derived.Test.YtnagpmhaddfgmaaGreatPM
namespace Go.Proofs.YtnagpmhaddfgmaaGreat
def at2 (x : List (List Int)) (i j : Nat) : Int := (x.getD i []).getD j 0
def wapr (x : List (List Int)) (n i : Nat) : Bool := allIn (x.getD i []) 0 99 && (((x.getD i []).length : Int) == (n : Int))
structure Ground (x : List (List Int)) : Prop where
 row : ∀ i, i < x.length → wapr x x.length i = true
 diag : ∀ i, i < x.length → at2 x i i = 0
 sym : ∀ i j, i < x.length → j < x.length → at2 x i j = at2 x j i
 len : x.length ≤ 7
theorem wwl {x : List (List Int)} {n i : Nat} (h : wapr x n i = true) : (x.getD i []).length = n := by
 simp only [wapr, Bool.and_eq_true, beq_iff_eq] at h
 omega
theorem wayl {x : List (List Int)} {n i j : Nat} (h : wapr x n i = true) (hj : j < n) : 0 ≤ at2 x i j ∧ at2 x i j ≤ 99 := by
 have hl := wwl h
 simp only [wapr, Bool.and_eq_true] at h
 exact wky h.1 (by omega)
theorem Ground.in {x : List (List Int)} (h : Ground x) {i j : Nat} (hi : i < x.length) (hj : j < x.length) : 0 ≤ at2 x i j ∧ at2 x i j ≤ 99 := wayl (h.row i hi) hj
theorem Ground.rowLen {x : List (List Int)} (h : Ground x) {i : Nat} (hi : i < x.length) : (x.getD i []).length = x.length := wwl (h.row i hi)
end Go.Proofs.YtnagpmhaddfgmaaGreat
/-
 Plain laws: rising lists, dispersion, allocations, the cost of hubs.
-/
namespace Go.Proofs.YtnagpmhaddfgmaaGreat
def wch (l : List Int) (lo hi : Int) : Bool := (List.range l.length).all fun i => wmc (l.getD i 0) lo hi && (i == 0 || decide (l.getD (i - 1) 0 < l.getD i 0))
theorem wpf {l : List Int} {lo hi : Int} : wch l lo hi = true ↔ (∀ x ∈ l, lo ≤ x ∧ x ≤ hi) ∧ l.Pairwise (· < ·) := by
 unfold wch
 simp only [List.all_eq_true, List.mem_range, Bool.and_eq_true, Bool.or_eq_true, beq_iff_eq, decide_eq_true_eq, wafd]
 constructor
 ·intro h
  refine ⟨fun x hx => ?_, ?_⟩
  ·obtain ⟨i, hi, e⟩ := List.getElem_of_mem hx
   have := (h i hi).1
   rw [List.getD_eq_getElem?_getD, List.getElem?_eq_getElem hi] at this
   rw [← e]; exact this
  ·rw [List.pairwise_iff_getElem]
   have key : ∀ d i, i + d + 1 < l.length → l.getD i 0 < l.getD (i + d + 1) 0 := by
    intro d
    induction d with
    | zero =>
     intro i hi
     have := (h (i + 1) hi).2
     rcases this with h0 | h0
     ·omega
     ·simpa using h0
    | succ d ih =>
     intro i hi
     have h1 := ih i (by omega)
     have := (h (i + (d + 1) + 1) hi).2
     rcases this with h0 | h0
     ·omega
     ·have e : i + (d + 1) + 1 - 1 = i + d + 1 := by omega
      rw [e] at h0
      omega
   intro i j hi hj hij
   have := key (j - i - 1) i (by omega)
   rw [show i + (j - i - 1) + 1 = j by omega, List.getD_eq_getElem?_getD, List.getD_eq_getElem?_getD, List.getElem?_eq_getElem hi, List.getElem?_eq_getElem hj] at this
   exact this
 ·rintro ⟨h1, h2⟩ i hi
  refine ⟨h1 _ (getD_mem hi), ?_⟩
  by_cases e : i = 0
  ·exact .inl e
  ·right
   have := List.pairwise_iff_getElem.1 h2 (i - 1) i (by omega) hi (by omega)
   rw [List.getD_eq_getElem?_getD, List.getD_eq_getElem?_getD, List.getElem?_eq_getElem hi, List.getElem?_eq_getElem (by omega)]
   exact this
theorem wahr {l : List Int} {lo hi : Int} (h : wch l lo hi = true) {i : Nat} (hi' : i < l.length) : lo ≤ l.getD i 0 ∧ l.getD i 0 ≤ hi := (wpf.1 h).1 _ (getD_mem hi')
theorem waaf {l : List Int} (hl : wdp l) (lo hi : Int) : wawk l lo hi = some (wch l lo hi) := by
 unfold wdp at hl
 have h0 : wanx (l, (lo, hi)) 0 = _ := wcr (f := fun v => (wkr (l, (lo, hi)) v).ev) (n := l.length) (mk := fun i => (i : Int)) (p := fun i => wmc (l.getD i 0) lo hi && (i == 0 || decide (l.getD (i - 1) 0 < l.getD i 0))) (yes := .inl ()) (no := .inr ()) (fun i hi' _ => by
   cases i with
   | zero =>
    simp (disch := omega) only [EV, wkr, hi', wta]
    cases wmc (l.getD 0 0) lo hi <;> rfl
   | succ i =>
    have h1 : i < l.length := by omega
    have e0 : (0 : Int) < ((i + 1 : Nat) : Int) := by omega
    have e1 : ((i + 1 : Nat) : Int) - 1 = (i : Int) := by omega
    have e2 : (i + 1 == 0) = false := rfl
    simp (disch := omega) only [EV, wkr, hi', wta, e0, e1, h1, e2, Bool.false_or, Nat.add_sub_cancel]
    cases wmc (l.getD (i + 1) 0) lo hi with
    | false => rfl
    | true =>
     by_cases h : l.getD (i + 1) 0 ≤ l.getD i 0
     ·simp only [Bool.not_true, cond_false, if_pos h, Bool.true_and, show ¬ l.getD i 0 < l.getD (i + 1) 0 by omega, decide_false]
     ·simp only [Bool.not_true, cond_false, if_neg h, Bool.true_and, show l.getD i 0 < l.getD (i + 1) 0 by omega, decide_true]
      rfl) (by simp (disch := omega) only [EV, wkr, Nat.lt_irrefl])
 unfold wawk wbic
 simp (disch := omega) only [EV, h0]
 unfold wch
 cases (List.range l.length).all fun i => wmc (l.getD i 0) lo hi && (i == 0 || decide (l.getD (i - 1) 0 < l.getD i 0)) <;> rfl
theorem waag {l : List Int} (hl : wdp l) {n : Int} (h0 : 0 ≤ n) (h1 : n ≤ 1048576) : waww l n = some (wch l 0 (n - 1)) := by
 unfold wdp at hl
 have h0 : waoi (l, (n, (l, ((l.length : Nat) : Int)))) 0 = _ := wcr (f := fun v => (wkw (l, (n, (l, ((l.length : Nat) : Int)))) v).ev) (n := l.length) (mk := fun i => (i : Int)) (p := fun i => wmc (l.getD i 0) 0 (n - 1) && (i == 0 || decide (l.getD (i - 1) 0 < l.getD i 0))) (yes := .inl ()) (no := .inr ()) (fun i hi' _ => by
   cases i with
   | zero =>
    simp (disch := omega) only [EV, wkw, hi', wgw]
    cases wmc (l.getD 0 0) 0 (n - 1) <;> rfl
   | succ i =>
    have h1 : i < l.length := by omega
    have e0 : (0 : Int) < ((i + 1 : Nat) : Int) := by omega
    have e1 : ((i + 1 : Nat) : Int) - 1 = (i : Int) := by omega
    have e2 : (i + 1 == 0) = false := rfl
    simp (disch := omega) only [EV, wkw, hi', wgw, e0, e1, h1, e2, Bool.false_or, Nat.add_sub_cancel]
    cases wmc (l.getD (i + 1) 0) 0 (n - 1) with
    | false => rfl
    | true =>
     by_cases h : l.getD (i + 1) 0 ≤ l.getD i 0
     ·simp only [Bool.not_true, cond_false, if_pos h, Bool.true_and, show ¬ l.getD i 0 < l.getD (i + 1) 0 by omega, decide_false]
     ·simp only [Bool.not_true, cond_false, if_neg h, Bool.true_and, show l.getD i 0 < l.getD (i + 1) 0 by omega, decide_true]
      rfl) (by simp (disch := omega) only [EV, wkw, Nat.lt_irrefl])
 unfold waww wbju
 simp (disch := omega) only [EV, h0]
 unfold wch
 cases (List.range l.length).all fun i => wmc (l.getD i 0) 0 (n - 1) && (i == 0 || decide (l.getD (i - 1) 0 < l.getD i 0)) <;> rfl
def pl (s : List Int) (i : Nat) : Nat := (s.getD i 0).toNat
structure Places (s : List Int) (n : Nat) : Prop where
 low : (s.length : Int) ≤ 1048576
 mem : ∀ i, i < s.length → 0 ≤ s.getD i 0 ∧ s.getD i 0 < n
theorem Places.pl {s : List Int} {n : Nat} (h : Places s n) {i : Nat} (hi : i < s.length) : s.getD i 0 = (pl s i : Int) ∧ Go.Proofs.YtnagpmhaddfgmaaGreat.pl s i < n := by
 have := h.mem i hi
 unfold Go.Proofs.YtnagpmhaddfgmaaGreat.pl
 omega
theorem Places.of {s : List Int} {n : Nat} (hs : wdp s) (h : wch s 0 ((n : Int) - 1) = true) : Places s n := ⟨hs, fun i hi => by have := wahr h hi; omega⟩
end Go.Proofs.YtnagpmhaddfgmaaGreat
/-
 Plain laws: fields, atlases.
-/
namespace Go.Proofs.YtnagpmhaddfgmaaGreat
def wdm (o : List Int) (ds : List (List Int)) : Bool := wmc (o.length : Int) 1 7 && (allIn o 0 99 && (decide ((ds.length : Int) ≤ 7) && ds.all fun r => decide (r.length = o.length) && allIn r 0 99))
structure Fld (o : List Int) (ds : List (List Int)) : Prop where
 pos : 1 ≤ o.length
 len : o.length ≤ 7
 cost : ∀ i, i < o.length → 0 ≤ o.getD i 0 ∧ o.getD i 0 ≤ 99
 clients : ds.length ≤ 7
 rowLen : ∀ j, j < ds.length → (ds.getD j []).length = o.length
 dist : ∀ j i, j < ds.length → i < o.length → 0 ≤ (ds.getD j []).getD i 0 ∧ (ds.getD j []).getD i 0 ≤ 99
theorem wcf {o : List Int} {ds : List (List Int)} : wdm o ds = true ↔ Fld o ds := by
 unfold wdm
 simp only [Bool.and_eq_true, decide_eq_true_eq, List.all_eq_true, wafd]
 constructor
 ·rintro ⟨⟨h1, h2⟩, h3, h4, h5⟩
  have h6 : ∀ j, j < ds.length → (ds.getD j []).length = o.length ∧ allIn (ds.getD j []) 0 99 = true := fun j hj => h5 _ (getD_mem (d := []) hj)
  exact ⟨by omega, by omega, fun i hi => wky h3 hi, by omega, fun j hj => (h6 j hj).1, fun j i hj hi => wky (h6 j hj).2 (by rw [(h6 j hj).1]; exact hi)⟩
 ·rintro ⟨h1, h2, h3, h4, h5, h6⟩
  refine ⟨by omega, wpe.2 fun a ha => ?_, by omega, fun r hr => ?_⟩
  ·obtain ⟨i, hi, e⟩ := List.getElem_of_mem ha
   have := h3 i hi
   rw [List.getD_eq_getElem?_getD, List.getElem?_eq_getElem hi, Option.getD_some, e] at this
   exact this
  ·obtain ⟨j, hj, e⟩ := List.getElem_of_mem hr
   have e2 : ds.getD j [] = r := by rw [List.getD_eq_getElem?_getD, List.getElem?_eq_getElem hj, Option.getD_some, e]
   have h7 := h5 j hj
   rw [e2] at h7
   refine ⟨h7, wpe.2 fun a ha => ?_⟩
   obtain ⟨i, hi, e3⟩ := List.getElem_of_mem ha
   have := h6 j i hj (by omega)
   rw [e2, List.getD_eq_getElem?_getD, List.getElem?_eq_getElem hi, Option.getD_some, e3] at this
   exact this
theorem wwm {o : List Int} {ds : List (List Int)} (ho : wdp o) (hd : wul ds) : wang o ds = some (wdm o ds) := by
 have hl := hd.1
 have h0 : wanf ((o.length : Int), (o, ds)) 0 = _ := wcr (f := fun v => (wol ((o.length : Int), (o, ds)) v).ev) (n := ds.length) (mk := fun i => (i : Int)) (p := fun i => decide ((ds.getD i []).length = o.length) && allIn (ds.getD i []) 0 99) (yes := .inl ()) (no := .inr ()) (fun i hi _ => by
   simp (disch := omega) only [EV, wol, hi, wafe (hd.2 _ (getD_mem (d := []) hi)), int_eq]
   cases allIn (ds.getD i []) 0 99 <;> cases decide ((ds.getD i []).length = o.length) <;> rfl) (by simp (disch := omega) only [EV, wol, Nat.lt_irrefl])
 rw [wwk ds [] (fun r => decide (r.length = o.length) && allIn r 0 99)] at h0
 unfold wang wbgw wdm
 simp (disch := omega) only [EV, h0, wta, wafe ho, int_eq]
 cases ds.all (fun r => decide (r.length = o.length) && allIn r 0 99) <;> cases wmc (o.length : Int) 1 7 <;> cases allIn o 0 99 <;> cases decide ((ds.length : Int) ≤ 7) <;> rfl
theorem wgx {o : List Int} {ds : List (List Int)} (ho : wdp o) (hd : wul ds) : F_zu o ds = some (wdm o ds) := by
 have hl := hd.1
 have hc := wkz (l := ds) (show (ds.length : Int) < 9223372036854775807 by omega) (p := fun a => Option.bind (F_zv a.1 o ds) fun y => some y) (q := fun r => !(decide (r.length = o.length) && allIn r 0 99)) fun r hr => by
  unfold F_zv T_zv
  simp (disch := omega) only [EV, wiz (hd.2 r hr), int_ne]
  cases decide (r.length = o.length) <;> cases allIn r 0 99 <;> rfl
 unfold F_zu T_zu wdm
 simp (disch := omega) only [EV, wgw, wiz ho, hc]
 rw [List.any_eq_not_all_not]
 simp only [Bool.not_not]
 cases wmc (o.length : Int) 1 7 <;> cases allIn o 0 99 <;> by_cases h : (ds.length : Int) ≤ 7 <;> simp only [h, decide_true, decide_false, if_true, if_false] <;> rfl
theorem waym {o : List Int} (ds : List (List Int)) {s : List Int} (ho : wdp o) (hs : wdp s) : wawl o ds s = some (wch s 0 ((o.length : Int) - 1)) := by
 unfold wdp at ho
 unfold wawl wbih
 simp (disch := omega) only [EV, waaf hs]
end Go.Proofs.YtnagpmhaddfgmaaGreat
/-
 Plain laws: what a set of sites serves: lengths, service, payment, total, reach; values of objectives.
-/
namespace Go.Proofs.YtnagpmhaddfgmaaGreat
theorem Fld.at2 {o : List Int} {ds : List (List Int)} (h : Fld o ds) {j i : Nat} (hj : j < ds.length) (hi : i < o.length) : 0 ≤ at2 ds j i ∧ at2 ds j i ≤ 99 := h.dist j i hj hi
def wej (ds : List (List Int)) (j : Nat) (s : List Int) (b k : Nat) : Nat := if at2 ds j (pl s k) < at2 ds j b then pl s k else b
def srv (ds : List (List Int)) (j : Nat) (s : List Int) : Nat := (List.range s.length).foldl (wej ds j s) (pl s 0)
def near (ds : List (List Int)) (s : List Int) (j : Nat) : Int := at2 ds j (srv ds j s)
def pay (o s : List Int) : Int := (List.range s.length).foldl (fun a k => a + o.getD (pl s k) 0) 0
def serve (ds : List (List Int)) (s : List Int) : Int := (List.range ds.length).foldl (fun a j => a + near ds s j) 0
def wqw (ds : List (List Int)) (s : List Int) : List Int := (List.range ds.length).map (near ds s)
theorem wwn {α S : Type} {g : S → α → S} (Q : S → Prop) {l : List α} (h : ∀ s a, a ∈ l → Q s → Q (g s a)) {s : S} (hs : Q s) : Q (l.foldl g s) := by
 induction l generalizing s with
 | nil => exact hs
 | cons a l ih => exact ih (fun s b hb => h s b (List.mem_cons_of_mem _ hb)) (h s a List.mem_cons_self hs)
theorem wla {ds : List (List Int)} {j : Nat} {s : List Int} {n b k : Nat} (hs : Places s n) (hk : k < s.length) (hb : b < n) : wej ds j s b k < n := by
 unfold wej
 split
 ·exact (hs.pl hk).2
 ·exact hb
theorem waps {ds : List (List Int)} {j : Nat} {s : List Int} {n : Nat} (hs : Places s n) (h0 : 0 < s.length) : srv ds j s < n :=
 wwn (fun b => b < n) (fun _ _ hk hb => wla hs (List.mem_range.1 hk) hb) (hs.pl h0).2
theorem waah {o : List Int} {ds : List (List Int)} (hf : Fld o ds) {s : List Int} (hs : Places s o.length) (h0 : 0 < s.length) {j : Nat} (hj : j < ds.length) : 0 ≤ near ds s j ∧ near ds s j ≤ 99 := hf.at2 hj (waps hs h0)
theorem wwo {α : Type} {l : List α} {f : α → Int} {B : Int} (h : ∀ a ∈ l, 0 ≤ f a ∧ f a ≤ B) (a0 : Int) : a0 ≤ l.foldl (fun a x => a + f x) a0 ∧ l.foldl (fun a x => a + f x) a0 ≤ a0 + (l.length : Int) * B := by
 induction l generalizing a0 with
 | nil => simp
 | cons x l ih =>
  have h1 := ih (fun a ha => h a (List.mem_cons_of_mem _ ha)) (a0 + f x)
  have h2 := h x List.mem_cons_self
  simp only [List.foldl_cons, List.length_cons]
  have e : ((l.length + 1 : Nat) : Int) * B = (l.length : Int) * B + B := by
   rw [Int.natCast_add, Int.add_mul]; simp
  rw [e]
  omega
theorem wtc {o : List Int} {ds : List (List Int)} (hf : Fld o ds) {s : List Int} (hs : Places s o.length) (h0 : 0 < s.length) : 0 ≤ serve ds s ∧ serve ds s ≤ 693 := by
 have := wwo (l := List.range ds.length) (f := near ds s) (B := 99) (fun j hj => waah hf hs h0 (List.mem_range.1 hj)) 0
 have hc := hf.clients
 unfold serve
 simp only [List.length_range] at this
 omega
theorem wapt {o : List Int} {ds : List (List Int)} (hf : Fld o ds) {s : List Int} (hs : Places s o.length) : 0 ≤ pay o s ∧ pay o s ≤ 103809024 := by
 have := wwo (l := List.range s.length) (f := fun k => o.getD (pl s k) 0) (B := 99) (fun k hk => hf.cost _ (hs.pl (List.mem_range.1 hk)).2) 0
 have hc := hs.low
 unfold pay
 simp only [List.length_range] at this
 omega
theorem wapu {o : List Int} {ds : List (List Int)} (hf : Fld o ds) {s : List Int} (hs : Places s o.length) (h0 : 0 < s.length) {j : Nat} (hj : j < ds.length) : wawp o ds (j : Int) s = some (srv ds j s : Int) := by
 have hlow := hs.low
 have hr := hf.rowLen j hj
 have hlen := hf.len
 have key : wsl ((j : Int), (s, (o, ds))) ((pl s 0 : Int), 0) = some (srv ds j s : Int) :=
  (wap (f := fun v => (wku ((j : Int), (s, (o, ds))) v).ev) (n := s.length) (mk := fun k (b : Nat) => ((b : Int), (k : Int))) (I := fun _ b => b < o.length) (g := wej ds j s) (fin := fun b => (b : Int)) (s0 := pl s 0) (hs.pl h0).2
   (fun k b hk hb => by
    obtain ⟨e1, h1⟩ := hs.pl hk
    have e3 : (ds.getD j []).getD (pl s k) 0 = at2 ds j (pl s k) := rfl
    have e4 : (ds.getD j []).getD b 0 = at2 ds j b := rfl
    refine ⟨?_, wla hs hk hb⟩
    simp (disch := omega) only [EV, wku, hj, hk, e1, hr, h1, hb, e3, e4]
    unfold wej
    split <;> rfl)
   (fun b _ => by simp (disch := omega) only [EV, wku, Nat.lt_irrefl])).1
 have key2 : wsl ((j : Int), (s, (o, ds))) ((pl s 0 : Int), 1) = some (srv ds j s : Int) := by
  rw [← key]
  unfold wsl
  conv => rhs; rw [wau]
  obtain ⟨e1, h1⟩ := hs.pl h0
  have e3 : (ds.getD j []).getD (pl s 0) 0 = at2 ds j (pl s 0) := rfl
  have z : Int.toNat 0 = 0 := rfl
  simp (disch := omega) only [EV, wku, hj, h0, z, e1, hr, h1, e3, Int.lt_irrefl, show (0 : Int) < (s.length : Int) by omega]
  rfl
 unfold wawp wbir
 have z : Int.toNat 0 = 0 := rfl
 simp (disch := omega) only [EV, z, (hs.pl h0).1, key2]
theorem wwp {o : List Int} {ds : List (List Int)} (hf : Fld o ds) {s : List Int} (hs : Places s o.length) (h0 : 0 < s.length) {j : Nat} (hj : j < ds.length) : wawq o ds (j : Int) s = some (near ds s j) := by
 have hr := hf.rowLen j hj
 have hb : srv ds j s < o.length := waps hs h0
 unfold wawq wbiw
 have e3 : (ds.getD j []).getD (srv ds j s) 0 = near ds s j := rfl
 simp (disch := omega) only [EV, hj, wapu hf hs h0 hj, hr, hb, e3]
theorem wapv {o : List Int} {ds : List (List Int)} (hf : Fld o ds) {s : List Int} (hs : Places s o.length) (h0 : 0 < s.length) {j : Nat} (hj : j < ds.length) : F_zp o ds (j : Int) s = some (srv ds j s : Int) := by
 have hlow := hs.low
 have hr := hf.rowLen j hj
 have hlen := hf.len
 have key : wbat ((j : Int), (s, ((s.length : Int), (o, ds)))) ((pl s 0 : Int), 0) = some (srv ds j s : Int) :=
  (wap (f := fun v => (wvv ((j : Int), (s, ((s.length : Int), (o, ds)))) v).ev) (n := s.length) (mk := fun k (b : Nat) => ((b : Int), (k : Int))) (I := fun _ b => b < o.length) (g := wej ds j s) (fin := fun b => (b : Int)) (s0 := pl s 0) (hs.pl h0).2
   (fun k b hk hb => by
    obtain ⟨e1, h1⟩ := hs.pl hk
    have e3 : (ds.getD j []).getD (pl s k) 0 = at2 ds j (pl s k) := rfl
    have e4 : (ds.getD j []).getD b 0 = at2 ds j b := rfl
    refine ⟨?_, wla hs hk hb⟩
    simp (disch := omega) only [EV, wvv, hj, hk, e1, hr, h1, hb, e3, e4]
    unfold wej
    split <;> rfl)
   (fun b _ => by simp (disch := omega) only [EV, wvv, Nat.lt_irrefl])).1
 unfold F_zp T_zp
 have z : Int.toNat 0 = 0 := rfl
 simp (disch := omega) only [EV, z, (hs.pl h0).1, key]
theorem waff {V R α : Type} {f : V → Option (V ⊕ R)} {n : Nat} (mk : Nat → List α → V) (g : Nat → α) (fin : List α → R)
  (hstep : ∀ i l, i < n → l.length = i → f (mk i l) = some (.inl (mk (i + 1) (l ++ [g i])))) (hend : ∀ l, l.length = n → f (mk n l) = some (.inr (fin l))) : iter f (mk 0 []) = some (fin ((List.range n).map g)) := by
 have := (wap (f := f) (n := n) mk (fun i l => l.length = i) (fun l i => l ++ [g i]) fin (s0 := []) rfl (fun i l hi hl => ⟨hstep i l hi hl, by simp [hl]⟩) hend).1
 rw [this]
 congr 2
 have : ∀ (l : List Nat) (acc : List α), l.foldl (fun l i => l ++ [g i]) acc = acc ++ l.map g := by
  intro l
  induction l with
  | nil => simp
  | cons x l ih => intro acc; simp [ih]
 rw [this]; simp
theorem wapw {o : List Int} {ds : List (List Int)} (hf : Fld o ds) {s : List Int} (hs : Places s o.length) (h0 : 0 < s.length) : F_zo o ds s = some ((List.range ds.length).map fun j => (srv ds j s : Int)) := by
 have hc := hf.clients
 have key : wbau (s, ((ds.length : Int), (o, ds))) (0, []) = some ((List.range ds.length).map fun j => (srv ds j s : Int)) :=
  waff (f := fun v => (wvw (s, ((ds.length : Int), (o, ds))) v).ev) (n := ds.length) (mk := fun k (l : List Int) => ((k : Int), l)) (fun j => (srv ds j s : Int)) (fun l => l)
   (fun j l hj hl => by
    have e : (l.length + List.length [(srv ds j s : Int)]) * 8 ≤ 140737488355328 := by simp; omega
    simp (disch := omega) only [EV, wvw, hj, wapv hf hs h0 hj, e]
    rfl) (fun l _ => by simp (disch := omega) only [EV, wvw, Nat.lt_irrefl])
 unfold F_zo T_zo
 simp (disch := omega) only [EV, key]
theorem wahs {o : List Int} {ds : List (List Int)} (hf : Fld o ds) {s : List Int} (hs : Places s o.length) (h0 : 0 < s.length) : F_zj o ds s = some (wqw ds s) := by
 have hc := hf.clients
 unfold F_zj T_zj
 simp (disch := omega) only [EV, wapw hf hs h0]
 generalize hr : ((List.range ds.length).map fun j => (srv ds j s : Int)) = r
 have hrl : r.length = ds.length := by rw [← hr]; simp
 have hrg : ∀ j, j < ds.length → r.getD j 0 = (srv ds j s : Int) := fun j hj => by rw [← hr, List.getD_eq_getElem?_getD, List.getElem?_map, List.getElem?_range hj]; rfl
 have key : wbav ((r.length : Int), (o, (ds, r))) (0, []) = some (wqw ds s) :=
  waff (f := fun v => (wvx ((r.length : Int), (o, (ds, r))) v).ev) (n := ds.length) (mk := fun k (l : List Int) => ((k : Int), l)) (near ds s) (fun l => l)
   (fun j l hj hl => by
    have hb : srv ds j s < o.length := waps hs h0
    have e3 : (ds.getD j []).getD (srv ds j s) 0 = near ds s j := rfl
    have e : ∀ x : Int, (l.length + List.length [x]) * 8 ≤ 140737488355328 := fun x => by simp; omega
    simp (disch := omega) only [EV, wvx, hj, hrl, hrg j hj, hf.rowLen j hj, hb, e3, e]
    rfl) (fun l _ => by simp (disch := omega) only [EV, wvx, hrl, Nat.lt_irrefl])
 simp (disch := omega) only [EV, key]
theorem wapx {l : List Int} {B : Int} (hl : (l.length : Int) * B < 9223372036854775808) (hn : (l.length : Int) < 9223372036854775807) (h : ∀ a ∈ l, 0 ≤ a ∧ a ≤ B) : wawx l = some (l.foldl (fun a x => a + x) 0) := by
 have key := wez (f := fun v => (woz (l, (l.length : Int)) v).ev) l 0 (mk := fun k a => (a, (k : Int))) (I := fun k a => 0 ≤ a ∧ a ≤ (k : Int) * B) (g := fun a x => a + x) (fin := fun a => a) (s0 := 0) (by simp)
  (fun k a hk ha => by
   have h1 := h _ (getD_mem (d := 0) hk)
   have h2 : ((k + 1 : Nat) : Int) * B = (k : Int) * B + B := by rw [Int.natCast_add, Int.add_mul]; simp
   have hB : 0 ≤ B := by omega
   have h3 : ((k + 1 : Nat) : Int) * B ≤ (l.length : Int) * B := Int.mul_le_mul_of_nonneg_right (by omega) hB
   refine ⟨?_, by omega, by omega⟩
   simp (disch := omega) only [EV, woz, hk]
   rfl)
  (fun a _ => by simp (disch := omega) only [EV, woz, Nat.lt_irrefl])
 unfold wawx wbka
 have k1 : waoo (l, (l.length : Int)) (0, 0) = _ := key.1
 simp (disch := omega) only [EV, k1]
theorem waht {o : List Int} {ds : List (List Int)} (hf : Fld o ds) {s : List Int} (hs : Places s o.length) (h0 : 0 < s.length) : F_zq o ds s = some (serve ds s) := by
 have hc := hf.clients
 unfold F_zq T_zq
 have hl : (wqw ds s).length = ds.length := by simp [wqw]
 simp (disch := omega) only [EV, wahs hf hs h0, wapx (l := wqw ds s) (B := 99) (by omega) (by omega) (fun a ha => by
  obtain ⟨j, hj, rfl⟩ := List.mem_map.1 ha
  exact waah hf hs h0 (List.mem_range.1 hj))]
 unfold wqw serve
 rw [List.foldl_map]
theorem wahu {o : List Int} {ds : List (List Int)} (hf : Fld o ds) {s : List Int} (hs : Places s o.length) (h0 : 0 < s.length) : wawr o ds s = some (serve ds s) := by
 have hc := hf.clients
 have key : waof (s, (o, ds)) (0, 0) = some (serve ds s) :=
  (wap (f := fun v => (wov (s, (o, ds)) v).ev) (n := ds.length) (mk := fun k a => (a, (k : Int))) (I := fun k a => 0 ≤ a ∧ a ≤ (k : Int) * 99) (g := fun a j => a + near ds s j) (fin := fun a => a) (s0 := 0) (by simp)
   (fun j a hj ha => by
    have h1 := waah hf hs h0 hj
    refine ⟨?_, by omega, by omega⟩
    simp (disch := omega) only [EV, wov, hj, wwp hf hs h0 hj]
    rfl)
   (fun a _ => by simp (disch := omega) only [EV, wov, Nat.lt_irrefl])).1
 unfold wawr wbiy
 simp (disch := omega) only [EV, key]
theorem wayn {o : List Int} {ds : List (List Int)} (hf : Fld o ds) {s : List Int} (hs : Places s o.length) : waws o ds s = some (pay o s) := by
 have hlow := hs.low
 have key : waog (s, (o, ds)) (0, 0) = some (pay o s) :=
  (wap (f := fun v => (wow (s, (o, ds)) v).ev) (n := s.length) (mk := fun k a => (a, (k : Int))) (I := fun k a => 0 ≤ a ∧ a ≤ (k : Int) * 99) (g := fun a k => a + o.getD (pl s k) 0) (fin := fun a => a) (s0 := 0) (by simp)
   (fun k a hk ha => by
    obtain ⟨e1, h1⟩ := hs.pl hk
    have h2 := hf.cost _ h1
    refine ⟨?_, by omega, by omega⟩
    simp (disch := omega) only [EV, wow, hk, e1, h1]
    rfl)
   (fun a _ => by simp (disch := omega) only [EV, wow, Nat.lt_irrefl])).1
 unfold waws wbjd
 simp (disch := omega) only [EV, key]
theorem wahv {o : List Int} {ds : List (List Int)} (hf : Fld o ds) {s : List Int} (hs : Places s o.length) : F_zn o ds s = some (pay o s) := by
 have hlow := hs.low
 have key : wbas (s, ((s.length : Int), (o, ds))) (0, 0) = some (pay o s) :=
  (wap (f := fun v => (wvu (s, ((s.length : Int), (o, ds))) v).ev) (n := s.length) (mk := fun k a => (a, (k : Int))) (I := fun k a => 0 ≤ a ∧ a ≤ (k : Int) * 99) (g := fun a k => a + o.getD (pl s k) 0) (fin := fun a => a) (s0 := 0) (by simp)
   (fun k a hk ha => by
    obtain ⟨e1, h1⟩ := hs.pl hk
    have h2 := hf.cost _ h1
    refine ⟨?_, by omega, by omega⟩
    simp (disch := omega) only [EV, wvu, hk, e1, h1]
    rfl)
   (fun a _ => by simp (disch := omega) only [EV, wvu, Nat.lt_irrefl])).1
 unfold F_zn T_zn
 simp (disch := omega) only [EV, key]
theorem wahw {o : List Int} {ds : List (List Int)} (hf : Fld o ds) {s : List Int} (hs : Places s o.length) (h0 : 0 < s.length) : wahk o ds s = some (pay o s + serve ds s) := by
 have h1 := wtc hf hs h0
 have h2 := wapt hf hs
 unfold wahk wbji
 simp (disch := omega) only [EV, wahu hf hs h0, wayn hf hs]
 rw [Int.add_comm]
theorem wjb {o : List Int} {ds : List (List Int)} (hf : Fld o ds) {s : List Int} (hs : Places s o.length) (h0 : 0 < s.length) : wzn o ds s = some (pay o s + serve ds s) := by
 have h1 := wtc hf hs h0
 have h2 := wapt hf hs
 unfold wzn T_zr
 simp (disch := omega) only [EV, waht hf hs h0, wahv hf hs]
def wcx (o : List Int) (ds : List (List Int)) (s : List Int) : Bool := wdm o ds && (wch s 0 ((o.length : Int) - 1) && decide (0 < s.length))
theorem wafg {o : List Int} {ds : List (List Int)} {s : List Int} (ho : wdp o) (hd : wul ds) (hs : wdp s) : wany o ds s = some (wcx o ds s) := by
 unfold wany wbij wcx
 simp (disch := omega) only [EV, wwm ho hd, waym ds ho hs]
 have e : decide ((0 : Int) < (s.length : Int)) = decide (0 < s.length) := by simp
 rw [e]
 cases wdm o ds <;> cases wch s 0 ((o.length : Int) - 1) <;> rfl
theorem whz {o : List Int} {ds : List (List Int)} {s : List Int} (ho : wdp o) (hd : wul ds) (hs : wdp s) : wahm o ds s = some (wcx o ds s) := by
 have h := ho
 unfold wdp at h
 unfold wahm wbjz F_zi T_zi wcx
 simp (disch := omega) only [EV, wgx ho hd, waag hs (show (0 : Int) ≤ (o.length : Int) by omega) h]
 have e : ((0 : Int) < (s.length : Int)) = (0 < s.length) := by simp
 by_cases h0 : 0 < s.length
 ·have h1 : (0 : Int) < (s.length : Int) := by omega
  simp only [h0, h1, decide_true, if_true, Bool.and_true]
  cases wdm o ds <;> cases wch s 0 ((o.length : Int) - 1) <;> rfl
 ·have h1 : ¬ (0 : Int) < (s.length : Int) := by omega
  simp only [h0, h1, decide_false, if_false, Bool.and_false]
  cases wdm o ds <;> rfl
theorem wfa {o : List Int} {ds : List (List Int)} {s : List Int} (hs : wdp s) (h : wcx o ds s = true) : Fld o ds ∧ Places s o.length ∧ 0 < s.length := by
 unfold wcx at h
 simp only [Bool.and_eq_true, decide_eq_true_eq] at h
 exact ⟨wcf.1 h.1, Places.of hs h.2.1, h.2.2⟩
end Go.Proofs.YtnagpmhaddfgmaaGreat
