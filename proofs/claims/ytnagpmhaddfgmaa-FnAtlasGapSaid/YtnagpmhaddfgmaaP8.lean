/-
 Plain laws: grounds, metric grounds.
-/
import Derived.Test.YtnagpmhaddfgmaaPM
namespace Go.Proofs.Ytnagpmhaddfgmaa
def at2 (x : List (List Int)) (i j : Nat) : Int := (x.getD i []).getD j 0
def waie (x : List (List Int)) (n i : Nat) : Bool := allIn (x.getD i []) 0 99 && (((x.getD i []).length : Int) == (n : Int))
structure Ground (x : List (List Int)) : Prop where
 row : ∀ i, i < x.length → waie x x.length i = true
 diag : ∀ i, i < x.length → at2 x i i = 0
 sym : ∀ i j, i < x.length → j < x.length → at2 x i j = at2 x j i
 len : x.length ≤ 7
theorem wtm {x : List (List Int)} {n i : Nat} (h : waie x n i = true) : (x.getD i []).length = n := by
 simp only [waie, Bool.and_eq_true, beq_iff_eq] at h
 omega
theorem waoe {x : List (List Int)} {n i j : Nat} (h : waie x n i = true) (hj : j < n) : 0 ≤ at2 x i j ∧ at2 x i j ≤ 99 := by
 have hl := wtm h
 simp only [waie, Bool.and_eq_true] at h
 exact wjy h.1 (by omega)
theorem Ground.in {x : List (List Int)} (h : Ground x) {i j : Nat} (hi : i < x.length) (hj : j < x.length) : 0 ≤ at2 x i j ∧ at2 x i j ≤ 99 := waoe (h.row i hi) hj
theorem Ground.rowLen {x : List (List Int)} (h : Ground x) {i : Nat} (hi : i < x.length) : (x.getD i []).length = x.length := wtm (h.row i hi)
end Go.Proofs.Ytnagpmhaddfgmaa
/-
 Plain laws: rising lists, dispersion, allocations, the cost of hubs.
-/
namespace Go.Proofs.Ytnagpmhaddfgmaa
def wbn (l : List Int) (lo hi : Int) : Bool := (List.range l.length).all fun i => wjx (l.getD i 0) lo hi && (i == 0 || decide (l.getD (i - 1) 0 < l.getD i 0))
theorem wnv {l : List Int} {lo hi : Int} : wbn l lo hi = true ↔ (∀ x ∈ l, lo ≤ x ∧ x ≤ hi) ∧ l.Pairwise (· < ·) := by
 unfold wbn
 simp only [List.all_eq_true, List.mem_range, Bool.and_eq_true, Bool.or_eq_true, beq_iff_eq, decide_eq_true_eq, wlg]
 constructor
 ·intro h
  refine ⟨fun x hx => ?_, ?_⟩
  ·obtain ⟨i, hi, e⟩ := List.getElem_of_mem hx
   have := (h i hi).1
   rw [List.getD_eq_getElem?_getD, List.getElem?_eq_getElem hi] at this
   rw [← e]; exact this
  ·rw [List.pairwise_iff_getElem]
   have key : ∀ d i, i + d + 1 < l.length → l.getD i 0 < l.getD (i + d + 1) 0 := by
    intro d
    induction d with
    | zero =>
     intro i hi
     have := (h (i + 1) hi).2
     rcases this with h0 | h0
     ·omega
     ·simpa using h0
    | succ d ih =>
     intro i hi
     have h1 := ih i (by omega)
     have := (h (i + (d + 1) + 1) hi).2
     rcases this with h0 | h0
     ·omega
     ·have e : i + (d + 1) + 1 - 1 = i + d + 1 := by omega
      rw [e] at h0
      omega
   intro i j hi hj hij
   have := key (j - i - 1) i (by omega)
   rw [show i + (j - i - 1) + 1 = j by omega, List.getD_eq_getElem?_getD, List.getD_eq_getElem?_getD, List.getElem?_eq_getElem hi, List.getElem?_eq_getElem hj] at this
   exact this
 ·rintro ⟨h1, h2⟩ i hi
  refine ⟨h1 _ (getD_mem hi), ?_⟩
  by_cases e : i = 0
  ·exact .inl e
  ·right
   have := List.pairwise_iff_getElem.1 h2 (i - 1) i (by omega) hi (by omega)
   rw [List.getD_eq_getElem?_getD, List.getD_eq_getElem?_getD, List.getElem?_eq_getElem hi, List.getElem?_eq_getElem (by omega)]
   exact this
theorem wabr {l : List Int} {lo hi : Int} (h : wbn l lo hi = true) {i : Nat} (hi' : i < l.length) : lo ≤ l.getD i 0 ∧ l.getD i 0 ≤ hi := (wnv.1 h).1 _ (getD_mem hi')
theorem wvv {l : List Int} (hl : wcd l) (lo hi : Int) : wamg l lo hi = some (wbn l lo hi) := by
 unfold wcd at hl
 have h0 : wafy (l, (lo, hi)) 0 = _ := wif (f := fun v => (wjn (l, (lo, hi)) v).ev) (n := l.length) (mk := fun i => (i : Int)) (p := fun i => wjx (l.getD i 0) lo hi && (i == 0 || decide (l.getD (i - 1) 0 < l.getD i 0))) (yes := .inl ()) (no := .inr ()) (fun i hi' _ => by
   cases i with
   | zero =>
    simp (disch := omega) only [EV, wjn, hi', wgx]
    cases wjx (l.getD 0 0) lo hi <;> rfl
   | succ i =>
    have h1 : i < l.length := by omega
    have e0 : (0 : Int) < ((i + 1 : Nat) : Int) := by omega
    have e1 : ((i + 1 : Nat) : Int) - 1 = (i : Int) := by omega
    have e2 : (i + 1 == 0) = false := rfl
    simp (disch := omega) only [EV, wjn, hi', wgx, e0, e1, h1, e2, Bool.false_or, Nat.add_sub_cancel]
    cases wjx (l.getD (i + 1) 0) lo hi with
    | false => rfl
    | true =>
     by_cases h : l.getD (i + 1) 0 ≤ l.getD i 0
     ·simp only [Bool.not_true, cond_false, if_pos h, Bool.true_and, show ¬ l.getD i 0 < l.getD (i + 1) 0 by omega, decide_false]
     ·simp only [Bool.not_true, cond_false, if_neg h, Bool.true_and, show l.getD i 0 < l.getD (i + 1) 0 by omega, decide_true]
      rfl) (by simp (disch := omega) only [EV, wjn, Nat.lt_irrefl])
 unfold wamg watw
 simp (disch := omega) only [EV, h0]
 unfold wbn
 cases (List.range l.length).all fun i => wjx (l.getD i 0) lo hi && (i == 0 || decide (l.getD (i - 1) 0 < l.getD i 0)) <;> rfl
theorem wha {l : List Int} (hl : wcd l) {n : Int} (h0 : 0 ≤ n) (h1 : n ≤ 1048576) : F_zy l n = some (wbn l 0 (n - 1)) := by
 unfold wcd at hl
 have h0 : wapz (l, (n, (l, ((l.length : Nat) : Int)))) 0 = _ := wif (f := fun v => (wpd (l, (n, (l, ((l.length : Nat) : Int)))) v).ev) (n := l.length) (mk := fun i => (i : Int)) (p := fun i => wjx (l.getD i 0) 0 (n - 1) && (i == 0 || decide (l.getD (i - 1) 0 < l.getD i 0))) (yes := .inl ()) (no := .inr ()) (fun i hi' _ => by
   cases i with
   | zero =>
    simp (disch := omega) only [EV, wpd, hi', wel]
    cases wjx (l.getD 0 0) 0 (n - 1) <;> rfl
   | succ i =>
    have h1 : i < l.length := by omega
    have e0 : (0 : Int) < ((i + 1 : Nat) : Int) := by omega
    have e1 : ((i + 1 : Nat) : Int) - 1 = (i : Int) := by omega
    have e2 : (i + 1 == 0) = false := rfl
    simp (disch := omega) only [EV, wpd, hi', wel, e0, e1, h1, e2, Bool.false_or, Nat.add_sub_cancel]
    cases wjx (l.getD (i + 1) 0) 0 (n - 1) with
    | false => rfl
    | true =>
     by_cases h : l.getD (i + 1) 0 ≤ l.getD i 0
     ·simp only [Bool.not_true, cond_false, if_pos h, Bool.true_and, show ¬ l.getD i 0 < l.getD (i + 1) 0 by omega, decide_false]
     ·simp only [Bool.not_true, cond_false, if_neg h, Bool.true_and, show l.getD i 0 < l.getD (i + 1) 0 by omega, decide_true]
      rfl) (by simp (disch := omega) only [EV, wpd, Nat.lt_irrefl])
 unfold F_zy T_zy
 simp (disch := omega) only [EV, h0]
 unfold wbn
 cases (List.range l.length).all fun i => wjx (l.getD i 0) 0 (n - 1) && (i == 0 || decide (l.getD (i - 1) 0 < l.getD i 0)) <;> rfl
def pl (s : List Int) (i : Nat) : Nat := (s.getD i 0).toNat
structure Places (s : List Int) (n : Nat) : Prop where
 low : (s.length : Int) ≤ 1048576
 mem : ∀ i, i < s.length → 0 ≤ s.getD i 0 ∧ s.getD i 0 < n
theorem Places.pl {s : List Int} {n : Nat} (h : Places s n) {i : Nat} (hi : i < s.length) : s.getD i 0 = (pl s i : Int) ∧ Go.Proofs.Ytnagpmhaddfgmaa.pl s i < n := by
 have := h.mem i hi
 unfold Go.Proofs.Ytnagpmhaddfgmaa.pl
 omega
theorem Places.of {s : List Int} {n : Nat} (hs : wcd s) (h : wbn s 0 ((n : Int) - 1) = true) : Places s n := ⟨hs, fun i hi => by have := wabr h hi; omega⟩
end Go.Proofs.Ytnagpmhaddfgmaa
/-
 Plain laws: fields, atlases.
-/
namespace Go.Proofs.Ytnagpmhaddfgmaa
def wem (o : List Int) (ds : List (List Int)) : Bool := wjx (o.length : Int) 1 7 && (allIn o 0 99 && (decide ((ds.length : Int) ≤ 7) && ds.all fun r => decide (r.length = o.length) && allIn r 0 99))
structure Fld (o : List Int) (ds : List (List Int)) : Prop where
 pos : 1 ≤ o.length
 len : o.length ≤ 7
 cost : ∀ i, i < o.length → 0 ≤ o.getD i 0 ∧ o.getD i 0 ≤ 99
 clients : ds.length ≤ 7
 rowLen : ∀ j, j < ds.length → (ds.getD j []).length = o.length
 dist : ∀ j i, j < ds.length → i < o.length → 0 ≤ (ds.getD j []).getD i 0 ∧ (ds.getD j []).getD i 0 ≤ 99
theorem wdj {o : List Int} {ds : List (List Int)} : wem o ds = true ↔ Fld o ds := by
 unfold wem
 simp only [Bool.and_eq_true, decide_eq_true_eq, List.all_eq_true, wlg]
 constructor
 ·rintro ⟨⟨h1, h2⟩, h3, h4, h5⟩
  have h6 : ∀ j, j < ds.length → (ds.getD j []).length = o.length ∧ allIn (ds.getD j []) 0 99 = true := fun j hj => h5 _ (getD_mem (d := []) hj)
  exact ⟨by omega, by omega, fun i hi => wjy h3 hi, by omega, fun j hj => (h6 j hj).1, fun j i hj hi => wjy (h6 j hj).2 (by rw [(h6 j hj).1]; exact hi)⟩
 ·rintro ⟨h1, h2, h3, h4, h5, h6⟩
  refine ⟨by omega, wig.2 fun a ha => ?_, by omega, fun r hr => ?_⟩
  ·obtain ⟨i, hi, e⟩ := List.getElem_of_mem ha
   have := h3 i hi
   rw [List.getD_eq_getElem?_getD, List.getElem?_eq_getElem hi, Option.getD_some, e] at this
   exact this
  ·obtain ⟨j, hj, e⟩ := List.getElem_of_mem hr
   have e2 : ds.getD j [] = r := by rw [List.getD_eq_getElem?_getD, List.getElem?_eq_getElem hj, Option.getD_some, e]
   have h7 := h5 j hj
   rw [e2] at h7
   refine ⟨h7, wig.2 fun a ha => ?_⟩
   obtain ⟨i, hi, e3⟩ := List.getElem_of_mem ha
   have := h6 j i hj (by omega)
   rw [e2, List.getD_eq_getElem?_getD, List.getElem?_eq_getElem hi, Option.getD_some, e3] at this
   exact this
theorem wnw {o : List Int} {ds : List (List Int)} (ho : wcd o) (hd : wrp ds) : wabi o ds = some (wem o ds) := by
 have hl := hd.1
 have h0 : wafv ((o.length : Int), (o, ds)) 0 = _ := wif (f := fun v => (wmz ((o.length : Int), (o, ds)) v).ev) (n := ds.length) (mk := fun i => (i : Int)) (p := fun i => decide ((ds.getD i []).length = o.length) && allIn (ds.getD i []) 0 99) (yes := .inl ()) (no := .inr ()) (fun i hi _ => by
   simp (disch := omega) only [EV, wmz, hi, wzm (hd.2 _ (getD_mem (d := []) hi)), int_eq]
   cases allIn (ds.getD i []) 0 99 <;> cases decide ((ds.getD i []).length = o.length) <;> rfl) (by simp (disch := omega) only [EV, wmz, Nat.lt_irrefl])
 rw [wtk ds [] (fun r => decide (r.length = o.length) && allIn r 0 99)] at h0
 unfold wabi wato wem
 simp (disch := omega) only [EV, h0, wgx, wzm ho, int_eq]
 cases ds.all (fun r => decide (r.length = o.length) && allIn r 0 99) <;> cases wjx (o.length : Int) 1 7 <;> cases allIn o 0 99 <;> cases decide ((ds.length : Int) ≤ 7) <;> rfl
theorem wgg {o : List Int} {ds : List (List Int)} (ho : wcd o) (hd : wrp ds) : F_zo o ds = some (wem o ds) := by
 have hl := hd.1
 have hc := wjz (l := ds) (show (ds.length : Int) < 9223372036854775807 by omega) (p := fun a => Option.bind (F_zp a.1 o ds) fun y => some y) (q := fun r => !(decide (r.length = o.length) && allIn r 0 99)) fun r hr => by
  unfold F_zp T_zp
  simp (disch := omega) only [EV, wex (hd.2 r hr), int_ne]
  cases decide (r.length = o.length) <;> cases allIn r 0 99 <;> rfl
 unfold F_zo T_zo wem
 simp (disch := omega) only [EV, wel, wex ho, hc]
 rw [List.any_eq_not_all_not]
 simp only [Bool.not_not]
 cases wjx (o.length : Int) 1 7 <;> cases allIn o 0 99 <;> by_cases h : (ds.length : Int) ≤ 7 <;> simp only [h, decide_true, decide_false, if_true, if_false] <;> rfl
def wch (o : List Int) (ds : List (List Int)) (s : List Int) (c : Int) : Bool := wem o ds && (wbn s 0 ((o.length : Int) - 1) && wjx c 0 1000)
theorem wzn {o : List Int} (ds : List (List Int)) {s : List Int} (ho : wcd o) (hs : wcd s) : wafz o ds s = some (wbn s 0 ((o.length : Int) - 1)) := by
 unfold wcd at ho
 unfold wafz waub
 simp (disch := omega) only [EV, wvv hs]
theorem wkc {o : List Int} {ds : List (List Int)} {s : List Int} (ho : wcd o) (hd : wrp ds) (hs : wcd s) (c : Int) : wabk o ds s c = some (wch o ds s c) := by
 unfold wabk wauc wch
 simp (disch := omega) only [EV, wnw ho hd, wzn ds ho hs, wgx]
 cases wem o ds <;> cases wbn s 0 ((o.length : Int) - 1) <;> rfl
theorem wqz {o : List Int} {ds : List (List Int)} {s : List Int} (ho : wcd o) (hd : wrp ds) (hs : wcd s) (c : Int) : F_zn o ds s c = some (wch o ds s c) := by
 have h := ho
 unfold wcd at h
 unfold F_zn T_zn wch
 simp (disch := omega) only [EV, wgg ho hd, wha hs (show (0 : Int) ≤ (o.length : Int) by omega) h, wel]
 cases wem o ds <;> cases wbn s 0 ((o.length : Int) - 1) <;> rfl
end Go.Proofs.Ytnagpmhaddfgmaa
/-
 Plain laws: what a set of sites serves: lengths, service, payment, total, reach; values of objectives.
-/
namespace Go.Proofs.Ytnagpmhaddfgmaa
theorem Fld.at2 {o : List Int} {ds : List (List Int)} (h : Fld o ds) {j i : Nat} (hj : j < ds.length) (hi : i < o.length) : 0 ≤ at2 ds j i ∧ at2 ds j i ≤ 99 := h.dist j i hj hi
def wfy (ds : List (List Int)) (j : Nat) (s : List Int) (b k : Nat) : Nat := if at2 ds j (pl s k) < at2 ds j b then pl s k else b
def srv (ds : List (List Int)) (j : Nat) (s : List Int) : Nat := (List.range s.length).foldl (wfy ds j s) (pl s 0)
def near (ds : List (List Int)) (s : List Int) (j : Nat) : Int := at2 ds j (srv ds j s)
def pay (o s : List Int) : Int := (List.range s.length).foldl (fun a k => a + o.getD (pl s k) 0) 0
def serve (ds : List (List Int)) (s : List Int) : Int := (List.range ds.length).foldl (fun a j => a + near ds s j) 0
def wph (ds : List (List Int)) (s : List Int) : List Int := (List.range ds.length).map (near ds s)
theorem wtn {α S : Type} {g : S → α → S} (Q : S → Prop) {l : List α} (h : ∀ s a, a ∈ l → Q s → Q (g s a)) {s : S} (hs : Q s) : Q (l.foldl g s) := by
 induction l generalizing s with
 | nil => exact hs
 | cons a l ih => exact ih (fun s b hb => h s b (List.mem_cons_of_mem _ hb)) (h s a List.mem_cons_self hs)
theorem wkd {ds : List (List Int)} {j : Nat} {s : List Int} {n b k : Nat} (hs : Places s n) (hk : k < s.length) (hb : b < n) : wfy ds j s b k < n := by
 unfold wfy
 split
 ·exact (hs.pl hk).2
 ·exact hb
theorem waif {ds : List (List Int)} {j : Nat} {s : List Int} {n : Nat} (hs : Places s n) (h0 : 0 < s.length) : srv ds j s < n :=
 wtn (fun b => b < n) (fun _ _ hk hb => wkd hs (List.mem_range.1 hk) hb) (hs.pl h0).2
theorem wvw {o : List Int} {ds : List (List Int)} (hf : Fld o ds) {s : List Int} (hs : Places s o.length) (h0 : 0 < s.length) {j : Nat} (hj : j < ds.length) : 0 ≤ near ds s j ∧ near ds s j ≤ 99 := hf.at2 hj (waif hs h0)
theorem wto {α : Type} {l : List α} {f : α → Int} {B : Int} (h : ∀ a ∈ l, 0 ≤ f a ∧ f a ≤ B) (a0 : Int) : a0 ≤ l.foldl (fun a x => a + f x) a0 ∧ l.foldl (fun a x => a + f x) a0 ≤ a0 + (l.length : Int) * B := by
 induction l generalizing a0 with
 | nil => simp
 | cons x l ih =>
  have h1 := ih (fun a ha => h a (List.mem_cons_of_mem _ ha)) (a0 + f x)
  have h2 := h x List.mem_cons_self
  simp only [List.foldl_cons, List.length_cons]
  have e : ((l.length + 1 : Nat) : Int) * B = (l.length : Int) * B + B := by
   rw [Int.natCast_add, Int.add_mul]; simp
  rw [e]
  omega
theorem wra {o : List Int} {ds : List (List Int)} (hf : Fld o ds) {s : List Int} (hs : Places s o.length) (h0 : 0 < s.length) : 0 ≤ serve ds s ∧ serve ds s ≤ 693 := by
 have := wto (l := List.range ds.length) (f := near ds s) (B := 99) (fun j hj => wvw hf hs h0 (List.mem_range.1 hj)) 0
 have hc := hf.clients
 unfold serve
 simp only [List.length_range] at this
 omega
theorem waig {o : List Int} {ds : List (List Int)} (hf : Fld o ds) {s : List Int} (hs : Places s o.length) : 0 ≤ pay o s ∧ pay o s ≤ 103809024 := by
 have := wto (l := List.range s.length) (f := fun k => o.getD (pl s k) 0) (B := 99) (fun k hk => hf.cost _ (hs.pl (List.mem_range.1 hk)).2) 0
 have hc := hs.low
 unfold pay
 simp only [List.length_range] at this
 omega
theorem waih {o : List Int} {ds : List (List Int)} (hf : Fld o ds) {s : List Int} (hs : Places s o.length) (h0 : 0 < s.length) {j : Nat} (hj : j < ds.length) : wamv o ds (j : Int) s = some (srv ds j s : Int) := by
 have hlow := hs.low
 have hr := hf.rowLen j hj
 have hlen := hf.len
 have key : wqt ((j : Int), (s, (o, ds))) ((pl s 0 : Int), 0) = some (srv ds j s : Int) :=
  (wbi (f := fun v => (wjt ((j : Int), (s, (o, ds))) v).ev) (n := s.length) (mk := fun k (b : Nat) => ((b : Int), (k : Int))) (I := fun _ b => b < o.length) (g := wfy ds j s) (fin := fun b => (b : Int)) (s0 := pl s 0) (hs.pl h0).2
   (fun k b hk hb => by
    obtain ⟨e1, h1⟩ := hs.pl hk
    have e3 : (ds.getD j []).getD (pl s k) 0 = at2 ds j (pl s k) := rfl
    have e4 : (ds.getD j []).getD b 0 = at2 ds j b := rfl
    refine ⟨?_, wkd hs hk hb⟩
    simp (disch := omega) only [EV, wjt, hj, hk, e1, hr, h1, hb, e3, e4]
    unfold wfy
    split <;> rfl)
   (fun b _ => by simp (disch := omega) only [EV, wjt, Nat.lt_irrefl])).1
 have key2 : wqt ((j : Int), (s, (o, ds))) ((pl s 0 : Int), 1) = some (srv ds j s : Int) := by
  rw [← key]
  unfold wqt
  conv => rhs; rw [wap]
  obtain ⟨e1, h1⟩ := hs.pl h0
  have e3 : (ds.getD j []).getD (pl s 0) 0 = at2 ds j (pl s 0) := rfl
  have z : Int.toNat 0 = 0 := rfl
  simp (disch := omega) only [EV, wjt, hj, h0, z, e1, hr, h1, e3, Int.lt_irrefl, show (0 : Int) < (s.length : Int) by omega]
  rfl
 unfold wamv wavs
 have z : Int.toNat 0 = 0 := rfl
 simp (disch := omega) only [EV, z, (hs.pl h0).1, key2]
theorem wtp {o : List Int} {ds : List (List Int)} (hf : Fld o ds) {s : List Int} (hs : Places s o.length) (h0 : 0 < s.length) {j : Nat} (hj : j < ds.length) : wamw o ds (j : Int) s = some (near ds s j) := by
 have hr := hf.rowLen j hj
 have hb : srv ds j s < o.length := waif hs h0
 unfold wamw wavx
 have e3 : (ds.getD j []).getD (srv ds j s) 0 = near ds s j := rfl
 simp (disch := omega) only [EV, hj, waih hf hs h0 hj, hr, hb, e3]
theorem waii {o : List Int} {ds : List (List Int)} (hf : Fld o ds) {s : List Int} (hs : Places s o.length) (h0 : 0 < s.length) {j : Nat} (hj : j < ds.length) : F_zk o ds (j : Int) s = some (srv ds j s : Int) := by
 have hlow := hs.low
 have hr := hf.rowLen j hj
 have hlen := hf.len
 have key : waqb ((j : Int), (s, ((s.length : Int), (o, ds)))) ((pl s 0 : Int), 0) = some (srv ds j s : Int) :=
  (wbi (f := fun v => (wtc ((j : Int), (s, ((s.length : Int), (o, ds)))) v).ev) (n := s.length) (mk := fun k (b : Nat) => ((b : Int), (k : Int))) (I := fun _ b => b < o.length) (g := wfy ds j s) (fin := fun b => (b : Int)) (s0 := pl s 0) (hs.pl h0).2
   (fun k b hk hb => by
    obtain ⟨e1, h1⟩ := hs.pl hk
    have e3 : (ds.getD j []).getD (pl s k) 0 = at2 ds j (pl s k) := rfl
    have e4 : (ds.getD j []).getD b 0 = at2 ds j b := rfl
    refine ⟨?_, wkd hs hk hb⟩
    simp (disch := omega) only [EV, wtc, hj, hk, e1, hr, h1, hb, e3, e4]
    unfold wfy
    split <;> rfl)
   (fun b _ => by simp (disch := omega) only [EV, wtc, Nat.lt_irrefl])).1
 unfold F_zk T_zk
 have z : Int.toNat 0 = 0 := rfl
 simp (disch := omega) only [EV, z, (hs.pl h0).1, key]
theorem wlh {V R α : Type} {f : V → Option (V ⊕ R)} {n : Nat} (mk : Nat → List α → V) (g : Nat → α) (fin : List α → R)
  (hstep : ∀ i l, i < n → l.length = i → f (mk i l) = some (.inl (mk (i + 1) (l ++ [g i])))) (hend : ∀ l, l.length = n → f (mk n l) = some (.inr (fin l))) : iter f (mk 0 []) = some (fin ((List.range n).map g)) := by
 have := (wbi (f := f) (n := n) mk (fun i l => l.length = i) (fun l i => l ++ [g i]) fin (s0 := []) rfl (fun i l hi hl => ⟨hstep i l hi hl, by simp [hl]⟩) hend).1
 rw [this]
 congr 2
 have : ∀ (l : List Nat) (acc : List α), l.foldl (fun l i => l ++ [g i]) acc = acc ++ l.map g := by
  intro l
  induction l with
  | nil => simp
  | cons x l ih => intro acc; simp [ih]
 rw [this]; simp
theorem waij {o : List Int} {ds : List (List Int)} (hf : Fld o ds) {s : List Int} (hs : Places s o.length) (h0 : 0 < s.length) : F_zj o ds s = some ((List.range ds.length).map fun j => (srv ds j s : Int)) := by
 have hc := hf.clients
 have key : waqc (s, ((ds.length : Int), (o, ds))) (0, []) = some ((List.range ds.length).map fun j => (srv ds j s : Int)) :=
  wlh (f := fun v => (wtd (s, ((ds.length : Int), (o, ds))) v).ev) (n := ds.length) (mk := fun k (l : List Int) => ((k : Int), l)) (fun j => (srv ds j s : Int)) (fun l => l)
   (fun j l hj hl => by
    have e : (l.length + List.length [(srv ds j s : Int)]) * 8 ≤ 140737488355328 := by simp; omega
    simp (disch := omega) only [EV, wtd, hj, waii hf hs h0 hj, e]
    rfl) (fun l _ => by simp (disch := omega) only [EV, wtd, Nat.lt_irrefl])
 unfold F_zj T_zj
 simp (disch := omega) only [EV, key]
theorem wabs {o : List Int} {ds : List (List Int)} (hf : Fld o ds) {s : List Int} (hs : Places s o.length) (h0 : 0 < s.length) : F_zg o ds s = some (wph ds s) := by
 have hc := hf.clients
 unfold F_zg T_zg
 simp (disch := omega) only [EV, waij hf hs h0]
 generalize hr : ((List.range ds.length).map fun j => (srv ds j s : Int)) = r
 have hrl : r.length = ds.length := by rw [← hr]; simp
 have hrg : ∀ j, j < ds.length → r.getD j 0 = (srv ds j s : Int) := fun j hj => by rw [← hr, List.getD_eq_getElem?_getD, List.getElem?_map, List.getElem?_range hj]; rfl
 have key : waqd ((r.length : Int), (o, (ds, r))) (0, []) = some (wph ds s) :=
  wlh (f := fun v => (wte ((r.length : Int), (o, (ds, r))) v).ev) (n := ds.length) (mk := fun k (l : List Int) => ((k : Int), l)) (near ds s) (fun l => l)
   (fun j l hj hl => by
    have hb : srv ds j s < o.length := waif hs h0
    have e3 : (ds.getD j []).getD (srv ds j s) 0 = near ds s j := rfl
    have e : ∀ x : Int, (l.length + List.length [x]) * 8 ≤ 140737488355328 := fun x => by simp; omega
    simp (disch := omega) only [EV, wte, hj, hrl, hrg j hj, hf.rowLen j hj, hb, e3, e]
    rfl) (fun l _ => by simp (disch := omega) only [EV, wte, hrl, Nat.lt_irrefl])
 simp (disch := omega) only [EV, key]
theorem waik {l : List Int} {B : Int} (hl : (l.length : Int) * B < 9223372036854775808) (hn : (l.length : Int) < 9223372036854775807) (h : ∀ a ∈ l, 0 ≤ a ∧ a ≤ B) : F_zz l = some (l.foldl (fun a x => a + x) 0) := by
 have key := wpg (f := fun v => (wkr (l, (l.length : Int)) v).ev) l 0 (mk := fun k a => (a, (k : Int))) (I := fun k a => 0 ≤ a ∧ a ≤ (k : Int) * B) (g := fun a x => a + x) (fin := fun a => a) (s0 := 0) (by simp)
  (fun k a hk ha => by
   have h1 := h _ (getD_mem (d := 0) hk)
   have h2 : ((k + 1 : Nat) : Int) * B = (k : Int) * B + B := by rw [Int.natCast_add, Int.add_mul]; simp
   have hB : 0 ≤ B := by omega
   have h3 : ((k + 1 : Nat) : Int) * B ≤ (l.length : Int) * B := Int.mul_le_mul_of_nonneg_right (by omega) hB
   refine ⟨?_, by omega, by omega⟩
   simp (disch := omega) only [EV, wkr, hk]
   rfl)
  (fun a _ => by simp (disch := omega) only [EV, wkr, Nat.lt_irrefl])
 unfold F_zz T_zz
 have k1 : wahd (l, (l.length : Int)) (0, 0) = _ := key.1
 simp (disch := omega) only [EV, k1]
theorem wabt {o : List Int} {ds : List (List Int)} (hf : Fld o ds) {s : List Int} (hs : Places s o.length) (h0 : 0 < s.length) : F_zl o ds s = some (serve ds s) := by
 have hc := hf.clients
 unfold F_zl T_zl
 have hl : (wph ds s).length = ds.length := by simp [wph]
 simp (disch := omega) only [EV, wabs hf hs h0, waik (l := wph ds s) (B := 99) (by omega) (by omega) (fun a ha => by
  obtain ⟨j, hj, rfl⟩ := List.mem_map.1 ha
  exact wvw hf hs h0 (List.mem_range.1 hj))]
 unfold wph serve
 rw [List.foldl_map]
theorem wabu {o : List Int} {ds : List (List Int)} (hf : Fld o ds) {s : List Int} (hs : Places s o.length) (h0 : 0 < s.length) : wamx o ds s = some (serve ds s) := by
 have hc := hf.clients
 have key : wagp (s, (o, ds)) (0, 0) = some (serve ds s) :=
  (wbi (f := fun v => (wnf (s, (o, ds)) v).ev) (n := ds.length) (mk := fun k a => (a, (k : Int))) (I := fun k a => 0 ≤ a ∧ a ≤ (k : Int) * 99) (g := fun a j => a + near ds s j) (fin := fun a => a) (s0 := 0) (by simp)
   (fun j a hj ha => by
    have h1 := wvw hf hs h0 hj
    refine ⟨?_, by omega, by omega⟩
    simp (disch := omega) only [EV, wnf, hj, wtp hf hs h0 hj]
    rfl)
   (fun a _ => by simp (disch := omega) only [EV, wnf, Nat.lt_irrefl])).1
 unfold wamx wavz
 simp (disch := omega) only [EV, key]
theorem waof {o : List Int} {ds : List (List Int)} (hf : Fld o ds) {s : List Int} (hs : Places s o.length) : wamy o ds s = some (pay o s) := by
 have hlow := hs.low
 have key : wagq (s, (o, ds)) (0, 0) = some (pay o s) :=
  (wbi (f := fun v => (wng (s, (o, ds)) v).ev) (n := s.length) (mk := fun k a => (a, (k : Int))) (I := fun k a => 0 ≤ a ∧ a ≤ (k : Int) * 99) (g := fun a k => a + o.getD (pl s k) 0) (fin := fun a => a) (s0 := 0) (by simp)
   (fun k a hk ha => by
    obtain ⟨e1, h1⟩ := hs.pl hk
    have h2 := hf.cost _ h1
    refine ⟨?_, by omega, by omega⟩
    simp (disch := omega) only [EV, wng, hk, e1, h1]
    rfl)
   (fun a _ => by simp (disch := omega) only [EV, wng, Nat.lt_irrefl])).1
 unfold wamy wawe
 simp (disch := omega) only [EV, key]
theorem wabv {o : List Int} {ds : List (List Int)} (hf : Fld o ds) {s : List Int} (hs : Places s o.length) : F_zh o ds s = some (pay o s) := by
 have hlow := hs.low
 have key : waqa (s, ((s.length : Int), (o, ds))) (0, 0) = some (pay o s) :=
  (wbi (f := fun v => (wtb (s, ((s.length : Int), (o, ds))) v).ev) (n := s.length) (mk := fun k a => (a, (k : Int))) (I := fun k a => 0 ≤ a ∧ a ≤ (k : Int) * 99) (g := fun a k => a + o.getD (pl s k) 0) (fin := fun a => a) (s0 := 0) (by simp)
   (fun k a hk ha => by
    obtain ⟨e1, h1⟩ := hs.pl hk
    have h2 := hf.cost _ h1
    refine ⟨?_, by omega, by omega⟩
    simp (disch := omega) only [EV, wtb, hk, e1, h1]
    rfl)
   (fun a _ => by simp (disch := omega) only [EV, wtb, Nat.lt_irrefl])).1
 unfold F_zh T_zh
 simp (disch := omega) only [EV, key]
theorem wpi {o : List Int} {ds : List (List Int)} (hf : Fld o ds) {s : List Int} (hs : Places s o.length) (h0 : 0 < s.length) : woj o ds s = some (pay o s + serve ds s) := by
 have h1 := wra hf hs h0
 have h2 := waig hf hs
 unfold woj wawj
 simp (disch := omega) only [EV, wabu hf hs h0, waof hf hs]
 rw [Int.add_comm]
theorem wzo {o : List Int} {ds : List (List Int)} (hf : Fld o ds) {s : List Int} (hs : Places s o.length) (h0 : 0 < s.length) : F_zm o ds s = some (pay o s + serve ds s) := by
 have h1 := wra hf hs h0
 have h2 := waig hf hs
 unfold F_zm T_zm
 simp (disch := omega) only [EV, wabt hf hs h0, wabv hf hs]
def wke (o : List Int) (ds : List (List Int)) (s : List Int) : Bool := wem o ds && (wbn s 0 ((o.length : Int) - 1) && decide (0 < s.length))
theorem waog {o : List Int} {ds : List (List Int)} {s : List Int} (ho : wcd o) (hd : wrp ds) (hs : wcd s) : wamt o ds s = some (wke o ds s) := by
 unfold wamt wavo wke
 simp (disch := omega) only [EV, wnw ho hd, wzn ds ho hs]
 have e : decide ((0 : Int) < (s.length : Int)) = decide (0 < s.length) := by simp
 rw [e]
 cases wem o ds <;> cases wbn s 0 ((o.length : Int) - 1) <;> rfl
theorem wvx {o : List Int} {ds : List (List Int)} {s : List Int} (ho : wcd o) (hd : wrp ds) (hs : wcd s) : F_zw o ds s = some (wke o ds s) := by
 have h := ho
 unfold wcd at h
 unfold F_zw T_zw F_zf T_zf wke
 simp (disch := omega) only [EV, wgg ho hd, wha hs (show (0 : Int) ≤ (o.length : Int) by omega) h]
 have e : ((0 : Int) < (s.length : Int)) = (0 < s.length) := by simp
 by_cases h0 : 0 < s.length
 ·have h1 : (0 : Int) < (s.length : Int) := by omega
  simp only [h0, h1, decide_true, if_true, Bool.and_true]
  cases wem o ds <;> cases wbn s 0 ((o.length : Int) - 1) <;> rfl
 ·have h1 : ¬ (0 : Int) < (s.length : Int) := by omega
  simp only [h0, h1, decide_false, if_false, Bool.and_false]
  cases wem o ds <;> rfl
theorem wail {o : List Int} {ds : List (List Int)} {s : List Int} (hs : wcd s) (h : wke o ds s = true) : Fld o ds ∧ Places s o.length ∧ 0 < s.length := by
 unfold wke at h
 simp only [Bool.and_eq_true, decide_eq_true_eq] at h
 exact ⟨wdj.1 h.1, Places.of hs h.2.1, h.2.2⟩
def wed (o : List Int) (ds : List (List Int)) (s : List Int) (c : Int) : Int × Bool := bif wch o ds s c && decide (0 < s.length) then (pay o s + serve ds s, true) else (0, false)
theorem wpj {o : List Int} {ds : List (List Int)} {s : List Int} {c : Int} (hs : wcd s) (h : wch o ds s c = true) : Fld o ds ∧ Places s o.length := by
 unfold wch at h
 simp only [Bool.and_eq_true] at h
 exact ⟨wdj.1 h.1, Places.of hs h.2.1⟩
theorem wcv {o : List Int} {ds : List (List Int)} {s : List Int} (ho : wcd o) (hd : wrp ds) (hs : wcd s) (c : Int) : wahp o ds s c = some (wed o ds s c) := by
 unfold wahp wayn wed
 simp (disch := omega) only [EV, wkc ho hd hs]
 cases h : wch o ds s c with
 | false => rfl
 | true =>
  obtain ⟨h1, h2⟩ := wpj hs h
  by_cases h0 : 0 < s.length
  ·have e : ((s.length : Int) == 0) = false := beq_eq_false_iff_ne.2 (by omega)
   simp (disch := omega) only [EV, e, h0, wpi h1 h2 h0]
  ·have e : ((s.length : Int) == 0) = true := beq_iff_eq.2 (by omega)
   simp (disch := omega) only [EV, e, h0]
theorem wcw {o : List Int} {ds : List (List Int)} {s : List Int} (ho : wcd o) (hd : wrp ds) (hs : wcd s) (c : Int) : F_zc o ds s c = some (wed o ds s c) := by
 unfold F_zc T_zc F_zr T_zr wed
 simp (disch := omega) only [EV, wqz ho hd hs, wvx ho hd hs]
 cases h : wch o ds s c with
 | false => rfl
 | true =>
  obtain ⟨h1, h2⟩ := wpj hs h
  have hb : wke o ds s = decide (0 < s.length) := by
   unfold wch at h
   simp only [Bool.and_eq_true] at h
   unfold wke
   rw [h.1, h.2.1, Bool.true_and, Bool.true_and]
  rw [hb]
  by_cases h0 : 0 < s.length
  ·simp (disch := omega) only [EV, h0, wzo h1 h2 h0]
  ·simp (disch := omega) only [EV, h0]
end Go.Proofs.Ytnagpmhaddfgmaa
