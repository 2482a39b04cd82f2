/-
 Plain laws: grounds, metric grounds.
-/
import Derived.Test.YtnagpmhaddfgmaaGreatPM
namespace Go.Proofs.YtnagpmhaddfgmaaGreat
def at2 (x : List (List Int)) (i j : Nat) : Int := (x.getD i []).getD j 0
def wald (x : List (List Int)) (n i : Nat) : Bool := allIn (x.getD i []) 0 99 && (((x.getD i []).length : Int) == (n : Int))
structure Ground (x : List (List Int)) : Prop where
 row : ∀ i, i < x.length → wald x x.length i = true
 diag : ∀ i, i < x.length → at2 x i i = 0
 sym : ∀ i j, i < x.length → j < x.length → at2 x i j = at2 x j i
 len : x.length ≤ 7
theorem wvn {x : List (List Int)} {n i : Nat} (h : wald x n i = true) : (x.getD i []).length = n := by
 simp only [wald, Bool.and_eq_true, beq_iff_eq] at h
 omega
theorem wath {x : List (List Int)} {n i j : Nat} (h : wald x n i = true) (hj : j < n) : 0 ≤ at2 x i j ∧ at2 x i j ≤ 99 := by
 have hl := wvn h
 simp only [wald, Bool.and_eq_true] at h
 exact wju h.1 (by omega)
theorem Ground.in {x : List (List Int)} (h : Ground x) {i j : Nat} (hi : i < x.length) (hj : j < x.length) : 0 ≤ at2 x i j ∧ at2 x i j ≤ 99 := wath (h.row i hi) hj
theorem Ground.rowLen {x : List (List Int)} (h : Ground x) {i : Nat} (hi : i < x.length) : (x.getD i []).length = x.length := wvn (h.row i hi)
end Go.Proofs.YtnagpmhaddfgmaaGreat
/-
 Plain laws: rising lists, dispersion, allocations, the cost of hubs.
-/
namespace Go.Proofs.YtnagpmhaddfgmaaGreat
def wbo (l : List Int) (lo hi : Int) : Bool := (List.range l.length).all fun i => wjt (l.getD i 0) lo hi && (i == 0 || decide (l.getD (i - 1) 0 < l.getD i 0))
theorem wnt {l : List Int} {lo hi : Int} : wbo l lo hi = true ↔ (∀ x ∈ l, lo ≤ x ∧ x ≤ hi) ∧ l.Pairwise (· < ·) := by
 unfold wbo
 simp only [List.all_eq_true, List.mem_range, Bool.and_eq_true, Bool.or_eq_true, beq_iff_eq, decide_eq_true_eq, wey]
 constructor
 ·intro h
  refine ⟨fun x hx => ?_, ?_⟩
  ·obtain ⟨i, hi, e⟩ := List.getElem_of_mem hx
   have := (h i hi).1
   rw [List.getD_eq_getElem?_getD, List.getElem?_eq_getElem hi] at this
   rw [← e]; exact this
  ·rw [List.pairwise_iff_getElem]
   have key : ∀ d i, i + d + 1 < l.length → l.getD i 0 < l.getD (i + d + 1) 0 := by
    intro d
    induction d with
    | zero =>
     intro i hi
     have := (h (i + 1) hi).2
     rcases this with h0 | h0
     ·omega
     ·simpa using h0
    | succ d ih =>
     intro i hi
     have h1 := ih i (by omega)
     have := (h (i + (d + 1) + 1) hi).2
     rcases this with h0 | h0
     ·omega
     ·have e : i + (d + 1) + 1 - 1 = i + d + 1 := by omega
      rw [e] at h0
      omega
   intro i j hi hj hij
   have := key (j - i - 1) i (by omega)
   rw [show i + (j - i - 1) + 1 = j by omega, List.getD_eq_getElem?_getD, List.getD_eq_getElem?_getD, List.getElem?_eq_getElem hi, List.getElem?_eq_getElem hj] at this
   exact this
 ·rintro ⟨h1, h2⟩ i hi
  refine ⟨h1 _ (getD_mem hi), ?_⟩
  by_cases e : i = 0
  ·exact .inl e
  ·right
   have := List.pairwise_iff_getElem.1 h2 (i - 1) i (by omega) hi (by omega)
   rw [List.getD_eq_getElem?_getD, List.getD_eq_getElem?_getD, List.getElem?_eq_getElem hi, List.getElem?_eq_getElem (by omega)]
   exact this
theorem wafe {l : List Int} {lo hi : Int} (h : wbo l lo hi = true) {i : Nat} (hi' : i < l.length) : lo ≤ l.getD i 0 ∧ l.getD i 0 ≤ hi := (wnt.1 h).1 _ (getD_mem hi')
theorem wyu {l : List Int} (hl : waw l) (lo hi : Int) : wapr l lo hi = some (wbo l lo hi) := by
 unfold waw at hl
 have h0 : wais (l, (lo, hi)) 0 = _ := wfv (f := fun v => (wjj (l, (lo, hi)) v).ev) (n := l.length) (mk := fun i => (i : Int)) (p := fun i => wjt (l.getD i 0) lo hi && (i == 0 || decide (l.getD (i - 1) 0 < l.getD i 0))) (yes := .inl ()) (no := .inr ()) (fun i hi' _ => by
   cases i with
   | zero =>
    simp (disch := omega) only [EV, wjj, hi', wgy]
    cases wjt (l.getD 0 0) lo hi <;> rfl
   | succ i =>
    have h1 : i < l.length := by omega
    have e0 : (0 : Int) < ((i + 1 : Nat) : Int) := by omega
    have e1 : ((i + 1 : Nat) : Int) - 1 = (i : Int) := by omega
    have e2 : (i + 1 == 0) = false := rfl
    simp (disch := omega) only [EV, wjj, hi', wgy, e0, e1, h1, e2, Bool.false_or, Nat.add_sub_cancel]
    cases wjt (l.getD (i + 1) 0) lo hi with
    | false => rfl
    | true =>
     by_cases h : l.getD (i + 1) 0 ≤ l.getD i 0
     ·simp only [Bool.not_true, cond_false, if_pos h, Bool.true_and, show ¬ l.getD i 0 < l.getD (i + 1) 0 by omega, decide_false]
     ·simp only [Bool.not_true, cond_false, if_neg h, Bool.true_and, show l.getD i 0 < l.getD (i + 1) 0 by omega, decide_true]
      rfl) (by simp (disch := omega) only [EV, wjj, Nat.lt_irrefl])
 unfold wapr wbac
 simp (disch := omega) only [EV, h0]
 unfold wbo
 cases (List.range l.length).all fun i => wjt (l.getD i 0) lo hi && (i == 0 || decide (l.getD (i - 1) 0 < l.getD i 0)) <;> rfl
theorem wnu {l : List Int} (hl : waw l) {n : Int} (h0 : 0 ≤ n) (h1 : n ≤ 1048576) : wajs l n = some (wbo l 0 (n - 1)) := by
 unfold waw at hl
 have h0 : wajr (l, (n, (l, ((l.length : Nat) : Int)))) 0 = _ := wfv (f := fun v => (wjq (l, (n, (l, ((l.length : Nat) : Int)))) v).ev) (n := l.length) (mk := fun i => (i : Int)) (p := fun i => wjt (l.getD i 0) 0 (n - 1) && (i == 0 || decide (l.getD (i - 1) 0 < l.getD i 0))) (yes := .inl ()) (no := .inr ()) (fun i hi' _ => by
   cases i with
   | zero =>
    simp (disch := omega) only [EV, wjq, hi', wcs]
    cases wjt (l.getD 0 0) 0 (n - 1) <;> rfl
   | succ i =>
    have h1 : i < l.length := by omega
    have e0 : (0 : Int) < ((i + 1 : Nat) : Int) := by omega
    have e1 : ((i + 1 : Nat) : Int) - 1 = (i : Int) := by omega
    have e2 : (i + 1 == 0) = false := rfl
    simp (disch := omega) only [EV, wjq, hi', wcs, e0, e1, h1, e2, Bool.false_or, Nat.add_sub_cancel]
    cases wjt (l.getD (i + 1) 0) 0 (n - 1) with
    | false => rfl
    | true =>
     by_cases h : l.getD (i + 1) 0 ≤ l.getD i 0
     ·simp only [Bool.not_true, cond_false, if_pos h, Bool.true_and, show ¬ l.getD i 0 < l.getD (i + 1) 0 by omega, decide_false]
     ·simp only [Bool.not_true, cond_false, if_neg h, Bool.true_and, show l.getD i 0 < l.getD (i + 1) 0 by omega, decide_true]
      rfl) (by simp (disch := omega) only [EV, wjq, Nat.lt_irrefl])
 unfold wajs wbed
 simp (disch := omega) only [EV, h0]
 unfold wbo
 cases (List.range l.length).all fun i => wjt (l.getD i 0) 0 (n - 1) && (i == 0 || decide (l.getD (i - 1) 0 < l.getD i 0)) <;> rfl
def pl (s : List Int) (i : Nat) : Nat := (s.getD i 0).toNat
structure Places (s : List Int) (n : Nat) : Prop where
 low : (s.length : Int) ≤ 1048576
 mem : ∀ i, i < s.length → 0 ≤ s.getD i 0 ∧ s.getD i 0 < n
theorem Places.pl {s : List Int} {n : Nat} (h : Places s n) {i : Nat} (hi : i < s.length) : s.getD i 0 = (pl s i : Int) ∧ Go.Proofs.YtnagpmhaddfgmaaGreat.pl s i < n := by
 have := h.mem i hi
 unfold Go.Proofs.YtnagpmhaddfgmaaGreat.pl
 omega
theorem Places.of {s : List Int} {n : Nat} (hs : waw s) (h : wbo s 0 ((n : Int) - 1) = true) : Places s n := ⟨hs, fun i hi => by have := wafe h hi; omega⟩
end Go.Proofs.YtnagpmhaddfgmaaGreat
/-
 Plain laws: fields, atlases.
-/
namespace Go.Proofs.YtnagpmhaddfgmaaGreat
def wep (o : List Int) (ds : List (List Int)) : Bool := wjt (o.length : Int) 1 7 && (allIn o 0 99 && (decide ((ds.length : Int) ≤ 7) && ds.all fun r => decide (r.length = o.length) && allIn r 0 99))
structure Fld (o : List Int) (ds : List (List Int)) : Prop where
 pos : 1 ≤ o.length
 len : o.length ≤ 7
 cost : ∀ i, i < o.length → 0 ≤ o.getD i 0 ∧ o.getD i 0 ≤ 99
 clients : ds.length ≤ 7
 rowLen : ∀ j, j < ds.length → (ds.getD j []).length = o.length
 dist : ∀ j i, j < ds.length → i < o.length → 0 ≤ (ds.getD j []).getD i 0 ∧ (ds.getD j []).getD i 0 ≤ 99
theorem wgg {o : List Int} {ds : List (List Int)} : wep o ds = true ↔ Fld o ds := by
 unfold wep
 simp only [Bool.and_eq_true, decide_eq_true_eq, List.all_eq_true, wey]
 constructor
 ·rintro ⟨⟨h1, h2⟩, h3, h4, h5⟩
  have h6 : ∀ j, j < ds.length → (ds.getD j []).length = o.length ∧ allIn (ds.getD j []) 0 99 = true := fun j hj => h5 _ (getD_mem (d := []) hj)
  exact ⟨by omega, by omega, fun i hi => wju h3 hi, by omega, fun j hj => (h6 j hj).1, fun j i hj hi => wju (h6 j hj).2 (by rw [(h6 j hj).1]; exact hi)⟩
 ·rintro ⟨h1, h2, h3, h4, h5, h6⟩
  refine ⟨by omega, wnq.2 fun a ha => ?_, by omega, fun r hr => ?_⟩
  ·obtain ⟨i, hi, e⟩ := List.getElem_of_mem ha
   have := h3 i hi
   rw [List.getD_eq_getElem?_getD, List.getElem?_eq_getElem hi, Option.getD_some, e] at this
   exact this
  ·obtain ⟨j, hj, e⟩ := List.getElem_of_mem hr
   have e2 : ds.getD j [] = r := by rw [List.getD_eq_getElem?_getD, List.getElem?_eq_getElem hj, Option.getD_some, e]
   have h7 := h5 j hj
   rw [e2] at h7
   refine ⟨h7, wnq.2 fun a ha => ?_⟩
   obtain ⟨i, hi, e3⟩ := List.getElem_of_mem ha
   have := h6 j i hj (by omega)
   rw [e2, List.getD_eq_getElem?_getD, List.getElem?_eq_getElem hi, Option.getD_some, e3] at this
   exact this
theorem wvo {o : List Int} {ds : List (List Int)} (ho : waw o) (hd : wfw ds) : wair o ds = some (wep o ds) := by
 have hl := hd.1
 have h0 : waiq ((o.length : Int), (o, ds)) 0 = _ := wfv (f := fun v => (wms ((o.length : Int), (o, ds)) v).ev) (n := ds.length) (mk := fun i => (i : Int)) (p := fun i => decide ((ds.getD i []).length = o.length) && allIn (ds.getD i []) 0 99) (yes := .inl ()) (no := .inr ()) (fun i hi _ => by
   simp (disch := omega) only [EV, wms, hi, wacq (hd.2 _ (getD_mem (d := []) hi)), int_eq]
   cases allIn (ds.getD i []) 0 99 <;> cases decide ((ds.getD i []).length = o.length) <;> rfl) (by simp (disch := omega) only [EV, wms, Nat.lt_irrefl])
 rw [wvh ds [] (fun r => decide (r.length = o.length) && allIn r 0 99)] at h0
 unfold wair wazy wep
 simp (disch := omega) only [EV, h0, wgy, wacq ho, int_eq]
 cases ds.all (fun r => decide (r.length = o.length) && allIn r 0 99) <;> cases wjt (o.length : Int) 1 7 <;> cases allIn o 0 99 <;> cases decide ((ds.length : Int) ≤ 7) <;> rfl
theorem wjw {o : List Int} {ds : List (List Int)} (ho : waw o) (hd : wfw ds) : F_zt o ds = some (wep o ds) := by
 have hl := hd.1
 have hc := wjv (l := ds) (show (ds.length : Int) < 9223372036854775807 by omega) (p := fun a => Option.bind (F_zu a.1 o ds) fun y => some y) (q := fun r => !(decide (r.length = o.length) && allIn r 0 99)) fun r hr => by
  unfold F_zu T_zu
  simp (disch := omega) only [EV, wig (hd.2 r hr), int_ne]
  cases decide (r.length = o.length) <;> cases allIn r 0 99 <;> rfl
 unfold F_zt T_zt wep
 simp (disch := omega) only [EV, wcs, wig ho, hc]
 rw [List.any_eq_not_all_not]
 simp only [Bool.not_not]
 cases wjt (o.length : Int) 1 7 <;> cases allIn o 0 99 <;> by_cases h : (ds.length : Int) ≤ 7 <;> simp only [h, decide_true, decide_false, if_true, if_false] <;> rfl
def wdx (o : List Int) (ds : List (List Int)) (s : List Int) (c : Int) : Bool := wep o ds && (wbo s 0 ((o.length : Int) - 1) && wjt c 0 1000)
theorem wacr {o : List Int} (ds : List (List Int)) {s : List Int} (ho : waw o) (hs : waw s) : waiu o ds s = some (wbo s 0 ((o.length : Int) - 1)) := by
 unfold waw at ho
 unfold waiu wbah
 simp (disch := omega) only [EV, wyu hs]
theorem wpg {o : List Int} {ds : List (List Int)} {s : List Int} (ho : waw o) (hd : wfw ds) (hs : waw s) (c : Int) : waiv o ds s c = some (wdx o ds s c) := by
 unfold waiv wbai wdx
 simp (disch := omega) only [EV, wvo ho hd, wacr ds ho hs, wgy]
 cases wep o ds <;> cases wbo s 0 ((o.length : Int) - 1) <;> rfl
theorem wii {o : List Int} {ds : List (List Int)} {s : List Int} (ho : waw o) (hd : wfw ds) (hs : waw s) (c : Int) : wks o ds s c = some (wdx o ds s c) := by
 have h := ho
 unfold waw at h
 unfold wks T_zs wdx
 simp (disch := omega) only [EV, wjw ho hd, wnu hs (show (0 : Int) ≤ (o.length : Int) by omega) h, wcs]
 cases wep o ds <;> cases wbo s 0 ((o.length : Int) - 1) <;> rfl
theorem waff {o : List Int} {ds : List (List Int)} {b : Int} (ho : Fit1 o) (hd : Fit2 ds) (h0 : 0 ≤ b) (h1 : b ≤ 1048576) : Sz (wapl o ds b) (waw o ∧ wfw ds) := by
 unfold wapl wayx
 obtain ⟨r, e1, k1, k2⟩ := wic ho h0 h1
 simp (disch := omega) only [EV, e1]
 by_cases hr : r < 0
 ·simp (disch := omega) only [EV, hr]
  exact ⟨_, rfl, by omega, fun h => by omega⟩
 ·obtain ⟨r2, e2, k3, k4⟩ := waez hd (show 0 ≤ r by omega) k1
  simp (disch := omega) only [EV, hr, e2]
  by_cases hr2 : r2 < 0
  ·simp (disch := omega) only [EV, hr2]
   exact ⟨_, rfl, by omega, fun h => by omega⟩
  ·simp (disch := omega) only [EV, hr2]
   exact ⟨_, rfl, k3, fun h => ⟨k2 (by omega), k4 h⟩⟩
theorem wafg {o : List Int} {ds : List (List Int)} {s : List Int} (c : Int) {b : Int} (ho : Fit1 o) (hd : Fit2 ds) (hs : Fit1 s) (h0 : 0 ≤ b) (h1 : b ≤ 1048576) : Sz (wapm o ds s c b) (waw o ∧ wfw ds ∧ waw s) := by
 unfold wapm wayz
 obtain ⟨r, e1, k1, k2⟩ := waff ho hd h0 h1
 simp (disch := omega) only [EV, e1]
 by_cases hr : r < 0
 ·simp (disch := omega) only [EV, hr]
  exact ⟨_, rfl, by omega, fun h => by omega⟩
 ·obtain ⟨r2, e2, k3, k4⟩ := wic hs (show 0 ≤ r by omega) k1
  simp (disch := omega) only [EV, hr, e2]
  by_cases hr2 : r2 < 0
  ·simp (disch := omega) only [EV, hr2]
   exact ⟨_, rfl, by omega, fun h => by omega⟩
  ·simp (disch := omega) only [EV, hr2]
   exact ⟨_, rfl, k3, fun h => ⟨(k2 (by omega)).1, (k2 (by omega)).2, k4 h⟩⟩
theorem wafh {o : List Int} {ds : List (List Int)} (ho : waw o) (hd : wfw ds) : wapp o ds = some (o, ds) := by
 unfold wapp wazm
 simp (disch := omega) only [EV, wie ho, wafa hd]
theorem wafi {o : List Int} {ds : List (List Int)} {s : List Int} (ho : waw o) (hd : wfw ds) (hs : waw s) (c : Int) : wxq o ds s c = some (c, o, ds, s) := by
 unfold wxq wazo
 simp (disch := omega) only [EV, wafh ho hd, wie hs]
theorem wafj {o o' : List Int} {ds ds' : List (List Int)} (ho : waw o) (hd : wfw ds) : wast o ds o' ds' = some ((o == o') && (ds == ds')) := by
 unfold wast wbgo
 simp (disch := omega) only [EV, wif ho, wafb hd]
 cases (o == o') <;> cases (ds == ds') <;> rfl
theorem wph {o o' : List Int} {ds ds' : List (List Int)} {s s' : List Int} (ho : waw o) (hd : wfw ds) (hs : waw s) (c c' : Int) : wyq o ds s c o' ds' s' c' = some ((o == o') && (ds == ds') && ((s == s') && (c == c'))) := by
 unfold wyq wbgq
 simp (disch := omega) only [EV, wafj ho hd, wif hs, bne]
 cases ((o == o') && (ds == ds')) <;> cases (s == s') <;> cases (c == c') <;> rfl
end Go.Proofs.YtnagpmhaddfgmaaGreat
/-
 Plain laws: what a set of sites serves: lengths, service, payment, total, reach; values of objectives.
-/
namespace Go.Proofs.YtnagpmhaddfgmaaGreat
theorem Fld.at2 {o : List Int} {ds : List (List Int)} (h : Fld o ds) {j i : Nat} (hj : j < ds.length) (hi : i < o.length) : 0 ≤ at2 ds j i ∧ at2 ds j i ≤ 99 := h.dist j i hj hi
def whc (ds : List (List Int)) (j : Nat) (s : List Int) (b k : Nat) : Nat := if at2 ds j (pl s k) < at2 ds j b then pl s k else b
def srv (ds : List (List Int)) (j : Nat) (s : List Int) : Nat := (List.range s.length).foldl (whc ds j s) (pl s 0)
def near (ds : List (List Int)) (s : List Int) (j : Nat) : Int := at2 ds j (srv ds j s)
def pay (o s : List Int) : Int := (List.range s.length).foldl (fun a k => a + o.getD (pl s k) 0) 0
def serve (ds : List (List Int)) (s : List Int) : Int := (List.range ds.length).foldl (fun a j => a + near ds s j) 0
def wpi (ds : List (List Int)) (s : List Int) : List Int := (List.range ds.length).map (near ds s)
theorem wale {α S : Type} {g : S → α → S} (Q : S → Prop) {l : List α} (h : ∀ s a, a ∈ l → Q s → Q (g s a)) {s : S} (hs : Q s) : Q (l.foldl g s) := by
 induction l generalizing s with
 | nil => exact hs
 | cons a l ih => exact ih (fun s b hb => h s b (List.mem_cons_of_mem _ hb)) (h s a List.mem_cons_self hs)
theorem wjx {ds : List (List Int)} {j : Nat} {s : List Int} {n b k : Nat} (hs : Places s n) (hk : k < s.length) (hb : b < n) : whc ds j s b k < n := by
 unfold whc
 split
 ·exact (hs.pl hk).2
 ·exact hb
theorem walf {ds : List (List Int)} {j : Nat} {s : List Int} {n : Nat} (hs : Places s n) (h0 : 0 < s.length) : srv ds j s < n :=
 wale (fun b => b < n) (fun _ _ hk hb => wjx hs (List.mem_range.1 hk) hb) (hs.pl h0).2
theorem wyv {o : List Int} {ds : List (List Int)} (hf : Fld o ds) {s : List Int} (hs : Places s o.length) (h0 : 0 < s.length) {j : Nat} (hj : j < ds.length) : 0 ≤ near ds s j ∧ near ds s j ≤ 99 := hf.at2 hj (walf hs h0)
theorem wvp {α : Type} {l : List α} {f : α → Int} {B : Int} (h : ∀ a ∈ l, 0 ≤ f a ∧ f a ≤ B) (a0 : Int) : a0 ≤ l.foldl (fun a x => a + f x) a0 ∧ l.foldl (fun a x => a + f x) a0 ≤ a0 + (l.length : Int) * B := by
 induction l generalizing a0 with
 | nil => simp
 | cons x l ih =>
  have h1 := ih (fun a ha => h a (List.mem_cons_of_mem _ ha)) (a0 + f x)
  have h2 := h x List.mem_cons_self
  simp only [List.foldl_cons, List.length_cons]
  have e : ((l.length + 1 : Nat) : Int) * B = (l.length : Int) * B + B := by
   rw [Int.natCast_add, Int.add_mul]; simp
  rw [e]
  omega
theorem wrl {o : List Int} {ds : List (List Int)} (hf : Fld o ds) {s : List Int} (hs : Places s o.length) (h0 : 0 < s.length) : 0 ≤ serve ds s ∧ serve ds s ≤ 693 := by
 have := wvp (l := List.range ds.length) (f := near ds s) (B := 99) (fun j hj => wyv hf hs h0 (List.mem_range.1 hj)) 0
 have hc := hf.clients
 unfold serve
 simp only [List.length_range] at this
 omega
theorem walg {o : List Int} {ds : List (List Int)} (hf : Fld o ds) {s : List Int} (hs : Places s o.length) : 0 ≤ pay o s ∧ pay o s ≤ 103809024 := by
 have := wvp (l := List.range s.length) (f := fun k => o.getD (pl s k) 0) (B := 99) (fun k hk => hf.cost _ (hs.pl (List.mem_range.1 hk)).2) 0
 have hc := hs.low
 unfold pay
 simp only [List.length_range] at this
 omega
theorem walh {o : List Int} {ds : List (List Int)} (hf : Fld o ds) {s : List Int} (hs : Places s o.length) (h0 : 0 < s.length) {j : Nat} (hj : j < ds.length) : waqg o ds (j : Int) s = some (srv ds j s : Int) := by
 have hlow := hs.low
 have hr := hf.rowLen j hj
 have hlen := hf.len
 have key : wqp ((j : Int), (s, (o, ds))) ((pl s 0 : Int), 0) = some (srv ds j s : Int) :=
  (wap (f := fun v => (wjo ((j : Int), (s, (o, ds))) v).ev) (n := s.length) (mk := fun k (b : Nat) => ((b : Int), (k : Int))) (I := fun _ b => b < o.length) (g := whc ds j s) (fin := fun b => (b : Int)) (s0 := pl s 0) (hs.pl h0).2
   (fun k b hk hb => by
    obtain ⟨e1, h1⟩ := hs.pl hk
    have e3 : (ds.getD j []).getD (pl s k) 0 = at2 ds j (pl s k) := rfl
    have e4 : (ds.getD j []).getD b 0 = at2 ds j b := rfl
    refine ⟨?_, wjx hs hk hb⟩
    simp (disch := omega) only [EV, wjo, hj, hk, e1, hr, h1, hb, e3, e4]
    unfold whc
    split <;> rfl)
   (fun b _ => by simp (disch := omega) only [EV, wjo, Nat.lt_irrefl])).1
 have key2 : wqp ((j : Int), (s, (o, ds))) ((pl s 0 : Int), 1) = some (srv ds j s : Int) := by
  rw [← key]
  unfold wqp
  conv => rhs; rw [wbn]
  obtain ⟨e1, h1⟩ := hs.pl h0
  have e3 : (ds.getD j []).getD (pl s 0) 0 = at2 ds j (pl s 0) := rfl
  have z : Int.toNat 0 = 0 := rfl
  simp (disch := omega) only [EV, wjo, hj, h0, z, e1, hr, h1, e3, Int.lt_irrefl, show (0 : Int) < (s.length : Int) by omega]
  rfl
 unfold waqg wbbr
 have z : Int.toNat 0 = 0 := rfl
 simp (disch := omega) only [EV, z, (hs.pl h0).1, key2]
theorem wvq {o : List Int} {ds : List (List Int)} (hf : Fld o ds) {s : List Int} (hs : Places s o.length) (h0 : 0 < s.length) {j : Nat} (hj : j < ds.length) : waqh o ds (j : Int) s = some (near ds s j) := by
 have hr := hf.rowLen j hj
 have hb : srv ds j s < o.length := walf hs h0
 unfold waqh wbbw
 have e3 : (ds.getD j []).getD (srv ds j s) 0 = near ds s j := rfl
 simp (disch := omega) only [EV, hj, walh hf hs h0 hj, hr, hb, e3]
theorem wali {o : List Int} {ds : List (List Int)} (hf : Fld o ds) {s : List Int} (hs : Places s o.length) (h0 : 0 < s.length) {j : Nat} (hj : j < ds.length) : F_zp o ds (j : Int) s = some (srv ds j s : Int) := by
 have hlow := hs.low
 have hr := hf.rowLen j hj
 have hlen := hf.len
 have key : wawd ((j : Int), (s, ((s.length : Int), (o, ds)))) ((pl s 0 : Int), 0) = some (srv ds j s : Int) :=
  (wap (f := fun v => (wuw ((j : Int), (s, ((s.length : Int), (o, ds)))) v).ev) (n := s.length) (mk := fun k (b : Nat) => ((b : Int), (k : Int))) (I := fun _ b => b < o.length) (g := whc ds j s) (fin := fun b => (b : Int)) (s0 := pl s 0) (hs.pl h0).2
   (fun k b hk hb => by
    obtain ⟨e1, h1⟩ := hs.pl hk
    have e3 : (ds.getD j []).getD (pl s k) 0 = at2 ds j (pl s k) := rfl
    have e4 : (ds.getD j []).getD b 0 = at2 ds j b := rfl
    refine ⟨?_, wjx hs hk hb⟩
    simp (disch := omega) only [EV, wuw, hj, hk, e1, hr, h1, hb, e3, e4]
    unfold whc
    split <;> rfl)
   (fun b _ => by simp (disch := omega) only [EV, wuw, Nat.lt_irrefl])).1
 unfold F_zp T_zp
 have z : Int.toNat 0 = 0 := rfl
 simp (disch := omega) only [EV, z, (hs.pl h0).1, key]
theorem wacs {V R α : Type} {f : V → Option (V ⊕ R)} {n : Nat} (mk : Nat → List α → V) (g : Nat → α) (fin : List α → R)
  (hstep : ∀ i l, i < n → l.length = i → f (mk i l) = some (.inl (mk (i + 1) (l ++ [g i])))) (hend : ∀ l, l.length = n → f (mk n l) = some (.inr (fin l))) : iter f (mk 0 []) = some (fin ((List.range n).map g)) := by
 have := (wap (f := f) (n := n) mk (fun i l => l.length = i) (fun l i => l ++ [g i]) fin (s0 := []) rfl (fun i l hi hl => ⟨hstep i l hi hl, by simp [hl]⟩) hend).1
 rw [this]
 congr 2
 have : ∀ (l : List Nat) (acc : List α), l.foldl (fun l i => l ++ [g i]) acc = acc ++ l.map g := by
  intro l
  induction l with
  | nil => simp
  | cons x l ih => intro acc; simp [ih]
 rw [this]; simp
theorem walj {o : List Int} {ds : List (List Int)} (hf : Fld o ds) {s : List Int} (hs : Places s o.length) (h0 : 0 < s.length) : F_zo o ds s = some ((List.range ds.length).map fun j => (srv ds j s : Int)) := by
 have hc := hf.clients
 have key : wawe (s, ((ds.length : Int), (o, ds))) (0, []) = some ((List.range ds.length).map fun j => (srv ds j s : Int)) :=
  wacs (f := fun v => (wux (s, ((ds.length : Int), (o, ds))) v).ev) (n := ds.length) (mk := fun k (l : List Int) => ((k : Int), l)) (fun j => (srv ds j s : Int)) (fun l => l)
   (fun j l hj hl => by
    have e : (l.length + List.length [(srv ds j s : Int)]) * 8 ≤ 140737488355328 := by simp; omega
    simp (disch := omega) only [EV, wux, hj, wali hf hs h0 hj, e]
    rfl) (fun l _ => by simp (disch := omega) only [EV, wux, Nat.lt_irrefl])
 unfold F_zo T_zo
 simp (disch := omega) only [EV, key]
theorem wafk {o : List Int} {ds : List (List Int)} (hf : Fld o ds) {s : List Int} (hs : Places s o.length) (h0 : 0 < s.length) : F_zl o ds s = some (wpi ds s) := by
 have hc := hf.clients
 unfold F_zl T_zl
 simp (disch := omega) only [EV, walj hf hs h0]
 generalize hr : ((List.range ds.length).map fun j => (srv ds j s : Int)) = r
 have hrl : r.length = ds.length := by rw [← hr]; simp
 have hrg : ∀ j, j < ds.length → r.getD j 0 = (srv ds j s : Int) := fun j hj => by rw [← hr, List.getD_eq_getElem?_getD, List.getElem?_map, List.getElem?_range hj]; rfl
 have key : wawf ((r.length : Int), (o, (ds, r))) (0, []) = some (wpi ds s) :=
  wacs (f := fun v => (wuy ((r.length : Int), (o, (ds, r))) v).ev) (n := ds.length) (mk := fun k (l : List Int) => ((k : Int), l)) (near ds s) (fun l => l)
   (fun j l hj hl => by
    have hb : srv ds j s < o.length := walf hs h0
    have e3 : (ds.getD j []).getD (srv ds j s) 0 = near ds s j := rfl
    have e : ∀ x : Int, (l.length + List.length [x]) * 8 ≤ 140737488355328 := fun x => by simp; omega
    simp (disch := omega) only [EV, wuy, hj, hrl, hrg j hj, hf.rowLen j hj, hb, e3, e]
    rfl) (fun l _ => by simp (disch := omega) only [EV, wuy, hrl, Nat.lt_irrefl])
 simp (disch := omega) only [EV, key]
theorem walm {l : List Int} {B : Int} (hl : (l.length : Int) * B < 9223372036854775808) (hn : (l.length : Int) < 9223372036854775807) (h : ∀ a ∈ l, 0 ≤ a ∧ a ≤ B) : warl l = some (l.foldl (fun a x => a + x) 0) := by
 have key := wjs (f := fun v => (wnh (l, (l.length : Int)) v).ev) l 0 (mk := fun k a => (a, (k : Int))) (I := fun k a => 0 ≤ a ∧ a ≤ (k : Int) * B) (g := fun a x => a + x) (fin := fun a => a) (s0 := 0) (by simp)
  (fun k a hk ha => by
   have h1 := h _ (getD_mem (d := 0) hk)
   have h2 : ((k + 1 : Nat) : Int) * B = (k : Int) * B + B := by rw [Int.natCast_add, Int.add_mul]; simp
   have hB : 0 ≤ B := by omega
   have h3 : ((k + 1 : Nat) : Int) * B ≤ (l.length : Int) * B := Int.mul_le_mul_of_nonneg_right (by omega) hB
   refine ⟨?_, by omega, by omega⟩
   simp (disch := omega) only [EV, wnh, hk]
   rfl)
  (fun a _ => by simp (disch := omega) only [EV, wnh, Nat.lt_irrefl])
 unfold warl wbev
 have k1 : wakb (l, (l.length : Int)) (0, 0) = _ := key.1
 simp (disch := omega) only [EV, k1]
theorem wafl {o : List Int} {ds : List (List Int)} (hf : Fld o ds) {s : List Int} (hs : Places s o.length) (h0 : 0 < s.length) : F_zq o ds s = some (serve ds s) := by
 have hc := hf.clients
 unfold F_zq T_zq
 have hl : (wpi ds s).length = ds.length := by simp [wpi]
 simp (disch := omega) only [EV, wafk hf hs h0, walm (l := wpi ds s) (B := 99) (by omega) (by omega) (fun a ha => by
  obtain ⟨j, hj, rfl⟩ := List.mem_map.1 ha
  exact wyv hf hs h0 (List.mem_range.1 hj))]
 unfold wpi serve
 rw [List.foldl_map]
theorem wafm {o : List Int} {ds : List (List Int)} (hf : Fld o ds) {s : List Int} (hs : Places s o.length) (h0 : 0 < s.length) : waqi o ds s = some (serve ds s) := by
 have hc := hf.clients
 have key : wajj (s, (o, ds)) (0, 0) = some (serve ds s) :=
  (wap (f := fun v => (wmy (s, (o, ds)) v).ev) (n := ds.length) (mk := fun k a => (a, (k : Int))) (I := fun k a => 0 ≤ a ∧ a ≤ (k : Int) * 99) (g := fun a j => a + near ds s j) (fin := fun a => a) (s0 := 0) (by simp)
   (fun j a hj ha => by
    have h1 := wyv hf hs h0 hj
    refine ⟨?_, by omega, by omega⟩
    simp (disch := omega) only [EV, wmy, hj, wvq hf hs h0 hj]
    rfl)
   (fun a _ => by simp (disch := omega) only [EV, wmy, Nat.lt_irrefl])).1
 unfold waqi wbby
 simp (disch := omega) only [EV, key]
theorem wati {o : List Int} {ds : List (List Int)} (hf : Fld o ds) {s : List Int} (hs : Places s o.length) : waqj o ds s = some (pay o s) := by
 have hlow := hs.low
 have key : wajk (s, (o, ds)) (0, 0) = some (pay o s) :=
  (wap (f := fun v => (wmz (s, (o, ds)) v).ev) (n := s.length) (mk := fun k a => (a, (k : Int))) (I := fun k a => 0 ≤ a ∧ a ≤ (k : Int) * 99) (g := fun a k => a + o.getD (pl s k) 0) (fin := fun a => a) (s0 := 0) (by simp)
   (fun k a hk ha => by
    obtain ⟨e1, h1⟩ := hs.pl hk
    have h2 := hf.cost _ h1
    refine ⟨?_, by omega, by omega⟩
    simp (disch := omega) only [EV, wmz, hk, e1, h1]
    rfl)
   (fun a _ => by simp (disch := omega) only [EV, wmz, Nat.lt_irrefl])).1
 unfold waqj wbcd
 simp (disch := omega) only [EV, key]
theorem wafn {o : List Int} {ds : List (List Int)} (hf : Fld o ds) {s : List Int} (hs : Places s o.length) : F_zn o ds s = some (pay o s) := by
 have hlow := hs.low
 have key : wawc (s, ((s.length : Int), (o, ds))) (0, 0) = some (pay o s) :=
  (wap (f := fun v => (wuv (s, ((s.length : Int), (o, ds))) v).ev) (n := s.length) (mk := fun k a => (a, (k : Int))) (I := fun k a => 0 ≤ a ∧ a ≤ (k : Int) * 99) (g := fun a k => a + o.getD (pl s k) 0) (fin := fun a => a) (s0 := 0) (by simp)
   (fun k a hk ha => by
    obtain ⟨e1, h1⟩ := hs.pl hk
    have h2 := hf.cost _ h1
    refine ⟨?_, by omega, by omega⟩
    simp (disch := omega) only [EV, wuv, hk, e1, h1]
    rfl)
   (fun a _ => by simp (disch := omega) only [EV, wuv, Nat.lt_irrefl])).1
 unfold F_zn T_zn
 simp (disch := omega) only [EV, key]
theorem wafo {o : List Int} {ds : List (List Int)} (hf : Fld o ds) {s : List Int} (hs : Places s o.length) (h0 : 0 < s.length) : wqq o ds s = some (pay o s + serve ds s) := by
 have h1 := wrl hf hs h0
 have h2 := walg hf hs
 unfold wqq wbci
 simp (disch := omega) only [EV, wafm hf hs h0, wati hf hs]
 rw [Int.add_comm]
theorem wrm {o : List Int} {ds : List (List Int)} (hf : Fld o ds) {s : List Int} (hs : Places s o.length) (h0 : 0 < s.length) : F_zr o ds s = some (pay o s + serve ds s) := by
 have h1 := wrl hf hs h0
 have h2 := walg hf hs
 unfold F_zr T_zr
 simp (disch := omega) only [EV, wafl hf hs h0, wafn hf hs]
def wgk (o : List Int) (ds : List (List Int)) (s : List Int) : Bool := wep o ds && (wbo s 0 ((o.length : Int) - 1) && decide (0 < s.length))
theorem watj {o : List Int} {ds : List (List Int)} {s : List Int} (ho : waw o) (hd : wfw ds) (hs : waw s) : waqe o ds s = some (wgk o ds s) := by
 unfold waqe wbbn wgk
 simp (disch := omega) only [EV, wvo ho hd, wacr ds ho hs]
 have e : decide ((0 : Int) < (s.length : Int)) = decide (0 < s.length) := by simp
 rw [e]
 cases wep o ds <;> cases wbo s 0 ((o.length : Int) - 1) <;> rfl
theorem wyw {o : List Int} {ds : List (List Int)} {s : List Int} (ho : waw o) (hd : wfw ds) (hs : waw s) : wark o ds s = some (wgk o ds s) := by
 have h := ho
 unfold waw at h
 unfold wark wbet F_zk T_zk wgk
 simp (disch := omega) only [EV, wjw ho hd, wnu hs (show (0 : Int) ≤ (o.length : Int) by omega) h]
 have e : ((0 : Int) < (s.length : Int)) = (0 < s.length) := by simp
 by_cases h0 : 0 < s.length
 ·have h1 : (0 : Int) < (s.length : Int) := by omega
  simp only [h0, h1, decide_true, if_true, Bool.and_true]
  cases wep o ds <;> cases wbo s 0 ((o.length : Int) - 1) <;> rfl
 ·have h1 : ¬ (0 : Int) < (s.length : Int) := by omega
  simp only [h0, h1, decide_false, if_false, Bool.and_false]
  cases wep o ds <;> rfl
theorem wvr {o : List Int} {ds : List (List Int)} {s : List Int} (hs : waw s) (h : wgk o ds s = true) : Fld o ds ∧ Places s o.length ∧ 0 < s.length := by
 unfold wgk at h
 simp only [Bool.and_eq_true, decide_eq_true_eq] at h
 exact ⟨wgg.1 h.1, Places.of hs h.2.1, h.2.2⟩
end Go.Proofs.YtnagpmhaddfgmaaGreat
