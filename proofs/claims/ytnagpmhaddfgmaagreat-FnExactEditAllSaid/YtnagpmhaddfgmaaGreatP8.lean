/-
 Plain laws: grounds, metric grounds.
-/
import Derived.Test.YtnagpmhaddfgmaaGreatPM
namespace Go.Proofs.YtnagpmhaddfgmaaGreat
def at2 (x : List (List Int)) (i j : Nat) : Int := (x.getD i []).getD j 0
def rowOK (x : List (List Int)) (n i : Nat) : Bool := allIn (x.getD i []) 0 99 && (((x.getD i []).length : Int) == (n : Int))
structure Ground (x : List (List Int)) : Prop where
 row : ∀ i, i < x.length → rowOK x x.length i = true
 diag : ∀ i, i < x.length → at2 x i i = 0
 sym : ∀ i j, i < x.length → j < x.length → at2 x i j = at2 x j i
 len : x.length ≤ 7
theorem rowOK_len {x : List (List Int)} {n i : Nat} (h : rowOK x n i = true) : (x.getD i []).length = n := by
 simp only [rowOK, Bool.and_eq_true, beq_iff_eq] at h
 omega
theorem rowOK_in {x : List (List Int)} {n i j : Nat} (h : rowOK x n i = true) (hj : j < n) : 0 ≤ at2 x i j ∧ at2 x i j ≤ 99 := by
 have hl := rowOK_len h
 simp only [rowOK, Bool.and_eq_true] at h
 exact allIn_getD h.1 (by omega)
theorem Ground.in {x : List (List Int)} (h : Ground x) {i j : Nat} (hi : i < x.length) (hj : j < x.length) : 0 ≤ at2 x i j ∧ at2 x i j ≤ 99 := rowOK_in (h.row i hi) hj
theorem Ground.rowLen {x : List (List Int)} (h : Ground x) {i : Nat} (hi : i < x.length) : (x.getD i []).length = x.length := rowOK_len (h.row i hi)
end Go.Proofs.YtnagpmhaddfgmaaGreat
/-
 Plain laws: rising lists, dispersion, allocations, the cost of hubs.
-/
namespace Go.Proofs.YtnagpmhaddfgmaaGreat
def risingB (l : List Int) (lo hi : Int) : Bool := (List.range l.length).all fun i => isIn (l.getD i 0) lo hi && (i == 0 || decide (l.getD (i - 1) 0 < l.getD i 0))
theorem risingB_iff {l : List Int} {lo hi : Int} : risingB l lo hi = true ↔ (∀ x ∈ l, lo ≤ x ∧ x ≤ hi) ∧ l.Pairwise (· < ·) := by
 unfold risingB
 simp only [List.all_eq_true, List.mem_range, Bool.and_eq_true, Bool.or_eq_true, beq_iff_eq, decide_eq_true_eq, isIn_iff]
 constructor
 ·intro h
  refine ⟨fun x hx => ?_, ?_⟩
  ·obtain ⟨i, hi, e⟩ := List.getElem_of_mem hx
   have := (h i hi).1
   rw [List.getD_eq_getElem?_getD, List.getElem?_eq_getElem hi] at this
   rw [← e]; exact this
  ·rw [List.pairwise_iff_getElem]
   have key : ∀ d i, i + d + 1 < l.length → l.getD i 0 < l.getD (i + d + 1) 0 := by
    intro d
    induction d with
    | zero =>
     intro i hi
     have := (h (i + 1) hi).2
     rcases this with h0 | h0
     ·omega
     ·simpa using h0
    | succ d ih =>
     intro i hi
     have h1 := ih i (by omega)
     have := (h (i + (d + 1) + 1) hi).2
     rcases this with h0 | h0
     ·omega
     ·have e : i + (d + 1) + 1 - 1 = i + d + 1 := by omega
      rw [e] at h0
      omega
   intro i j hi hj hij
   have := key (j - i - 1) i (by omega)
   rw [show i + (j - i - 1) + 1 = j by omega, List.getD_eq_getElem?_getD, List.getD_eq_getElem?_getD, List.getElem?_eq_getElem hi, List.getElem?_eq_getElem hj] at this
   exact this
 ·rintro ⟨h1, h2⟩ i hi
  refine ⟨h1 _ (getD_mem hi), ?_⟩
  by_cases e : i = 0
  ·exact .inl e
  ·right
   have := List.pairwise_iff_getElem.1 h2 (i - 1) i (by omega) hi (by omega)
   rw [List.getD_eq_getElem?_getD, List.getD_eq_getElem?_getD, List.getElem?_eq_getElem hi, List.getElem?_eq_getElem (by omega)]
   exact this
theorem risingB_in {l : List Int} {lo hi : Int} (h : risingB l lo hi = true) {i : Nat} (hi' : i < l.length) : lo ≤ l.getD i 0 ∧ l.getD i 0 ≤ hi := (risingB_iff.1 h).1 _ (getD_mem hi')
theorem l1Rising_eq {l : List Int} (hl : Low1 l) (lo hi : Int) : wkg l lo hi = some (risingB l lo hi) := by
 unfold Low1 at hl
 have h0 : wgn (l, (lo, hi)) 0 = _ := iter_allR (f := fun v => (wad (l, (lo, hi)) v).ev) (n := l.length) (mk := fun i => (i : Int)) (p := fun i => isIn (l.getD i 0) lo hi && (i == 0 || decide (l.getD (i - 1) 0 < l.getD i 0))) (yes := .inl ()) (no := .inr ()) (fun i hi' _ => by
   cases i with
   | zero =>
    simp (disch := omega) only [EV, wad, hi', l1In_eq]
    cases isIn (l.getD 0 0) lo hi <;> rfl
   | succ i =>
    have h1 : i < l.length := by omega
    have e0 : (0 : Int) < ((i + 1 : Nat) : Int) := by omega
    have e1 : ((i + 1 : Nat) : Int) - 1 = (i : Int) := by omega
    have e2 : (i + 1 == 0) = false := rfl
    simp (disch := omega) only [EV, wad, hi', l1In_eq, e0, e1, h1, e2, Bool.false_or, Nat.add_sub_cancel]
    cases isIn (l.getD (i + 1) 0) lo hi with
    | false => rfl
    | true =>
     by_cases h : l.getD (i + 1) 0 ≤ l.getD i 0
     ·simp only [Bool.not_true, cond_false, if_pos h, Bool.true_and, show ¬ l.getD i 0 < l.getD (i + 1) 0 by omega, decide_false]
     ·simp only [Bool.not_true, cond_false, if_neg h, Bool.true_and, show l.getD i 0 < l.getD (i + 1) 0 by omega, decide_true]
      rfl) (by simp (disch := omega) only [EV, wad, Nat.lt_irrefl])
 unfold wkg wpu
 simp (disch := omega) only [EV, h0]
 unfold risingB
 cases (List.range l.length).all fun i => isIn (l.getD i 0) lo hi && (i == 0 || decide (l.getD (i - 1) 0 < l.getD i 0)) <;> rfl
theorem isRising_eq {l : List Int} (hl : Low1 l) {n : Int} (h0 : 0 ≤ n) (h1 : n ≤ 1048576) : whr l n = some (risingB l 0 (n - 1)) := by
 unfold Low1 at hl
 have h0 : whq (l, (n, (l, ((l.length : Nat) : Int)))) 0 = _ := iter_allR (f := fun v => (wak (l, (n, (l, ((l.length : Nat) : Int)))) v).ev) (n := l.length) (mk := fun i => (i : Int)) (p := fun i => isIn (l.getD i 0) 0 (n - 1) && (i == 0 || decide (l.getD (i - 1) 0 < l.getD i 0))) (yes := .inl ()) (no := .inr ()) (fun i hi' _ => by
   cases i with
   | zero =>
    simp (disch := omega) only [EV, wak, hi', between_eq]
    cases isIn (l.getD 0 0) 0 (n - 1) <;> rfl
   | succ i =>
    have h1 : i < l.length := by omega
    have e0 : (0 : Int) < ((i + 1 : Nat) : Int) := by omega
    have e1 : ((i + 1 : Nat) : Int) - 1 = (i : Int) := by omega
    have e2 : (i + 1 == 0) = false := rfl
    simp (disch := omega) only [EV, wak, hi', between_eq, e0, e1, h1, e2, Bool.false_or, Nat.add_sub_cancel]
    cases isIn (l.getD (i + 1) 0) 0 (n - 1) with
    | false => rfl
    | true =>
     by_cases h : l.getD (i + 1) 0 ≤ l.getD i 0
     ·simp only [Bool.not_true, cond_false, if_pos h, Bool.true_and, show ¬ l.getD i 0 < l.getD (i + 1) 0 by omega, decide_false]
     ·simp only [Bool.not_true, cond_false, if_neg h, Bool.true_and, show l.getD i 0 < l.getD (i + 1) 0 by omega, decide_true]
      rfl) (by simp (disch := omega) only [EV, wak, Nat.lt_irrefl])
 unfold whr wue
 simp (disch := omega) only [EV, h0]
 unfold risingB
 cases (List.range l.length).all fun i => isIn (l.getD i 0) 0 (n - 1) && (i == 0 || decide (l.getD (i - 1) 0 < l.getD i 0)) <;> rfl
def pl (s : List Int) (i : Nat) : Nat := (s.getD i 0).toNat
structure Places (s : List Int) (n : Nat) : Prop where
 low : (s.length : Int) ≤ 1048576
 mem : ∀ i, i < s.length → 0 ≤ s.getD i 0 ∧ s.getD i 0 < n
theorem Places.pl {s : List Int} {n : Nat} (h : Places s n) {i : Nat} (hi : i < s.length) : s.getD i 0 = (pl s i : Int) ∧ Go.Proofs.YtnagpmhaddfgmaaGreat.pl s i < n := by
 have := h.mem i hi
 unfold Go.Proofs.YtnagpmhaddfgmaaGreat.pl
 omega
theorem Places.of {s : List Int} {n : Nat} (hs : Low1 s) (h : risingB s 0 ((n : Int) - 1) = true) : Places s n := ⟨hs, fun i hi => by have := risingB_in h hi; omega⟩
end Go.Proofs.YtnagpmhaddfgmaaGreat
/-
 Plain laws: fields, atlases.
-/
namespace Go.Proofs.YtnagpmhaddfgmaaGreat
def fieldB (o : List Int) (ds : List (List Int)) : Bool := isIn (o.length : Int) 1 7 && (allIn o 0 99 && (decide ((ds.length : Int) ≤ 7) && ds.all fun r => decide (r.length = o.length) && allIn r 0 99))
structure Fld (o : List Int) (ds : List (List Int)) : Prop where
 pos : 1 ≤ o.length
 len : o.length ≤ 7
 cost : ∀ i, i < o.length → 0 ≤ o.getD i 0 ∧ o.getD i 0 ≤ 99
 clients : ds.length ≤ 7
 rowLen : ∀ j, j < ds.length → (ds.getD j []).length = o.length
 dist : ∀ j i, j < ds.length → i < o.length → 0 ≤ (ds.getD j []).getD i 0 ∧ (ds.getD j []).getD i 0 ≤ 99
theorem fieldB_iff {o : List Int} {ds : List (List Int)} : fieldB o ds = true ↔ Fld o ds := by
 unfold fieldB
 simp only [Bool.and_eq_true, decide_eq_true_eq, List.all_eq_true, isIn_iff]
 constructor
 ·rintro ⟨⟨h1, h2⟩, h3, h4, h5⟩
  have h6 : ∀ j, j < ds.length → (ds.getD j []).length = o.length ∧ allIn (ds.getD j []) 0 99 = true := fun j hj => h5 _ (getD_mem (d := []) hj)
  exact ⟨by omega, by omega, fun i hi => allIn_getD h3 hi, by omega, fun j hj => (h6 j hj).1, fun j i hj hi => allIn_getD (h6 j hj).2 (by rw [(h6 j hj).1]; exact hi)⟩
 ·rintro ⟨h1, h2, h3, h4, h5, h6⟩
  refine ⟨by omega, allIn_iff.2 fun a ha => ?_, by omega, fun r hr => ?_⟩
  ·obtain ⟨i, hi, e⟩ := List.getElem_of_mem ha
   have := h3 i hi
   rw [List.getD_eq_getElem?_getD, List.getElem?_eq_getElem hi, Option.getD_some, e] at this
   exact this
  ·obtain ⟨j, hj, e⟩ := List.getElem_of_mem hr
   have e2 : ds.getD j [] = r := by rw [List.getD_eq_getElem?_getD, List.getElem?_eq_getElem hj, Option.getD_some, e]
   have h7 := h5 j hj
   rw [e2] at h7
   refine ⟨h7, allIn_iff.2 fun a ha => ?_⟩
   obtain ⟨i, hi, e3⟩ := List.getElem_of_mem ha
   have := h6 j i hj (by omega)
   rw [e2, List.getD_eq_getElem?_getD, List.getElem?_eq_getElem hi, Option.getD_some, e3] at this
   exact this
theorem l2Good_eq {o : List Int} {ds : List (List Int)} (ho : Low1 o) (hd : Low2 ds) : wgm o ds = some (fieldB o ds) := by
 have hl := hd.1
 have h0 : wgl ((o.length : Int), (o, ds)) 0 = _ := iter_allR (f := fun v => (waw ((o.length : Int), (o, ds)) v).ev) (n := ds.length) (mk := fun i => (i : Int)) (p := fun i => decide ((ds.getD i []).length = o.length) && allIn (ds.getD i []) 0 99) (yes := .inl ()) (no := .inr ()) (fun i hi _ => by
   simp (disch := omega) only [EV, waw, hi, l2Row_eq (hd.2 _ (getD_mem (d := []) hi)), int_eq]
   cases allIn (ds.getD i []) 0 99 <;> cases decide ((ds.getD i []).length = o.length) <;> rfl) (by simp (disch := omega) only [EV, waw, Nat.lt_irrefl])
 rw [all_range ds [] (fun r => decide (r.length = o.length) && allIn r 0 99)] at h0
 unfold wgm wpq fieldB
 simp (disch := omega) only [EV, h0, l1In_eq, l2Row_eq ho, int_eq]
 cases ds.all (fun r => decide (r.length = o.length) && allIn r 0 99) <;> cases isIn (o.length : Int) 1 7 <;> cases allIn o 0 99 <;> cases decide ((ds.length : Int) ≤ 7) <;> rfl
theorem IsField_eq {o : List Int} {ds : List (List Int)} (ho : Low1 o) (hd : Low2 ds) : F_zu o ds = some (fieldB o ds) := by
 have hl := hd.1
 have hc := containsFunc_Sint (l := ds) (show (ds.length : Int) < 9223372036854775807 by omega) (p := fun a => Option.bind (F_zv a.1 o ds) fun y => some y) (q := fun r => !(decide (r.length = o.length) && allIn r 0 99)) fun r hr => by
  unfold F_zv T_zv
  simp (disch := omega) only [EV, areBetween_eq (hd.2 r hr), int_ne]
  cases decide (r.length = o.length) <;> cases allIn r 0 99 <;> rfl
 unfold F_zu T_zu fieldB
 simp (disch := omega) only [EV, between_eq, areBetween_eq ho, hc]
 rw [List.any_eq_not_all_not]
 simp only [Bool.not_not]
 cases isIn (o.length : Int) 1 7 <;> cases allIn o 0 99 <;> by_cases h : (ds.length : Int) ≤ 7 <;> simp only [h, decide_true, decide_false, if_true, if_false] <;> rfl
def atlasB (o : List Int) (ds : List (List Int)) (s : List Int) (c : Int) : Bool := fieldB o ds && (risingB s 0 ((o.length : Int) - 1) && isIn c 0 1000)
theorem l2Set_eq {o : List Int} (ds : List (List Int)) {s : List Int} (ho : Low1 o) (hs : Low1 s) : wgo o ds s = some (risingB s 0 ((o.length : Int) - 1)) := by
 unfold Low1 at ho
 unfold wgo wpz
 simp (disch := omega) only [EV, l1Rising_eq hs]
theorem l12Good_eq {o : List Int} {ds : List (List Int)} {s : List Int} (ho : Low1 o) (hd : Low2 ds) (hs : Low1 s) (c : Int) : wgp o ds s c = some (atlasB o ds s c) := by
 unfold wgp wqa atlasB
 simp (disch := omega) only [EV, l2Good_eq ho hd, l2Set_eq ds ho hs, l1In_eq]
 cases fieldB o ds <;> cases risingB s 0 ((o.length : Int) - 1) <;> rfl
theorem im_IsAtlas_eq {o : List Int} {ds : List (List Int)} {s : List Int} (ho : Low1 o) (hd : Low2 ds) (hs : Low1 s) (c : Int) : wao o ds s c = some (atlasB o ds s c) := by
 have h := ho
 unfold Low1 at h
 unfold wao T_zt atlasB
 simp (disch := omega) only [EV, IsField_eq ho hd, isRising_eq hs (show (0 : Int) ≤ (o.length : Int) by omega) h, between_eq]
 cases fieldB o ds <;> cases risingB s 0 ((o.length : Int) - 1) <;> rfl
theorem szField_sz {o : List Int} {ds : List (List Int)} {b : Int} (ho : Fit1 o) (hd : Fit2 ds) (h0 : 0 ≤ b) (h1 : b ≤ 1048576) : Sz (wjw o ds b) (Low1 o ∧ Low2 ds) := by
 unfold wjw woc
 obtain ⟨r, e1, k1, k2⟩ := szIntS_sz ho h0 h1
 simp (disch := omega) only [EV, e1]
 by_cases hr : r < 0
 ·simp (disch := omega) only [EV, hr]
  exact ⟨_, rfl, by omega, fun h => by omega⟩
 ·obtain ⟨r2, e2, k3, k4⟩ := szIntSS_sz hd (show 0 ≤ r by omega) k1
  simp (disch := omega) only [EV, hr, e2]
  by_cases hr2 : r2 < 0
  ·simp (disch := omega) only [EV, hr2]
   exact ⟨_, rfl, by omega, fun h => by omega⟩
  ·simp (disch := omega) only [EV, hr2]
   exact ⟨_, rfl, k3, fun h => ⟨k2 (by omega), k4 h⟩⟩
theorem szAtlas_sz {o : List Int} {ds : List (List Int)} {s : List Int} (c : Int) {b : Int} (ho : Fit1 o) (hd : Fit2 ds) (hs : Fit1 s) (h0 : 0 ≤ b) (h1 : b ≤ 1048576) : Sz (wjx o ds s c b) (Low1 o ∧ Low2 ds ∧ Low1 s) := by
 unfold wjx woe
 obtain ⟨r, e1, k1, k2⟩ := szField_sz ho hd h0 h1
 simp (disch := omega) only [EV, e1]
 by_cases hr : r < 0
 ·simp (disch := omega) only [EV, hr]
  exact ⟨_, rfl, by omega, fun h => by omega⟩
 ·obtain ⟨r2, e2, k3, k4⟩ := szIntS_sz hs (show 0 ≤ r by omega) k1
  simp (disch := omega) only [EV, hr, e2]
  by_cases hr2 : r2 < 0
  ·simp (disch := omega) only [EV, hr2]
   exact ⟨_, rfl, by omega, fun h => by omega⟩
  ·simp (disch := omega) only [EV, hr2]
   exact ⟨_, rfl, k3, fun h => ⟨(k2 (by omega)).1, (k2 (by omega)).2, k4 h⟩⟩
theorem toField_eq {o : List Int} {ds : List (List Int)} (ho : Low1 o) (hd : Low2 ds) : wkd o ds = some (o, ds) := by
 unfold wkd wox
 simp (disch := omega) only [EV, toIntS_eq ho, toIntSS_eq hd]
theorem toAtlas_eq {o : List Int} {ds : List (List Int)} {s : List Int} (ho : Low1 o) (hd : Low2 ds) (hs : Low1 s) (c : Int) : wda o ds s c = some (c, o, ds, s) := by
 unfold wda woz
 simp (disch := omega) only [EV, toField_eq ho hd, toIntS_eq hs]
theorem eqField_eq {o o' : List Int} {ds ds' : List (List Int)} (ho : Low1 o) (hd : Low2 ds) : wmk o ds o' ds' = some ((o == o') && (ds == ds')) := by
 unfold wmk wxd
 simp (disch := omega) only [EV, eqIntS_eq ho, eqIntSS_eq hd]
 cases (o == o') <;> cases (ds == ds') <;> rfl
theorem eqAtlas_eq {o o' : List Int} {ds ds' : List (List Int)} {s s' : List Int} (ho : Low1 o) (hd : Low2 ds) (hs : Low1 s) (c c' : Int) : wdl o ds s c o' ds' s' c' = some ((o == o') && (ds == ds') && ((s == s') && (c == c'))) := by
 unfold wdl wxf
 simp (disch := omega) only [EV, eqField_eq ho hd, eqIntS_eq hs, bne]
 cases ((o == o') && (ds == ds')) <;> cases (s == s') <;> cases (c == c') <;> rfl
end Go.Proofs.YtnagpmhaddfgmaaGreat
/-
 Plain laws: what a set of sites serves: lengths, service, payment, total, reach; values of objectives.
-/
namespace Go.Proofs.YtnagpmhaddfgmaaGreat
theorem Fld.at2 {o : List Int} {ds : List (List Int)} (h : Fld o ds) {j i : Nat} (hj : j < ds.length) (hi : i < o.length) : 0 ≤ at2 ds j i ∧ at2 ds j i ≤ 99 := h.dist j i hj hi
def srvStep (ds : List (List Int)) (j : Nat) (s : List Int) (b k : Nat) : Nat := if at2 ds j (pl s k) < at2 ds j b then pl s k else b
def srv (ds : List (List Int)) (j : Nat) (s : List Int) : Nat := (List.range s.length).foldl (srvStep ds j s) (pl s 0)
def near (ds : List (List Int)) (s : List Int) (j : Nat) : Int := at2 ds j (srv ds j s)
def pay (o s : List Int) : Int := (List.range s.length).foldl (fun a k => a + o.getD (pl s k) 0) 0
def serve (ds : List (List Int)) (s : List Int) : Int := (List.range ds.length).foldl (fun a j => a + near ds s j) 0
def lensOf (ds : List (List Int)) (s : List Int) : List Int := (List.range ds.length).map (near ds s)
theorem foldl_inv {α S : Type} {g : S → α → S} (Q : S → Prop) {l : List α} (h : ∀ s a, a ∈ l → Q s → Q (g s a)) {s : S} (hs : Q s) : Q (l.foldl g s) := by
 induction l generalizing s with
 | nil => exact hs
 | cons a l ih => exact ih (fun s b hb => h s b (List.mem_cons_of_mem _ hb)) (h s a List.mem_cons_self hs)
theorem srvStep_lt {ds : List (List Int)} {j : Nat} {s : List Int} {n b k : Nat} (hs : Places s n) (hk : k < s.length) (hb : b < n) : srvStep ds j s b k < n := by
 unfold srvStep
 split
 ·exact (hs.pl hk).2
 ·exact hb
theorem srv_lt {ds : List (List Int)} {j : Nat} {s : List Int} {n : Nat} (hs : Places s n) (h0 : 0 < s.length) : srv ds j s < n :=
 foldl_inv (fun b => b < n) (fun _ _ hk hb => srvStep_lt hs (List.mem_range.1 hk) hb) (hs.pl h0).2
theorem near_in {o : List Int} {ds : List (List Int)} (hf : Fld o ds) {s : List Int} (hs : Places s o.length) (h0 : 0 < s.length) {j : Nat} (hj : j < ds.length) : 0 ≤ near ds s j ∧ near ds s j ≤ 99 := hf.at2 hj (srv_lt hs h0)
theorem sum_bound {α : Type} {l : List α} {f : α → Int} {B : Int} (h : ∀ a ∈ l, 0 ≤ f a ∧ f a ≤ B) (a0 : Int) : a0 ≤ l.foldl (fun a x => a + f x) a0 ∧ l.foldl (fun a x => a + f x) a0 ≤ a0 + (l.length : Int) * B := by
 induction l generalizing a0 with
 | nil => simp
 | cons x l ih =>
  have h1 := ih (fun a ha => h a (List.mem_cons_of_mem _ ha)) (a0 + f x)
  have h2 := h x List.mem_cons_self
  simp only [List.foldl_cons, List.length_cons]
  have e : ((l.length + 1 : Nat) : Int) * B = (l.length : Int) * B + B := by
   rw [Int.natCast_add, Int.add_mul]; simp
  rw [e]
  omega
theorem serve_in {o : List Int} {ds : List (List Int)} (hf : Fld o ds) {s : List Int} (hs : Places s o.length) (h0 : 0 < s.length) : 0 ≤ serve ds s ∧ serve ds s ≤ 693 := by
 have := sum_bound (l := List.range ds.length) (f := near ds s) (B := 99) (fun j hj => near_in hf hs h0 (List.mem_range.1 hj)) 0
 have hc := hf.clients
 unfold serve
 simp only [List.length_range] at this
 omega
theorem pay_in {o : List Int} {ds : List (List Int)} (hf : Fld o ds) {s : List Int} (hs : Places s o.length) : 0 ≤ pay o s ∧ pay o s ≤ 103809024 := by
 have := sum_bound (l := List.range s.length) (f := fun k => o.getD (pl s k) 0) (B := 99) (fun k hk => hf.cost _ (hs.pl (List.mem_range.1 hk)).2) 0
 have hc := hs.low
 unfold pay
 simp only [List.length_range] at this
 omega
theorem l2Site_eq {o : List Int} {ds : List (List Int)} (hf : Fld o ds) {s : List Int} (hs : Places s o.length) (h0 : 0 < s.length) {j : Nat} (hj : j < ds.length) : wkv o ds (j : Int) s = some (srv ds j s : Int) := by
 have hlow := hs.low
 have hr := hf.rowLen j hj
 have hlen := hf.len
 have key : wcc ((j : Int), (s, (o, ds))) ((pl s 0 : Int), 0) = some (srv ds j s : Int) :=
  (iter_fold (f := fun v => (wai ((j : Int), (s, (o, ds))) v).ev) (n := s.length) (mk := fun k (b : Nat) => ((b : Int), (k : Int))) (I := fun _ b => b < o.length) (g := srvStep ds j s) (fin := fun b => (b : Int)) (s0 := pl s 0) (hs.pl h0).2
   (fun k b hk hb => by
    obtain ⟨e1, h1⟩ := hs.pl hk
    have e3 : (ds.getD j []).getD (pl s k) 0 = at2 ds j (pl s k) := rfl
    have e4 : (ds.getD j []).getD b 0 = at2 ds j b := rfl
    refine ⟨?_, srvStep_lt hs hk hb⟩
    simp (disch := omega) only [EV, wai, hj, hk, e1, hr, h1, hb, e3, e4]
    unfold srvStep
    split <;> rfl)
   (fun b _ => by simp (disch := omega) only [EV, wai, Nat.lt_irrefl])).1
 have key2 : wcc ((j : Int), (s, (o, ds))) ((pl s 0 : Int), 1) = some (srv ds j s : Int) := by
  rw [← key]
  unfold wcc
  conv => rhs; rw [iter_eq]
  obtain ⟨e1, h1⟩ := hs.pl h0
  have e3 : (ds.getD j []).getD (pl s 0) 0 = at2 ds j (pl s 0) := rfl
  have z : Int.toNat 0 = 0 := rfl
  simp (disch := omega) only [EV, wai, hj, h0, z, e1, hr, h1, e3, Int.lt_irrefl, show (0 : Int) < (s.length : Int) by omega]
  rfl
 unfold wkv wrj
 have z : Int.toNat 0 = 0 := rfl
 simp (disch := omega) only [EV, z, (hs.pl h0).1, key2]
theorem l2Nearest_eq {o : List Int} {ds : List (List Int)} (hf : Fld o ds) {s : List Int} (hs : Places s o.length) (h0 : 0 < s.length) {j : Nat} (hj : j < ds.length) : wkw o ds (j : Int) s = some (near ds s j) := by
 have hr := hf.rowLen j hj
 have hb : srv ds j s < o.length := srv_lt hs h0
 unfold wkw wro
 have e3 : (ds.getD j []).getD (srv ds j s) 0 = near ds s j := rfl
 simp (disch := omega) only [EV, hj, l2Site_eq hf hs h0 hj, hr, hb, e3]
theorem server_eq {o : List Int} {ds : List (List Int)} (hf : Fld o ds) {s : List Int} (hs : Places s o.length) (h0 : 0 < s.length) {j : Nat} (hj : j < ds.length) : F_zq o ds (j : Int) s = some (srv ds j s : Int) := by
 have hlow := hs.low
 have hr := hf.rowLen j hj
 have hlen := hf.len
 have key : wmt ((j : Int), (s, ((s.length : Int), (o, ds)))) ((pl s 0 : Int), 0) = some (srv ds j s : Int) :=
  (iter_fold (f := fun v => (wcm ((j : Int), (s, ((s.length : Int), (o, ds)))) v).ev) (n := s.length) (mk := fun k (b : Nat) => ((b : Int), (k : Int))) (I := fun _ b => b < o.length) (g := srvStep ds j s) (fin := fun b => (b : Int)) (s0 := pl s 0) (hs.pl h0).2
   (fun k b hk hb => by
    obtain ⟨e1, h1⟩ := hs.pl hk
    have e3 : (ds.getD j []).getD (pl s k) 0 = at2 ds j (pl s k) := rfl
    have e4 : (ds.getD j []).getD b 0 = at2 ds j b := rfl
    refine ⟨?_, srvStep_lt hs hk hb⟩
    simp (disch := omega) only [EV, wcm, hj, hk, e1, hr, h1, hb, e3, e4]
    unfold srvStep
    split <;> rfl)
   (fun b _ => by simp (disch := omega) only [EV, wcm, Nat.lt_irrefl])).1
 unfold F_zq T_zq
 have z : Int.toNat 0 = 0 := rfl
 simp (disch := omega) only [EV, z, (hs.pl h0).1, key]
theorem iter_app {V R α : Type} {f : V → Option (V ⊕ R)} {n : Nat} (mk : Nat → List α → V) (g : Nat → α) (fin : List α → R)
  (hstep : ∀ i l, i < n → l.length = i → f (mk i l) = some (.inl (mk (i + 1) (l ++ [g i])))) (hend : ∀ l, l.length = n → f (mk n l) = some (.inr (fin l))) : iter f (mk 0 []) = some (fin ((List.range n).map g)) := by
 have := (iter_fold (f := f) (n := n) mk (fun i l => l.length = i) (fun l i => l ++ [g i]) fin (s0 := []) rfl (fun i l hi hl => ⟨hstep i l hi hl, by simp [hl]⟩) hend).1
 rw [this]
 congr 2
 have : ∀ (l : List Nat) (acc : List α), l.foldl (fun l i => l ++ [g i]) acc = acc ++ l.map g := by
  intro l
  induction l with
  | nil => simp
  | cons x l ih => intro acc; simp [ih]
 rw [this]; simp
theorem served_eq {o : List Int} {ds : List (List Int)} (hf : Fld o ds) {s : List Int} (hs : Places s o.length) (h0 : 0 < s.length) : F_zp o ds s = some ((List.range ds.length).map fun j => (srv ds j s : Int)) := by
 have hc := hf.clients
 have key : wmu (s, ((ds.length : Int), (o, ds))) (0, []) = some ((List.range ds.length).map fun j => (srv ds j s : Int)) :=
  iter_app (f := fun v => (wcn (s, ((ds.length : Int), (o, ds))) v).ev) (n := ds.length) (mk := fun k (l : List Int) => ((k : Int), l)) (fun j => (srv ds j s : Int)) (fun l => l)
   (fun j l hj hl => by
    have e : (l.length + List.length [(srv ds j s : Int)]) * 8 ≤ 140737488355328 := by simp; omega
    simp (disch := omega) only [EV, wcn, hj, server_eq hf hs h0 hj, e]
    rfl) (fun l _ => by simp (disch := omega) only [EV, wcn, Nat.lt_irrefl])
 unfold F_zp T_zp
 simp (disch := omega) only [EV, key]
theorem lengths_eq {o : List Int} {ds : List (List Int)} (hf : Fld o ds) {s : List Int} (hs : Places s o.length) (h0 : 0 < s.length) : F_zm o ds s = some (lensOf ds s) := by
 have hc := hf.clients
 unfold F_zm T_zm
 simp (disch := omega) only [EV, served_eq hf hs h0]
 generalize hr : ((List.range ds.length).map fun j => (srv ds j s : Int)) = r
 have hrl : r.length = ds.length := by rw [← hr]; simp
 have hrg : ∀ j, j < ds.length → r.getD j 0 = (srv ds j s : Int) := fun j hj => by rw [← hr, List.getD_eq_getElem?_getD, List.getElem?_map, List.getElem?_range hj]; rfl
 have key : wmv ((r.length : Int), (o, (ds, r))) (0, []) = some (lensOf ds s) :=
  iter_app (f := fun v => (wco ((r.length : Int), (o, (ds, r))) v).ev) (n := ds.length) (mk := fun k (l : List Int) => ((k : Int), l)) (near ds s) (fun l => l)
   (fun j l hj hl => by
    have hb : srv ds j s < o.length := srv_lt hs h0
    have e3 : (ds.getD j []).getD (srv ds j s) 0 = near ds s j := rfl
    have e : ∀ x : Int, (l.length + List.length [x]) * 8 ≤ 140737488355328 := fun x => by simp; omega
    simp (disch := omega) only [EV, wco, hj, hrl, hrg j hj, hf.rowLen j hj, hb, e3, e]
    rfl) (fun l _ => by simp (disch := omega) only [EV, wco, hrl, Nat.lt_irrefl])
 simp (disch := omega) only [EV, key]
theorem im_sum_eq {l : List Int} {B : Int} (hl : (l.length : Int) * B < 9223372036854775808) (hn : (l.length : Int) < 9223372036854775807) (h : ∀ a ∈ l, 0 ≤ a ∧ a ≤ B) : wlx l = some (l.foldl (fun a x => a + x) 0) := by
 have key := iter_foldl (f := fun v => (wbo (l, (l.length : Int)) v).ev) l 0 (mk := fun k a => (a, (k : Int))) (I := fun k a => 0 ≤ a ∧ a ≤ (k : Int) * B) (g := fun a x => a + x) (fin := fun a => a) (s0 := 0) (by simp)
  (fun k a hk ha => by
   have h1 := h _ (getD_mem (d := 0) hk)
   have h2 : ((k + 1 : Nat) : Int) * B = (k : Int) * B + B := by rw [Int.natCast_add, Int.add_mul]; simp
   have hB : 0 ≤ B := by omega
   have h3 : ((k + 1 : Nat) : Int) * B ≤ (l.length : Int) * B := Int.mul_le_mul_of_nonneg_right (by omega) hB
   refine ⟨?_, by omega, by omega⟩
   simp (disch := omega) only [EV, wbo, hk]
   rfl)
  (fun a _ => by simp (disch := omega) only [EV, wbo, Nat.lt_irrefl])
 unfold wlx wux
 have k1 : wie (l, (l.length : Int)) (0, 0) = _ := key.1
 simp (disch := omega) only [EV, k1]
theorem service_eq {o : List Int} {ds : List (List Int)} (hf : Fld o ds) {s : List Int} (hs : Places s o.length) (h0 : 0 < s.length) : F_zr o ds s = some (serve ds s) := by
 have hc := hf.clients
 unfold F_zr T_zr
 have hl : (lensOf ds s).length = ds.length := by simp [lensOf]
 simp (disch := omega) only [EV, lengths_eq hf hs h0, im_sum_eq (l := lensOf ds s) (B := 99) (by omega) (by omega) (fun a ha => by
  obtain ⟨j, hj, rfl⟩ := List.mem_map.1 ha
  exact near_in hf hs h0 (List.mem_range.1 hj))]
 unfold lensOf serve
 rw [List.foldl_map]
theorem l2Serve_eq {o : List Int} {ds : List (List Int)} (hf : Fld o ds) {s : List Int} (hs : Places s o.length) (h0 : 0 < s.length) : wkx o ds s = some (serve ds s) := by
 have hc := hf.clients
 have key : whd (s, (o, ds)) (0, 0) = some (serve ds s) :=
  (iter_fold (f := fun v => (wbd (s, (o, ds)) v).ev) (n := ds.length) (mk := fun k a => (a, (k : Int))) (I := fun k a => 0 ≤ a ∧ a ≤ (k : Int) * 99) (g := fun a j => a + near ds s j) (fin := fun a => a) (s0 := 0) (by simp)
   (fun j a hj ha => by
    have h1 := near_in hf hs h0 hj
    refine ⟨?_, by omega, by omega⟩
    simp (disch := omega) only [EV, wbd, hj, l2Nearest_eq hf hs h0 hj]
    rfl)
   (fun a _ => by simp (disch := omega) only [EV, wbd, Nat.lt_irrefl])).1
 unfold wkx wrq
 simp (disch := omega) only [EV, key]
theorem l2Pay_eq {o : List Int} {ds : List (List Int)} (hf : Fld o ds) {s : List Int} (hs : Places s o.length) : wky o ds s = some (pay o s) := by
 have hlow := hs.low
 have key : whe (s, (o, ds)) (0, 0) = some (pay o s) :=
  (iter_fold (f := fun v => (wbe (s, (o, ds)) v).ev) (n := s.length) (mk := fun k a => (a, (k : Int))) (I := fun k a => 0 ≤ a ∧ a ≤ (k : Int) * 99) (g := fun a k => a + o.getD (pl s k) 0) (fin := fun a => a) (s0 := 0) (by simp)
   (fun k a hk ha => by
    obtain ⟨e1, h1⟩ := hs.pl hk
    have h2 := hf.cost _ h1
    refine ⟨?_, by omega, by omega⟩
    simp (disch := omega) only [EV, wbe, hk, e1, h1]
    rfl)
   (fun a _ => by simp (disch := omega) only [EV, wbe, Nat.lt_irrefl])).1
 unfold wky wrv
 simp (disch := omega) only [EV, key]
theorem payment_eq {o : List Int} {ds : List (List Int)} (hf : Fld o ds) {s : List Int} (hs : Places s o.length) : F_zo o ds s = some (pay o s) := by
 have hlow := hs.low
 have key : wms (s, ((s.length : Int), (o, ds))) (0, 0) = some (pay o s) :=
  (iter_fold (f := fun v => (wcl (s, ((s.length : Int), (o, ds))) v).ev) (n := s.length) (mk := fun k a => (a, (k : Int))) (I := fun k a => 0 ≤ a ∧ a ≤ (k : Int) * 99) (g := fun a k => a + o.getD (pl s k) 0) (fin := fun a => a) (s0 := 0) (by simp)
   (fun k a hk ha => by
    obtain ⟨e1, h1⟩ := hs.pl hk
    have h2 := hf.cost _ h1
    refine ⟨?_, by omega, by omega⟩
    simp (disch := omega) only [EV, wcl, hk, e1, h1]
    rfl)
   (fun a _ => by simp (disch := omega) only [EV, wcl, Nat.lt_irrefl])).1
 unfold F_zo T_zo
 simp (disch := omega) only [EV, key]
theorem l2Total_eq {o : List Int} {ds : List (List Int)} (hf : Fld o ds) {s : List Int} (hs : Places s o.length) (h0 : 0 < s.length) : wcd o ds s = some (pay o s + serve ds s) := by
 have h1 := serve_in hf hs h0
 have h2 := pay_in hf hs
 unfold wcd wsa
 simp (disch := omega) only [EV, l2Serve_eq hf hs h0, l2Pay_eq hf hs]
 rw [Int.add_comm]
theorem total_eq {o : List Int} {ds : List (List Int)} (hf : Fld o ds) {s : List Int} (hs : Places s o.length) (h0 : 0 < s.length) : wif o ds s = some (pay o s + serve ds s) := by
 have h1 := serve_in hf hs h0
 have h2 := pay_in hf hs
 unfold wif T_zs
 simp (disch := omega) only [EV, service_eq hf hs h0, payment_eq hf hs]
def openB (o : List Int) (ds : List (List Int)) (s : List Int) : Bool := fieldB o ds && (risingB s 0 ((o.length : Int) - 1) && decide (0 < s.length))
theorem l2Two_eq {o : List Int} {ds : List (List Int)} {s : List Int} (ho : Low1 o) (hd : Low2 ds) (hs : Low1 s) : wkt o ds s = some (openB o ds s) := by
 unfold wkt wrf openB
 simp (disch := omega) only [EV, l2Good_eq ho hd, l2Set_eq ds ho hs]
 have e : decide ((0 : Int) < (s.length : Int)) = decide (0 < s.length) := by simp
 rw [e]
 cases fieldB o ds <;> cases risingB s 0 ((o.length : Int) - 1) <;> rfl
theorem isOpened_eq {o : List Int} {ds : List (List Int)} {s : List Int} (ho : Low1 o) (hd : Low2 ds) (hs : Low1 s) : wlw o ds s = some (openB o ds s) := by
 have h := ho
 unfold Low1 at h
 unfold wlw wuv F_zl T_zl openB
 simp (disch := omega) only [EV, IsField_eq ho hd, isRising_eq hs (show (0 : Int) ≤ (o.length : Int) by omega) h]
 have e : ((0 : Int) < (s.length : Int)) = (0 < s.length) := by simp
 by_cases h0 : 0 < s.length
 ·have h1 : (0 : Int) < (s.length : Int) := by omega
  simp only [h0, h1, decide_true, if_true, Bool.and_true]
  cases fieldB o ds <;> cases risingB s 0 ((o.length : Int) - 1) <;> rfl
 ·have h1 : ¬ (0 : Int) < (s.length : Int) := by omega
  simp only [h0, h1, decide_false, if_false, Bool.and_false]
  cases fieldB o ds <;> rfl
theorem openB_iff {o : List Int} {ds : List (List Int)} {s : List Int} (hs : Low1 s) (h : openB o ds s = true) : Fld o ds ∧ Places s o.length ∧ 0 < s.length := by
 unfold openB at h
 simp only [Bool.and_eq_true, decide_eq_true_eq] at h
 exact ⟨fieldB_iff.1 h.1, Places.of hs h.2.1, h.2.2⟩
end Go.Proofs.YtnagpmhaddfgmaaGreat
