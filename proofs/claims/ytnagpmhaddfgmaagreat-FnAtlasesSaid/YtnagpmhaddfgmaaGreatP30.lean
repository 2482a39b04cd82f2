/-
 Plain laws: the drawing of fields comes to an end.
-/
import Derived.Test.YtnagpmhaddfgmaaGreatP8
import Derived.Test.YtnagpmhaddfgmaaGreatPC
namespace Go.Proofs.YtnagpmhaddfgmaaGreat
theorem iter_cntE {V R : Type} {f : V → Option (V ⊕ R)} {n : Nat} (P : Nat → V → Prop) (Q : R → Prop) (hs : ∀ k v, k < n → P k v → (∃ v', f v = some (.inl v') ∧ P (k + 1) v') ∨ ∃ r, f v = some (.inr r) ∧ Q r) (he : ∀ v, P n v → ∃ r, f v = some (.inr r) ∧ Q r) {v : V} (h0 : P 0 v) : ∃ r, iter f v = some r ∧ Q r := by
 have key : ∀ m k v, k + m = n → P k v → ∃ r, iter f v = some r ∧ Q r := by
  intro m
  induction m with
  | zero =>
   intro k v hk hp
   have : k = n := by omega
   subst this
   obtain ⟨r, h1, h2⟩ := he v hp
   exact ⟨r, by rw [iter_eq, h1], h2⟩
  | succ m ih =>
   intro k v hk hp
   rcases hs k v (by omega) hp with ⟨v', h1, h2⟩ | ⟨r, h1, h2⟩
   ·obtain ⟨r, h3, h4⟩ := ih (k + 1) v' (by omega) h2
    exact ⟨r, by rw [iter_eq, h1]; exact h3, h4⟩
   ·exact ⟨r, by rw [iter_eq, h1], h2⟩
 exact key n 0 v (by omega) h0
theorem nat_of {x b : Int} {L : List Int} (h : x ∈ L) (hL : ∀ y ∈ L, 0 ≤ y ∧ y ≤ b) : ∃ n : Nat, x = (n : Int) ∧ (n : Int) ≤ b := by
 have := hL x h
 exact ⟨x.toNat, by omega, by omega⟩
structure Bx (n : Nat) (d : List (List Int)) : Prop where
 hn : n ≤ 7
 hm : d.length ≤ 7
 row : ∀ r ∈ d, r.length = n ∧ ∀ x ∈ r, 0 ≤ x ∧ x ≤ 99
theorem Bx.len {n : Nat} {d : List (List Int)} (h : Bx n d) {i : Nat} (hi : i < d.length) : (d.getD i []).length = n := (h.row _ (getD_mem hi)).1
theorem Bx.at {n : Nat} {d : List (List Int)} (h : Bx n d) {i a : Nat} (hi : i < d.length) (ha : a < n) : 0 ≤ (d.getD i []).getD a 0 ∧ (d.getD i []).getD a 0 ≤ 99 := (h.row _ (getD_mem hi)).2 _ (getD_mem (by rw [h.len hi]; exact ha))
theorem getD_setL {α : Type} (l : List α) {i : Nat} (hi : i < l.length) (j : Nat) (v d : α) : (l.set i v).getD j d = if i = j then v else l.getD j d := by
 simp only [List.getD_eq_getElem?_getD, List.getElem?_set]
 split
 ·simp [hi]
 ·rfl
theorem Bx.set {n : Nat} {d : List (List Int)} (h : Bx n d) {i a : Nat} {x : Int} (hi : i < d.length) (hx : 0 ≤ x ∧ x ≤ 99) : Bx n (d.set i ((d.getD i []).set a x)) ∧ (d.set i ((d.getD i []).set a x)).length = d.length := by
 refine ⟨⟨h.hn, by simpa using h.hm, fun r hr => ?_⟩, by simp⟩
 rcases List.mem_or_eq_of_mem_set hr with h1 | rfl
 ·exact h.row r h1
 ·refine ⟨by rw [List.length_set]; exact h.len hi, fun y hy => ?_⟩
  rcases List.mem_or_eq_of_mem_set hy with h1 | rfl
  ·exact (h.row _ (getD_mem hi)).2 y h1
  ·exact hx
theorem raw0_ok {B : Int} {l : List Int} {i : Int} (k : (Int) × ((Int) × ((Int) × ((Int) × (List (Int)))))) {M n : Nat} (hM : M ≤ 7) (hk1 : k.1 = (M : Int)) (hk2 : k.2.1 = (n : Int)) (hb : 1 ≤ k.2.2.2.1) (c : Int) (h : CK B l i) (hB : B ≤ 900000) :
  ∃ i' c' o, wih k ((0 : Int), (l, (i, (c, ([] : List Int))))) = some (l, (i', (c', o))) ∧ o.length = min M n ∧ CK (B + 14) l i' := by
 obtain ⟨r, h1, i', c', o, rfl, h2⟩ := iter_cnt (f := fun v => (waj k v).ev) (n := min M n)
  (fun a v => ∃ i c o, v = ((a : Int), (l, (i, (c, o)))) ∧ o.length = a ∧ CK (B + 2 * a) l i)
  (fun r => ∃ i c o, r = (l, (i, (c, o))) ∧ o.length = min M n ∧ CK (B + 14) l i)
  (fun a v ha hv => by
   obtain ⟨i, c, o, rfl, l1, hc⟩ := hv
   obtain ⟨x, i1, c1, e1, _, _, h1⟩ := pick_ok k.2.2.2.1 c hc (by omega) hb
   have r1 := room8 o x (by omega)
   have hp1 : (a : Int) < k.1 := by omega
   have hp2 : (a : Int) < k.2.1 := by omega
   refine ⟨(((a + 1 : Nat) : Int), (l, (i1, (c1, o ++ [x])))), ?_, i1, c1, _, rfl, by simp [l1], h1.mono (by omega)⟩
   simp (disch := omega) only [EV, waj, hp1, hp2, e1, r1]
   rfl)
  (fun v hv => by
   obtain ⟨i, c, o, rfl, l1, hc⟩ := hv
   by_cases hMn : M ≤ n
   ·have hp1 : ¬ ((min M n : Nat) : Int) < k.1 := by omega
    refine ⟨_, by simp (disch := omega) only [EV, waj, hp1, ite_self], i, c, o, rfl, l1, hc.mono (by omega)⟩
   ·have hp1 : ((min M n : Nat) : Int) < k.1 := by omega
    have hp2 : ¬ ((min M n : Nat) : Int) < k.2.1 := by omega
    refine ⟨_, by simp (disch := omega) only [EV, waj, hp1, hp2], i, c, o, rfl, l1, hc.mono (by omega)⟩)
  (v := ((0 : Int), (l, (i, (c, ([] : List Int)))))) ⟨i, c, [], rfl, rfl, h.mono (by omega)⟩
 exact ⟨i', c', o, h1, h2⟩
theorem raw4_ok {B : Int} {l : List Int} {i : Int} (k : (Int) × ((Int) × ((Int) × ((Int) × ((List (Int)) × ((List (List (Int))) × ((List (Int)) × (List (List (Int)))))))))) (hn : k.2.2.2.2.2.2.1.length ≤ 7) (hb : 1 ≤ k.2.2.1 ∧ k.2.2.1 ≤ 20) (c : Int) (h : CK B l i) (hB : B ≤ 900000) :
  ∃ i' c' row, wii k ((0 : Int), (l, (i, (c, ([] : List Int))))) = some (l, (i', (c', row))) ∧ (row.length = k.2.2.2.2.2.2.1.length ∧ ∀ x ∈ row, 0 ≤ x ∧ x ≤ 99) ∧ CK (B + 14) l i' := by
 obtain ⟨r, h1, i', c', row, rfl, h2⟩ := iter_cnt (f := fun v => (wbl k v).ev) (n := k.2.2.2.2.2.2.1.length)
  (fun a v => ∃ i c row, v = ((a : Int), (l, (i, (c, row)))) ∧ (row.length = a ∧ ∀ x ∈ row, 0 ≤ x ∧ x ≤ 99) ∧ CK (B + 2 * a) l i)
  (fun r => ∃ i c row, r = (l, (i, (c, row))) ∧ (row.length = k.2.2.2.2.2.2.1.length ∧ ∀ x ∈ row, 0 ≤ x ∧ x ≤ 99) ∧ CK (B + 14) l i)
  (fun a v ha hv => by
   obtain ⟨i, c, row, rfl, ⟨l1, l2⟩, hc⟩ := hv
   obtain ⟨x, i1, c1, e1, hx0, hx1, h1⟩ := pick_ok k.2.2.1 c hc (by omega) hb.1
   have r1 := room8 row x (by omega)
   refine ⟨(((a + 1 : Nat) : Int), (l, (i1, (c1, row ++ [x])))), ?_, i1, c1, _, rfl, ⟨by simp [l1], fun y hy => ?_⟩, h1.mono (by omega)⟩
   ·simp (disch := omega) only [EV, wbl, ha, e1, r1]
    rfl
   ·rcases List.mem_append.1 hy with h | h
    ·exact l2 y h
    ·rw [List.mem_singleton.1 h]; omega)
  (fun v hv => by
   obtain ⟨i, c, row, rfl, l1, hc⟩ := hv
   refine ⟨_, by simp (disch := omega) only [EV, wbl, Nat.lt_irrefl], i, c, row, rfl, l1, hc.mono (by omega)⟩)
  (v := ((0 : Int), (l, (i, (c, ([] : List Int)))))) ⟨i, c, [], rfl, ⟨rfl, fun x hx => by cases hx⟩, h.mono (by omega)⟩
 exact ⟨i', c', row, h1, h2⟩
theorem raw2_ok {B : Int} {l : List Int} {i : Int} (k : (Int) × ((Int) × ((Int) × ((List (Int)) × ((List (List (Int))) × (List (Int))))))) {M m : Nat} (hM : M ≤ 7) (hk1 : k.1 = (M : Int)) (hk2 : k.2.1 = (m : Int)) (hn : k.2.2.2.2.2.length ≤ 7) (hb : 1 ≤ k.2.2.1 ∧ k.2.2.1 ≤ 20) (c : Int) (h : CK B l i) (hB : B ≤ 800000) :
  ∃ i' c' ds, wij k ((0 : Int), (l, (i, (c, ([] : List (List Int)))))) = some (l, (i', (c', ds))) ∧ Bx k.2.2.2.2.2.length ds ∧ CK (B + 98) l i' := by
 obtain ⟨r, h1, i', c', ds, rfl, ⟨h2, h3⟩, h4⟩ := iter_cnt (f := fun v => (wak k v).ev) (n := min M m)
  (fun a v => ∃ i c ds, v = ((a : Int), (l, (i, (c, ds)))) ∧ (ds.length = a ∧ ∀ r ∈ ds, r.length = k.2.2.2.2.2.length ∧ ∀ x ∈ r, 0 ≤ x ∧ x ≤ 99) ∧ CK (B + 14 * a) l i)
  (fun r => ∃ i c ds, r = (l, (i, (c, ds))) ∧ (ds.length = min M m ∧ ∀ r ∈ ds, r.length = k.2.2.2.2.2.length ∧ ∀ x ∈ r, 0 ≤ x ∧ x ≤ 99) ∧ CK (B + 98) l i)
  (fun a v ha hv => by
   obtain ⟨i, c, ds, rfl, ⟨l1, l2⟩, hc⟩ := hv
   obtain ⟨i1, c1, row, e1, hr, h1⟩ := raw4_ok (k.1, (k.2.1, (k.2.2.1, ((a : Int), (k.2.2.2.1, (k.2.2.2.2.1, (k.2.2.2.2.2, ds))))))) hn hb c hc (by omega)
   have r1 := room24 ds (by omega)
   have hp1 : (a : Int) < k.1 := by omega
   have hp2 : (a : Int) < k.2.1 := by omega
   refine ⟨(((a + 1 : Nat) : Int), (l, (i1, (c1, ds ++ [row])))), ?_, i1, c1, _, rfl, ⟨by simp [l1], fun r hr' => ?_⟩, h1.mono (by omega)⟩
   ·simp (disch := omega) only [EV, wak, hp1, hp2, e1, r1, set_end]
    rfl
   ·rcases List.mem_append.1 hr' with h | h
    ·exact l2 r h
    ·rw [List.mem_singleton.1 h]; exact hr)
  (fun v hv => by
   obtain ⟨i, c, ds, rfl, l1, hc⟩ := hv
   by_cases hMn : M ≤ m
   ·have hp1 : ¬ ((min M m : Nat) : Int) < k.1 := by omega
    refine ⟨_, by simp (disch := omega) only [EV, wak, hp1, ite_self], i, c, ds, rfl, l1, hc.mono (by omega)⟩
   ·have hp1 : ((min M m : Nat) : Int) < k.1 := by omega
    have hp2 : ¬ ((min M m : Nat) : Int) < k.2.1 := by omega
    refine ⟨_, by simp (disch := omega) only [EV, wak, hp1, hp2], i, c, ds, rfl, l1, hc.mono (by omega)⟩)
  (v := ((0 : Int), (l, (i, (c, ([] : List (List Int))))))) ⟨i, c, [], rfl, ⟨rfl, fun r hr => by cases hr⟩, h.mono (by omega)⟩
 exact ⟨i', c', ds, h1, ⟨hn, by omega, h3⟩, h4⟩
theorem rawField_ok {B : Int} {l : List Int} {i : Int} {M : Nat} (hM : 1 ≤ M ∧ M ≤ 7) (c : Int) (h : CK B l i) (hB : B ≤ 700000) :
  ∃ o ds i' c', whk (M : Int) l i c = some (o, (ds, (l, (i', c')))) ∧ (1 ≤ o.length ∧ Bx o.length ds) ∧ CK (B + 120) l i' := by
 obtain ⟨x1, i1, c1, e1, m1, h1⟩ := among_ok ([(3 : Int), (4 : Int), (2 : Int), (5 : Int), (1 : Int), (6 : Int), (7 : Int)] : List (Int)) c h (by omega) (by decide)
 have hx1 := (show ∀ y ∈ ([(3 : Int), (4 : Int), (2 : Int), (5 : Int), (1 : Int), (6 : Int), (7 : Int)] : List (Int)), 1 ≤ y by decide) x1 m1
 obtain ⟨n, rfl, hn⟩ := nat_of (b := 7) m1 (by decide)
 obtain ⟨x2, i2, c2, e2, m2, h2⟩ := among_ok ([(4 : Int), (3 : Int), (5 : Int), (2 : Int), (6 : Int), (7 : Int), (1 : Int), (0 : Int)] : List (Int)) c1 h1 (by omega) (by decide)
 obtain ⟨m, rfl, hm⟩ := nat_of (b := 7) m2 (by decide)
 obtain ⟨big, i3, c3, e3, m3, h3⟩ := among_ok ([(10 : Int), (10 : Int), (20 : Int), (4 : Int)] : List (Int)) c2 h2 (by omega) (by decide)
 have hbig := (show ∀ y ∈ ([(10 : Int), (10 : Int), (20 : Int), (4 : Int)] : List (Int)), 1 ≤ y ∧ y ≤ 20 by decide) big m3
 obtain ⟨i4, c4, o, e4, lo, h4⟩ := raw0_ok ((M : Int), ((n : Int), ((m : Int), (big, ([] : List (Int)))))) (n := n) hM.2 rfl rfl hbig.1 c3 h3 (by omega)
 obtain ⟨i5, c5, ds, e5, hd, h5⟩ := raw2_ok ((M : Int), ((m : Int), (big, (([] : List (Int)), (([] : List (List (Int))), o))))) (m := m) hM.2 rfl rfl (by show o.length ≤ 7; omega) hbig c4 h4 (by omega)
 unfold whk wrh
 simp (disch := omega) only [EV, e1, e2, e3, e4, e5]
 exact ⟨_, _, _, _, rfl, ⟨by omega, hd⟩, h5.mono (by omega)⟩
theorem line0_ok {B : Int} {l : List Int} {i : Int} (k : (List (Int)) × (List (List (Int)))) (hn : k.1.length ≤ 7) (c : Int) (h : CK B l i) (hB : B ≤ 900000) :
  ∃ i' c' p, wiq k ((0 : Int), (l, (i, (c, ([] : List Int))))) = some (l, (i', (c', p))) ∧ (p.length = k.1.length ∧ ∀ x ∈ p, 0 ≤ x ∧ x ≤ 19) ∧ CK (B + 14) l i' := by
 obtain ⟨r, h1, i', c', p, rfl, h2⟩ := iter_cnt (f := fun v => (wbn k v).ev) (n := k.1.length)
  (fun a v => ∃ i c p, v = ((a : Int), (l, (i, (c, p)))) ∧ (p.length = a ∧ ∀ x ∈ p, 0 ≤ x ∧ x ≤ 19) ∧ CK (B + 2 * a) l i)
  (fun r => ∃ i c p, r = (l, (i, (c, p))) ∧ (p.length = k.1.length ∧ ∀ x ∈ p, 0 ≤ x ∧ x ≤ 19) ∧ CK (B + 14) l i)
  (fun a v ha hv => by
   obtain ⟨i, c, p, rfl, ⟨l1, l2⟩, hc⟩ := hv
   obtain ⟨x, i1, c1, e1, hx0, hx1, h1⟩ := pick_ok 20 c hc (by omega) (by omega)
   have r1 := room8 p x (by omega)
   refine ⟨(((a + 1 : Nat) : Int), (l, (i1, (c1, p ++ [x])))), ?_, i1, c1, _, rfl, ⟨by simp [l1], fun y hy => ?_⟩, h1.mono (by omega)⟩
   ·simp (disch := omega) only [EV, wbn, ha, e1, r1]
    rfl
   ·rcases List.mem_append.1 hy with h | h
    ·exact l2 y h
    ·rw [List.mem_singleton.1 h]; omega)
  (fun v hv => by
   obtain ⟨i, c, p, rfl, l1, hc⟩ := hv
   refine ⟨_, by simp (disch := omega) only [EV, wbn, Nat.lt_irrefl], i, c, p, rfl, l1, hc.mono (by omega)⟩)
  (v := ((0 : Int), (l, (i, (c, ([] : List Int)))))) ⟨i, c, [], rfl, ⟨rfl, fun x hx => by cases hx⟩, h.mono (by omega)⟩
 exact ⟨i', c', p, h1, h2⟩
theorem line4_ok {o p : List Int} {d : List (List Int)} (hb : Bx o.length d) (hp : p.length = o.length) (hp2 : ∀ x ∈ p, 0 ≤ x ∧ x ≤ 19) {j : Nat} (hj : j < d.length) {x : Int} (hx : 0 ≤ x ∧ x ≤ 19) (l : List Int) (i c : Int) :
  ∃ r, wir ((j : Int), (x, (l, (i, (c, (p, o)))))) ((0 : Int), d) = some r ∧ Bx o.length r ∧ r.length = d.length := by
 exact iter_cnt (f := fun v => (wbo ((j : Int), (x, (l, (i, (c, (p, o)))))) v).ev) (n := o.length)
  (fun a v => ∃ e, v = ((a : Int), e) ∧ Bx o.length e ∧ e.length = d.length)
  (fun r => Bx o.length r ∧ r.length = d.length)
  (fun a v ha hv => by
   obtain ⟨e, rfl, h1, h2⟩ := hv
   have hj' : j < e.length := by omega
   have ha' : a < p.length := by omega
   have hq := hp2 _ (getD_mem (d := 0) ha')
   have hl := h1.len hj'
   have hn := hb.hn
   have hm : 0 ≤ max (x - p.getD a 0) (p.getD a 0 - x) ∧ max (x - p.getD a 0) (p.getD a 0 - x) ≤ 99 := by omega
   obtain ⟨h3, h4⟩ := h1.set (a := a) hj' hm
   refine ⟨(((a + 1 : Nat) : Int), _), ?_, _, rfl, h3, by rw [h4, h2]⟩
   simp (disch := omega) only [EV, wbo, ha, hj', ha', l1Most_eq, hl]
   rfl)
  (fun v hv => by
   obtain ⟨e, rfl, h1, h2⟩ := hv
   exact ⟨_, by simp (disch := omega) only [EV, wbo, Nat.lt_irrefl], h1, h2⟩)
  (v := ((0 : Int), d)) ⟨d, rfl, hb, rfl⟩
theorem line2_ok {B : Int} {l : List Int} {i : Int} {o p : List Int} {d : List (List Int)} (hb : Bx o.length d) (hp : p.length = o.length) (hp2 : ∀ x ∈ p, 0 ≤ x ∧ x ≤ 19) (c : Int) (h : CK B l i) (hB : B ≤ 900000) :
  ∃ i' c' r, wis (p, o) ((0 : Int), (l, (i, (c, d)))) = some (l, (i', (c', r))) ∧ Bx o.length r ∧ CK (B + 14) l i' := by
 have hm := hb.hm
 obtain ⟨r, h1, i', c', e, rfl, h2⟩ := iter_cnt (f := fun v => (wbp (p, o) v).ev) (n := d.length)
  (fun a v => ∃ i c e, v = ((a : Int), (l, (i, (c, e)))) ∧ (Bx o.length e ∧ e.length = d.length) ∧ CK (B + 2 * a) l i)
  (fun r => ∃ i c e, r = (l, (i, (c, e))) ∧ Bx o.length e ∧ CK (B + 14) l i)
  (fun a v ha hv => by
   obtain ⟨i, c, e, rfl, ⟨h1, h2⟩, hc⟩ := hv
   obtain ⟨x, i1, c1, e1, hx0, hx1, h3⟩ := pick_ok 20 c hc (by omega) (by omega)
   have ha' : a < e.length := by omega
   obtain ⟨r, e2, h4, h5⟩ := line4_ok h1 hp hp2 ha' (show 0 ≤ x ∧ x ≤ 19 by omega) l i1 c1
   refine ⟨(((a + 1 : Nat) : Int), (l, (i1, (c1, r)))), ?_, i1, c1, _, rfl, ⟨h4, by omega⟩, h3.mono (by omega)⟩
   simp (disch := omega) only [EV, wbp, ha', e1, e2]
   rfl)
  (fun v hv => by
   obtain ⟨i, c, e, rfl, ⟨h1, h2⟩, hc⟩ := hv
   have hq : ¬ d.length < e.length := by omega
   refine ⟨_, by simp (disch := omega) only [EV, wbp, hq], i, c, e, rfl, h1, hc.mono (by omega)⟩)
  (v := ((0 : Int), (l, (i, (c, d))))) ⟨i, c, d, rfl, ⟨hb, rfl⟩, h.mono (by omega)⟩
 exact ⟨i', c', e, h1, h2⟩
theorem lineField_ok {B : Int} {l : List Int} {i : Int} {M : Nat} (hM : 1 ≤ M ∧ M ≤ 7) (c : Int) (h : CK B l i) (hB : B ≤ 600000) :
  ∃ o ds i' c', wmr (M : Int) l i c = some (o, (ds, (l, (i', c')))) ∧ (1 ≤ o.length ∧ Bx o.length ds) ∧ CK (B + 150) l i' := by
 obtain ⟨o, ds, i1, c1, e1, ⟨ho, hd⟩, h1⟩ := rawField_ok hM c h (by omega)
 obtain ⟨i2, c2, p, e2, ⟨hp, hp2⟩, h2⟩ := line0_ok (o, ds) hd.hn c1 h1 (by omega)
 obtain ⟨i3, c3, r, e3, hr, h3⟩ := line2_ok hd hp hp2 c2 h2 (by omega)
 unfold wmr wrp
 simp (disch := omega) only [EV, e1, e2, e3]
 exact ⟨_, _, _, _, rfl, ⟨ho, hr⟩, h3.mono (by omega)⟩
theorem l1Own_ok {l : List Int} (h : l.length ≤ 1000000) : wad l = some l := by
 have h1 : (List.length ([] : List Int) + l.length) * 8 ≤ 140737488355328 := by simp; omega
 unfold wad wmp
 simp (disch := omega) only [EV, h1, List.nil_append]
theorem l2Own_ok {o : List Int} {d : List (List Int)} (hb : Bx o.length d) : wms o d = some (o, d) := by
 have hm := hb.hm
 have hn := hb.hn
 obtain ⟨r, h1, hr⟩ := iter_cnt (f := fun v => (wbq (o, (d, (([] : List (List (Int))), o))) v).ev) (n := d.length)
  (fun a v => v = ((a : Int), d.take a)) (fun r => r = d)
  (fun a v ha hv => by
   subst hv
   have hl := hb.len ha
   have r1 := room24 (d.take a) (by simp; omega)
   refine ⟨_, ?_, rfl⟩
   simp (disch := omega) only [EV, wbq, ha, l1Own_ok (l := d.getD a []) (by omega), r1, set_end]
   rw [List.take_add_one, List.getElem?_eq_getElem ha, List.getD_eq_getElem?_getD, List.getElem?_eq_getElem ha]
   rfl)
  (fun v hv => by
   subst hv
   exact ⟨_, by simp (disch := omega) only [EV, wbq, Nat.lt_irrefl], List.take_length⟩)
  (v := ((0 : Int), ([] : List (List Int)))) (by simp)
 rw [hr] at h1
 have h1' : wix (o, (d, (([] : List (List (Int))), o))) ((0 : Int), ([] : List (List Int))) = some d := h1
 unfold wms wrr
 simp (disch := omega) only [EV, l1Own_ok (l := o) (by omega), h1']
def Way (n : Nat) (d : List (List Int)) : Prop := ∃ i j a b, i < d.length ∧ j < d.length ∧ a < n ∧ b < n ∧ at2 d i b + at2 d j b + at2 d j a < at2 d i a
theorem metric6_ok {o : List Int} {d : List (List Int)} (hb : Bx o.length d) {i j a : Nat} (hi : i < d.length) (hj : j < d.length) (ha : a < o.length) :
  ∃ r, wiy ((i : Int), ((j : Int), ((a : Int), (o, d)))) 0 = some r ∧ (r = .inr () → Way o.length d) := by
 have hn := hb.hn
 exact iter_cntE (f := fun v => (wal ((i : Int), ((j : Int), ((a : Int), (o, d)))) v).ev) (n := o.length)
  (fun b v => v = (b : Int)) (fun r => r = .inr () → Way o.length d)
  (fun b v hbn hv => by
   subst hv
   have x1 := hb.at hi ha
   have x2 := hb.at hi hbn
   have x3 := hb.at hj hbn
   have x4 := hb.at hj ha
   have y1 := hb.len hi
   have y2 := hb.len hj
   by_cases hq : (d.getD i []).getD b 0 + (d.getD j []).getD b 0 + (d.getD j []).getD a 0 < (d.getD i []).getD a 0
   ·exact .inr ⟨.inr (), by simp (disch := omega) only [EV, wal, hbn, hi, hj, ha, y1, y2, hq], fun _ => ⟨i, j, a, b, hi, hj, ha, hbn, hq⟩⟩
   ·exact .inl ⟨((b + 1 : Nat) : Int), by simp (disch := omega) only [EV, wal, hbn, hi, hj, ha, y1, y2, hq]; rfl, rfl⟩)
  (fun v hv => by
   subst hv
   exact ⟨.inl (), by simp (disch := omega) only [EV, wal, Nat.lt_irrefl], fun h => nomatch h⟩)
  (v := (0 : Int)) rfl
theorem metric4_ok {o : List Int} {d : List (List Int)} (hb : Bx o.length d) {i j : Nat} (hi : i < d.length) (hj : j < d.length) :
  ∃ r, wiz ((i : Int), ((j : Int), (o, d))) 0 = some r ∧ (r = .inr () → Way o.length d) := by
 have hn := hb.hn
 exact iter_cntE (f := fun v => (wam ((i : Int), ((j : Int), (o, d))) v).ev) (n := o.length)
  (fun a v => v = (a : Int)) (fun r => r = .inr () → Way o.length d)
  (fun a v ha hv => by
   subst hv
   obtain ⟨r, e1, h1⟩ := metric6_ok hb hi hj ha
   cases r with
   | inl u => exact .inl ⟨((a + 1 : Nat) : Int), by simp (disch := omega) only [EV, wam, ha, e1]; rfl, rfl⟩
   | inr u => exact .inr ⟨.inr (), by simp (disch := omega) only [EV, wam, ha, e1], fun _ => h1 rfl⟩)
  (fun v hv => by
   subst hv
   exact ⟨.inl (), by simp (disch := omega) only [EV, wam, Nat.lt_irrefl], fun h => nomatch h⟩)
  (v := (0 : Int)) rfl
theorem metric2_ok {o : List Int} {d : List (List Int)} (hb : Bx o.length d) {i : Nat} (hi : i < d.length) :
  ∃ r, wja ((i : Int), (o, d)) 0 = some r ∧ (r = .inr () → Way o.length d) := by
 have hm := hb.hm
 exact iter_cntE (f := fun v => (wan ((i : Int), (o, d)) v).ev) (n := d.length)
  (fun a v => v = (a : Int)) (fun r => r = .inr () → Way o.length d)
  (fun a v ha hv => by
   subst hv
   obtain ⟨r, e1, h1⟩ := metric4_ok hb hi ha
   cases r with
   | inl u => exact .inl ⟨((a + 1 : Nat) : Int), by simp (disch := omega) only [EV, wan, ha, e1]; rfl, rfl⟩
   | inr u => exact .inr ⟨.inr (), by simp (disch := omega) only [EV, wan, ha, e1], fun _ => h1 rfl⟩)
  (fun v hv => by
   subst hv
   exact ⟨.inl (), by simp (disch := omega) only [EV, wan, Nat.lt_irrefl], fun h => nomatch h⟩)
  (v := (0 : Int)) rfl
theorem metric_ok {o : List Int} {d : List (List Int)} (hb : Bx o.length d) : ∃ b, wmt o d = some b ∧ (b = false → Way o.length d) := by
 have hm := hb.hm
 obtain ⟨r, e, h⟩ := iter_cntE (f := fun v => (wao (o, d) v).ev) (n := d.length)
  (fun a v => v = (a : Int)) (fun r => r = .inr () → Way o.length d)
  (fun a v ha hv => by
   subst hv
   obtain ⟨r, e1, h1⟩ := metric2_ok hb ha
   cases r with
   | inl u => exact .inl ⟨((a + 1 : Nat) : Int), by simp (disch := omega) only [EV, wao, ha, e1]; rfl, rfl⟩
   | inr u => exact .inr ⟨.inr (), by simp (disch := omega) only [EV, wao, ha, e1], fun _ => h1 rfl⟩)
  (fun v hv => by
   subst hv
   exact ⟨.inl (), by simp (disch := omega) only [EV, wao, Nat.lt_irrefl], fun h => nomatch h⟩)
  (v := (0 : Int)) rfl
 have e' : wjb (o, d) 0 = some r := e
 unfold wmt wrw
 simp (disch := omega) only [EV, e']
 cases r with
 | inl u => exact ⟨true, rfl, fun h => by cases h⟩
 | inr u => exact ⟨false, rfl, fun _ => h rfl⟩
structure Dn (n : Nat) (D d : List (List Int)) : Prop where
 bx : Bx n d
 len : d.length = D.length
 le : ∀ i a, i < D.length → a < n → at2 d i a ≤ at2 D i a
theorem Dn.trans {n : Nat} {D d e : List (List Int)} (h : Dn n D d) (h' : Dn n d e) : Dn n D e := ⟨h'.bx, by rw [h'.len, h.len], fun i a hi ha => Int.le_trans (h'.le i a (by rw [h.len]; exact hi) ha) (h.le i a hi ha)⟩
theorem Dn.refl {n : Nat} {d : List (List Int)} (h : Bx n d) : Dn n d d := ⟨h, rfl, fun _ _ _ _ => Int.le_refl _⟩
theorem at2_set {d : List (List Int)} {n : Nat} (hb : Bx n d) {i a : Nat} (hi : i < d.length) (ha : a < n) (x : Int) (i' a' : Nat) : at2 (d.set i ((d.getD i []).set a x)) i' a' = if i = i' ∧ a = a' then x else at2 d i' a' := by
 unfold at2
 rw [getD_setL _ hi]
 by_cases e : i = i'
 ·subst e
  rw [if_pos rfl, getD_setL _ (by rw [hb.len hi]; exact ha)]
  by_cases e2 : a = a' <;> simp [e2]
 ·simp [e]
theorem Dn.set {n : Nat} {d : List (List Int)} (hb : Bx n d) {i a : Nat} (hi : i < d.length) (ha : a < n) {x : Int} (h0 : 0 ≤ x) (h1 : x ≤ at2 d i a) : Dn n d (d.set i ((d.getD i []).set a x)) := by
 have h2 : at2 d i a ≤ 99 := (hb.at hi ha).2
 obtain ⟨h3, h4⟩ := hb.set (a := a) hi (x := x) ⟨h0, by omega⟩
 refine ⟨h3, h4, fun i' a' hi' ha' => ?_⟩
 rw [at2_set hb hi ha]
 split
 next e => obtain ⟨rfl, rfl⟩ := e; exact h1
 next => exact Int.le_refl _
theorem close8_ok {o : List Int} {D d : List (List Int)} (h : Dn o.length D d) {i j a : Nat} (hi : i < D.length) (hj : j < D.length) (ha : a < o.length) :
  ∃ r, wjc ((i : Int), ((j : Int), ((a : Int), o))) ((0 : Int), d) = some r ∧ Dn o.length d r ∧ ∀ b, b < o.length → at2 r i a ≤ at2 D i b + at2 D j b + at2 D j a := by
 have hn := h.bx.hn
 have hdl := h.len
 exact iter_cnt (f := fun v => (wcz ((i : Int), ((j : Int), ((a : Int), o))) v).ev) (n := o.length)
  (fun b v => ∃ e, v = ((b : Int), e) ∧ Dn o.length d e ∧ ∀ b', b' < b → at2 e i a ≤ at2 D i b' + at2 D j b' + at2 D j a)
  (fun r => Dn o.length d r ∧ ∀ b, b < o.length → at2 r i a ≤ at2 D i b + at2 D j b + at2 D j a)
  (fun b v hb hv => by
   obtain ⟨e, rfl, h1, h2⟩ := hv
   have hel := h1.len
   have hi' : i < e.length := by omega
   have hj' : j < e.length := by omega
   have y1 := h1.bx.len hi'
   have y2 := h1.bx.len hj'
   have x1 := h1.bx.at hi' ha
   have x2 := h1.bx.at hi' hb
   have x3 := h1.bx.at hj' hb
   have x4 := h1.bx.at hj' ha
   have hT := h.trans h1
   have z2 : (e.getD i []).getD b 0 ≤ at2 D i b := hT.le i b hi hb
   have z3 : (e.getD j []).getD b 0 ≤ at2 D j b := hT.le j b hj hb
   have z4 : (e.getD j []).getD a 0 ≤ at2 D j a := hT.le j a hj ha
   have hs := Dn.set h1.bx hi' ha (x := min ((e.getD i []).getD a 0) ((e.getD i []).getD b 0 + (e.getD j []).getD b 0 + (e.getD j []).getD a 0)) (by omega) (Int.min_le_left _ _)
   have hv : at2 (e.set i ((e.getD i []).set a (min ((e.getD i []).getD a 0) ((e.getD i []).getD b 0 + (e.getD j []).getD b 0 + (e.getD j []).getD a 0)))) i a = min ((e.getD i []).getD a 0) ((e.getD i []).getD b 0 + (e.getD j []).getD b 0 + (e.getD j []).getD a 0) := by
    rw [at2_set h1.bx hi' ha, if_pos ⟨rfl, rfl⟩]
   refine ⟨(((b + 1 : Nat) : Int), _), ?_, _, rfl, h1.trans hs, fun b' hb' => ?_⟩
   ·simp (disch := omega) only [EV, wcz, hb, hi', hj', ha, y1, y2, l1Least_eq]
    rfl
   ·rw [hv]
    by_cases e2 : b' = b
    ·subst e2; omega
    ·have := h2 b' (by omega)
     have h5 : at2 e i a = (e.getD i []).getD a 0 := rfl
     omega)
  (fun v hv => by
   obtain ⟨e, rfl, h1, h2⟩ := hv
   refine ⟨e, ?_, h1, h2⟩
   have hq : decide (((o.length : Nat) : Int) < ((o.length : Nat) : Int)) = false := by simp
   have key : ∀ (x : Tr (((Int) × (List (List Int))) ⊕ (List (List Int)))), (Tr.t (decide (((o.length : Nat) : Int) < ((o.length : Nat) : Int))) x (.l (.inr e))).ev = some (.inr e) := fun x => by rw [hq]; rfl
   exact key _)
  (v := ((0 : Int), d)) ⟨d, rfl, Dn.refl h.bx, fun b hb => by omega⟩
theorem close6_ok {o : List Int} {D d : List (List Int)} (h : Dn o.length D d) {i j : Nat} (hi : i < D.length) (hj : j < D.length) :
  ∃ r, wjd ((i : Int), ((j : Int), o)) ((0 : Int), d) = some r ∧ Dn o.length d r ∧ ∀ a, a < o.length → ∀ b, b < o.length → at2 r i a ≤ at2 D i b + at2 D j b + at2 D j a := by
 have hn := h.bx.hn
 exact iter_cnt (f := fun v => (wbr ((i : Int), ((j : Int), o)) v).ev) (n := o.length)
  (fun a v => ∃ e, v = ((a : Int), e) ∧ Dn o.length d e ∧ ∀ a', a' < a → ∀ b, b < o.length → at2 e i a' ≤ at2 D i b + at2 D j b + at2 D j a')
  (fun r => Dn o.length d r ∧ ∀ a, a < o.length → ∀ b, b < o.length → at2 r i a ≤ at2 D i b + at2 D j b + at2 D j a)
  (fun a v ha hv => by
   obtain ⟨e, rfl, h1, h2⟩ := hv
   obtain ⟨r, e1, h3, h4⟩ := close8_ok (h.trans h1) hi hj ha
   refine ⟨(((a + 1 : Nat) : Int), r), ?_, _, rfl, h1.trans h3, fun a' ha' b hb => ?_⟩
   ·simp (disch := omega) only [EV, wbr, ha, e1]
    rfl
   ·by_cases e2 : a' = a
    ·subst e2; exact h4 b hb
    ·have h5 := h2 a' (by omega) b hb
     have h6 := h3.le i a' (by rw [h1.len, h.len]; exact hi) (by omega)
     omega)
  (fun v hv => by
   obtain ⟨e, rfl, h1, h2⟩ := hv
   exact ⟨_, by simp (disch := omega) only [EV, wbr, Nat.lt_irrefl], h1, h2⟩)
  (v := ((0 : Int), d)) ⟨d, rfl, Dn.refl h.bx, fun b hb => by omega⟩
theorem close4_ok {o : List Int} {D d : List (List Int)} (h : Dn o.length D d) {i : Nat} (hi : i < D.length) :
  ∃ r, wje ((i : Int), o) ((0 : Int), d) = some r ∧ Dn o.length d r ∧ ∀ j, j < D.length → ∀ a, a < o.length → ∀ b, b < o.length → at2 r i a ≤ at2 D i b + at2 D j b + at2 D j a := by
 have hm := h.bx.hm
 have hl := h.len
 exact iter_cnt (f := fun v => (wbs ((i : Int), o) v).ev) (n := D.length)
  (fun j v => ∃ e, v = ((j : Int), e) ∧ Dn o.length d e ∧ ∀ j', j' < j → ∀ a, a < o.length → ∀ b, b < o.length → at2 e i a ≤ at2 D i b + at2 D j' b + at2 D j' a)
  (fun r => Dn o.length d r ∧ ∀ j, j < D.length → ∀ a, a < o.length → ∀ b, b < o.length → at2 r i a ≤ at2 D i b + at2 D j b + at2 D j a)
  (fun j v hj hv => by
   obtain ⟨e, rfl, h1, h2⟩ := hv
   have hj' : j < e.length := by rw [h1.len, h.len]; exact hj
   obtain ⟨r, e1, h3, h4⟩ := close6_ok (h.trans h1) hi hj
   refine ⟨(((j + 1 : Nat) : Int), r), ?_, _, rfl, h1.trans h3, fun j' hj'' a ha b hb => ?_⟩
   ·simp (disch := omega) only [EV, wbs, hj', e1]
    rfl
   ·by_cases e2 : j' = j
    ·subst e2; exact h4 a ha b hb
    ·have h5 := h2 j' (by omega) a ha b hb
     have h6 := h3.le i a (by rw [h1.len, h.len]; exact hi) ha
     omega)
  (fun v hv => by
   obtain ⟨e, rfl, h1, h2⟩ := hv
   have hq : ¬ D.length < e.length := by rw [h1.len, h.len]; omega
   exact ⟨_, by simp (disch := omega) only [EV, wbs, hq], h1, h2⟩)
  (v := ((0 : Int), d)) ⟨d, rfl, Dn.refl h.bx, fun b hb => by omega⟩
theorem close2_ok {o : List Int} {D : List (List Int)} (hb : Bx o.length D) :
  ∃ r, wjf o ((0 : Int), D) = some r ∧ Dn o.length D r ∧ ∀ i, i < D.length → ∀ j, j < D.length → ∀ a, a < o.length → ∀ b, b < o.length → at2 r i a ≤ at2 D i b + at2 D j b + at2 D j a := by
 have hm := hb.hm
 exact iter_cnt (f := fun v => (wbt o v).ev) (n := D.length)
  (fun i v => ∃ e, v = ((i : Int), e) ∧ Dn o.length D e ∧ ∀ i', i' < i → ∀ j, j < D.length → ∀ a, a < o.length → ∀ b, b < o.length → at2 e i' a ≤ at2 D i' b + at2 D j b + at2 D j a)
  (fun r => Dn o.length D r ∧ ∀ i, i < D.length → ∀ j, j < D.length → ∀ a, a < o.length → ∀ b, b < o.length → at2 r i a ≤ at2 D i b + at2 D j b + at2 D j a)
  (fun i v hi hv => by
   obtain ⟨e, rfl, h1, h2⟩ := hv
   have hi' : i < e.length := by rw [h1.len]; exact hi
   obtain ⟨r, e1, h3, h4⟩ := close4_ok h1 hi
   refine ⟨(((i + 1 : Nat) : Int), r), ?_, _, rfl, h1.trans h3, fun i' hi'' j hj a ha b hb => ?_⟩
   ·simp (disch := omega) only [EV, wbt, hi', e1]
    rfl
   ·by_cases e2 : i' = i
    ·subst e2; exact h4 j hj a ha b hb
    ·have h5 := h2 i' (by omega) j hj a ha b hb
     have h6 := h3.le i' a (by rw [h1.len]; omega) ha
     omega)
  (fun v hv => by
   obtain ⟨e, rfl, h1, h2⟩ := hv
   have hq : ¬ D.length < e.length := by rw [h1.len]; omega
   exact ⟨_, by simp (disch := omega) only [EV, wbt, hq], h1, h2⟩)
  (v := ((0 : Int), D)) ⟨D, rfl, Dn.refl hb, fun b hb => by omega⟩
theorem sum_lt : ∀ (a b : List Nat), a.length = b.length → (∀ i, i < a.length → a.getD i 0 ≤ b.getD i 0) → a.sum ≤ b.sum ∧ ∀ i, i < a.length → a.getD i 0 < b.getD i 0 → a.sum < b.sum
 | [], [], _, _ => ⟨Nat.le_refl _, fun i hi => absurd hi (Nat.not_lt_zero i)⟩
 | [], y :: b, h, _ => by simp at h
 | x :: a, [], h, _ => by simp at h
 | x :: a, y :: b, h, hle => by
  have hl : a.length = b.length := by simpa using h
  obtain ⟨h1, h2⟩ := sum_lt a b hl fun i hi => by simpa using hle (i + 1) (by simpa using hi)
  have h0 : x ≤ y := by simpa using hle 0 (by simp)
  simp only [List.sum_cons]
  refine ⟨by omega, fun i hi hlt => ?_⟩
  cases i with
  | zero =>
   have : x < y := by simpa using hlt
   omega
  | succ i =>
   have := h2 i (by simpa using hi) (by simpa using hlt)
   omega
theorem getD_mapD {α β : Type} (g : α → β) (l : List α) (d : α) (i : Nat) : (l.map g).getD i (g d) = g (l.getD i d) := by
 simp only [List.getD_eq_getElem?_getD, List.getElem?_map]
 cases l[i]? <;> rfl
def rowTot (r : List Int) : Nat := (r.map Int.toNat).sum
def tot2 (d : List (List Int)) : Nat := (d.map rowTot).sum
theorem rowTot_lt {a b : List Int} (hl : a.length = b.length) (h : ∀ i, i < a.length → a.getD i 0 ≤ b.getD i 0) : rowTot a ≤ rowTot b ∧ ∀ i, i < a.length → 0 ≤ a.getD i 0 → a.getD i 0 < b.getD i 0 → rowTot a < rowTot b := by
 have g : ∀ (l : List Int) i, (l.map Int.toNat).getD i 0 = (l.getD i 0).toNat := fun l i => getD_mapD Int.toNat l 0 i
 obtain ⟨h1, h2⟩ := sum_lt (a.map Int.toNat) (b.map Int.toNat) (by simpa using hl) fun i hi => by
  rw [g, g]
  have := h i (by simpa using hi)
  omega
 refine ⟨h1, fun i hi h0 hlt => h2 i (by simpa using hi) ?_⟩
 rw [g, g]
 omega
theorem tot2_lt {n : Nat} {D d : List (List Int)} (hD : Bx n D) (h : Dn n D d) {i a : Nat} (hi : i < D.length) (ha : a < n) (hlt : at2 d i a < at2 D i a) : tot2 d < tot2 D := by
 have g : ∀ (l : List (List Int)) i, (l.map rowTot).getD i 0 = rowTot (l.getD i []) := fun l i => getD_mapD rowTot l [] i
 have hr : ∀ j, j < d.length → rowTot (d.getD j []) ≤ rowTot (D.getD j []) ∧ ∀ i, i < (d.getD j []).length → 0 ≤ (d.getD j []).getD i 0 → (d.getD j []).getD i 0 < (D.getD j []).getD i 0 → rowTot (d.getD j []) < rowTot (D.getD j []) := fun j hj => by
  have hj' : j < D.length := by rw [← h.len]; exact hj
  refine rowTot_lt (by rw [h.bx.len hj, hD.len hj']) fun x hx => h.le j x hj' (by rw [h.bx.len hj] at hx; exact hx)
 obtain ⟨_, h2⟩ := sum_lt (d.map rowTot) (D.map rowTot) (by simpa using h.len) fun j hj => by
  rw [g, g]
  exact (hr j (by simpa using hj)).1
 have hi' : i < d.length := by rw [h.len]; exact hi
 refine h2 i (by simpa using hi') ?_
 rw [g, g]
 exact (hr i hi').2 a (by rw [h.bx.len hi']; exact ha) (h.bx.at hi' ha).1 hlt
theorem close0_ok {o : List Int} : ∀ (m : Nat) {d : List (List Int)}, tot2 d = m → Bx o.length d → ∃ r, wdb o d = some r ∧ Bx o.length r ∧ r.length = d.length := by
 intro m
 induction m using Nat.strongRecOn with
 | _ m ih =>
  intro d hm hb
  obtain ⟨b, e1, h1⟩ := metric_ok hb
  cases b with
  | true => exact ⟨d, by unfold wdb; rw [iter_eq]; simp (disch := omega) only [EV, wda, e1], hb, rfl⟩
  | false =>
   obtain ⟨i, j, a, b, hi, hj, ha, hbn, hlt⟩ := h1 rfl
   obtain ⟨r, e2, h2, h3⟩ := close2_ok hb
   have h4 := h3 i hi j hj a ha b hbn
   have h5 := tot2_lt hb h2 hi ha (by omega)
   obtain ⟨s, e3, h6, h7⟩ := ih (tot2 r) (by omega) rfl h2.bx
   refine ⟨s, ?_, h6, by rw [h7, h2.len]⟩
   unfold wdb at e3 ⊢
   rw [iter_eq]
   simp (disch := omega) only [EV, wda, e1, e2]
   exact e3
theorem close_ok {o : List Int} {d : List (List Int)} (hb : Bx o.length d) : ∃ r, wmv o d = some (o, r) ∧ Bx o.length r := by
 obtain ⟨r, e1, h1, _⟩ := close0_ok (tot2 d) rfl hb
 unfold wmv wrz
 simp (disch := omega) only [EV, l2Own_ok hb, e1]
 exact ⟨r, rfl, h1⟩
structure DrF (o : List Int) (d : List (List Int)) : Prop where
 lo : o.length ≤ 8
 lm : d.length ≤ 8
 row : ∀ r ∈ d, r.length ≤ 8
theorem DrF.o1 {o : List Int} {d : List (List Int)} (h : DrF o d) : Low1 o := by have := h.lo; unfold Low1; omega
theorem DrF.d2 {o : List Int} {d : List (List Int)} (h : DrF o d) : Low2 d := ⟨by have := h.lm; omega, fun r hr => by have := h.row r hr; unfold Low1; omega⟩
theorem Bx.drf {o : List Int} {d : List (List Int)} (h : Bx o.length d) : DrF o d := ⟨by have := h.hn; omega, by have := h.hm; omega, fun r hr => by have := (h.row r hr).1; have := h.hn; omega⟩
theorem spoilt1_ok {o : List Int} {d : List (List Int)} (hb : Bx o.length d) (l : List Int) (i c : Int) : ∃ r, wip (l, (i, (c, (o, ([] : List (List (Int))))))) d = some r ∧ r.length ≤ 8 ∧ ∀ x ∈ r, x.length ≤ 8 := by
 have hn := hb.hn
 have hm := hb.hm
 exact iter_cnt (f := fun v => (wbm (l, (i, (c, (o, ([] : List (List (Int))))))) v).ev) (n := 8 - d.length)
  (fun a v => v.length = d.length + a ∧ ∀ r ∈ v, r.length ≤ 8) (fun r => r.length ≤ 8 ∧ ∀ x ∈ r, x.length ≤ 8)
  (fun a v ha hv => by
   obtain ⟨l1, l2⟩ := hv
   have r1 := room24 v (by omega)
   have hp : ((v.length : Nat) : Int) < 8 := by omega
   refine ⟨v ++ [o], ?_, by simp [l1]; omega, fun r hr' => ?_⟩
   ·simp (disch := omega) only [EV, wbm, hp, l1Own_ok (l := o) (by omega), r1, set_end]
   ·rcases List.mem_append.1 hr' with h | h
    ·exact l2 r h
    ·rw [List.mem_singleton.1 h]; omega)
  (fun v hv => by
   obtain ⟨l1, l2⟩ := hv
   have hp : ¬ ((v.length : Nat) : Int) < 8 := by omega
   exact ⟨v, by simp (disch := omega) only [EV, wbm, hp], by omega, l2⟩)
  ⟨rfl, fun r hr => by have := (hb.row r hr).1; omega⟩
theorem spoilt2_ok {B : Int} {l : List Int} {i : Int} {o : List Int} {d : List (List Int)} (ho : 1 ≤ o.length) (hb : Bx o.length d) (c : Int) (h : CK B l i) (hB : B ≤ 800000) :
  ∃ o' d' i' c', whl l i c o d = some (o', (d', (l, (i', c')))) ∧ DrF o' d' ∧ CK (B + 10) l i' := by
 have hn := hb.hn
 have hm := hb.hm
 have hD := hb.drf
 have h0 : (((o.length : Nat) : Int) == (0 : Int)) = false := by rw [beq_eq_false_iff_ne]; omega
 obtain ⟨x1, i1, c1, e1, hx0, hx1, h1⟩ := pick_ok (o.length : Int) c h (by omega) (by omega)
 obtain ⟨a, rfl⟩ : ∃ a : Nat, x1 = (a : Int) := ⟨x1.toNat, by omega⟩
 have ha : a < o.length := by omega
 obtain ⟨x2, i2, c2, e2, _, _, h2⟩ := pick_ok 60 c1 h1 (by omega) (by omega)
 unfold whl wri
 simp (disch := omega) only [EV, h0, e1, e2]
 cases k0 : (x2 == (0 : Int)) with
 | true =>
  obtain ⟨x3, i3, c3, e3, _, h3⟩ := among_ok ([(-1 : Int), (99 : Int), (100 : Int), (4611686018427387904 : Int)] : List (Int)) c2 h2 (by omega) (by decide)
  simp (disch := omega) only [EV, e3, ha]
  exact ⟨_, _, _, _, rfl, ⟨by simpa using hD.lo, hD.lm, hD.row⟩, h3.mono (by omega)⟩
 | false =>
  cases k1 : (x2 == (1 : Int)) with
  | true =>
   by_cases hd : 0 < d.length
   ·obtain ⟨x3, i3, c3, e3, _, h3⟩ := among_ok ([(-1 : Int), (99 : Int), (100 : Int), (-9223372036854775808 : Int)] : List (Int)) c2 h2 (by omega) (by decide)
    have z : Int.toNat 0 = 0 := rfl
    have hl := hb.len hd
    simp (disch := omega) only [EV, e3, show (0 : Int) < ((d.length : Nat) : Int) by omega, show inR (0 : Int) d.length = true from inR_int (by omega) (by omega), z, hd, hl, ha]
    refine ⟨_, _, _, _, rfl, ⟨hD.lo, by simpa using hD.lm, fun r hr => ?_⟩, h3.mono (by omega)⟩
    rcases List.mem_or_eq_of_mem_set hr with h | rfl
    ·exact hD.row r h
    ·rw [List.length_set, hl]; omega
   ·simp (disch := omega) only [EV, show ¬ (0 : Int) < ((d.length : Nat) : Int) by omega]
    exact ⟨_, _, _, _, rfl, hD, h2.mono (by omega)⟩
  | false =>
   cases k2 : (x2 == (2 : Int)) with
   | true =>
    have r1 := room8 o 1 (by omega)
    simp (disch := omega) only [EV, r1]
    exact ⟨_, _, _, _, rfl, ⟨by simp; omega, hD.lm, hD.row⟩, h2.mono (by omega)⟩
   | false =>
    cases k3 : (x2 == (3 : Int)) with
    | true =>
     obtain ⟨r, e3, h3, h4⟩ := spoilt1_ok hb l i2 c2
     simp (disch := omega) only [EV, e3]
     exact ⟨_, _, _, _, rfl, ⟨hD.lo, h3, h4⟩, h2.mono (by omega)⟩
    | false =>
     cases k4 : (x2 == (4 : Int)) with
     | true =>
      simp (disch := omega) only [EV]
      exact ⟨_, _, _, _, rfl, ⟨by simp, by simp, fun r hr => by cases hr⟩, h2.mono (by omega)⟩
     | false =>
      simp (disch := omega) only [EV]
      exact ⟨_, _, _, _, rfl, hD, h2.mono (by omega)⟩
theorem fieldMost_ok {B : Int} {l : List Int} {i : Int} {M : Nat} (hM : 1 ≤ M ∧ M ≤ 7) (c : Int) (h : CK B l i) (hB : B ≤ 500000) :
  ∃ o d i' c', whs (M : Int) l i c = some (o, (d, (l, (i', c')))) ∧ DrF o d ∧ CK (B + 200) l i' := by
 obtain ⟨x, i1, c1, e1, _, _, h1⟩ := pick_ok 3 c h (by omega) (by omega)
 unfold whs wsb
 simp (disch := omega) only [EV, e1]
 cases k0 : (x == (0 : Int)) with
 | true =>
  obtain ⟨o, d, i2, c2, e2, ⟨ho, hb⟩, h2⟩ := rawField_ok hM c1 h1 (by omega)
  obtain ⟨o', d', i3, c3, e3, hD, h3⟩ := spoilt2_ok ho hb c2 h2 (by omega)
  simp (disch := omega) only [EV, e2, e3]
  exact ⟨_, _, _, _, rfl, hD, h3.mono (by omega)⟩
 | false =>
  cases k1 : (x == (1 : Int)) with
  | true =>
   obtain ⟨o, d, i2, c2, e2, ⟨ho, hb⟩, h2⟩ := lineField_ok hM c1 h1 (by omega)
   obtain ⟨o', d', i3, c3, e3, hD, h3⟩ := spoilt2_ok ho hb c2 h2 (by omega)
   simp (disch := omega) only [EV, e2, e3]
   exact ⟨_, _, _, _, rfl, hD, h3.mono (by omega)⟩
  | false =>
   obtain ⟨o, d, i2, c2, e2, ⟨ho, hb⟩, h2⟩ := rawField_ok hM c1 h1 (by omega)
   obtain ⟨r, e4, hb'⟩ := close_ok hb
   obtain ⟨o', d', i3, c3, e3, hD, h3⟩ := spoilt2_ok ho hb' c2 h2 (by omega)
   simp (disch := omega) only [EV, e2, e4, e3]
   exact ⟨_, _, _, _, rfl, hD, h3.mono (by omega)⟩
theorem field_ok {B : Int} {l : List Int} {i : Int} (c : Int) (h : CK B l i) (hB : B ≤ 500000) :
  ∃ o d i' c', wmx l i c = some (o, (d, (l, (i', c')))) ∧ DrF o d ∧ CK (B + 200) l i' := by
 obtain ⟨o, d, i', c', e, h1⟩ := fieldMost_ok (M := 7) (by omega) c h hB
 rw [show ((7 : Nat) : Int) = 7 from rfl] at e
 unfold wmx wsc
 simp (disch := omega) only [EV, e]
 exact ⟨_, _, _, _, rfl, h1⟩
end Go.Proofs.YtnagpmhaddfgmaaGreat
