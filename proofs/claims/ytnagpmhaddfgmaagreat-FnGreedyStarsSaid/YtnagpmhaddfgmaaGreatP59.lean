/-
 Plain laws: the program's test for metric fields; totals; both sides' greedy stars.
-/
import Derived.Test.YtnagpmhaddfgmaaGreatP58

namespace Go.Proofs.YtnagpmhaddfgmaaGreat
section
variable {o : List Int} {ds : List (List Int)}
def met6 (ds : List (List Int)) (i j a n : Nat) : Bool := (List.range n).all fun b => !decide (at2 ds i b + at2 ds j b + at2 ds j a < at2 ds i a)
def met4 (ds : List (List Int)) (i j n : Nat) : Bool := (List.range n).all fun a => met6 ds i j a n
def met2 (ds : List (List Int)) (i n : Nat) : Bool := (List.range ds.length).all fun j => met4 ds i j n
def metB (ds : List (List Int)) (n : Nat) : Bool := (List.range ds.length).all fun i => met2 ds i n
theorem waaw {n : Nat} (h : metB ds n = true) : wbco n ds := fun i hi j hj a b ha hb => by
 have h1 := List.all_eq_true.1 h i (List.mem_range.2 hi)
 have h2 := List.all_eq_true.1 h1 j (List.mem_range.2 hj)
 have h3 := List.all_eq_true.1 h2 a (List.mem_range.2 ha)
 have h4 := List.all_eq_true.1 h3 b (List.mem_range.2 hb)
 rw [Bool.not_eq_true', decide_eq_false_iff_not] at h4
 omega
theorem wcgr (hf : Fld o ds) {i j a : Nat} (hi : i < ds.length) (hj : j < ds.length) (ha : a < o.length) (k : (List (Int)) × ((List (Int)) × ((Int) × ((List (List (Int))) × ((Int) × ((Int) × ((List (List (Int))) × ((Int) × ((Int) × ((Int) × ((Int) × ((Int) × ((List (Int)) × (List (List (Int))))))))))))))))
  (k1 : k.1 = ds.getD i []) (k2 : k.2.1 = ds.getD j []) (k3 : k.2.2.1 = (a : Int)) (k4 : k.2.2.2.2.2.2.2.2.2.2.2.1 = (o.length : Int)) : wbbb k 0 = some (bif met6 ds i j a o.length then .inl () else .inr ()) := by
 have ho := hf.len
 have hri := hf.rowLen i hi
 have hrj := hf.rowLen j hj
 have h := wcr (f := fun v => (wwf k v).ev) (n := o.length) (mk := fun b => (b : Int)) (p := fun b => !decide (at2 ds i b + at2 ds j b + at2 ds j a < at2 ds i a)) (yes := .inl ()) (no := .inr ())
  (fun b hb _ => by
   have v1 := hf.at2 hi hb
   have v2 := hf.at2 hj hb
   have v3 := hf.at2 hj ha
   have v4 := hf.at2 hi ha
   unfold at2 at v1 v2 v3 v4 ⊢
   have hlt : (b : Int) < (o.length : Int) := by omega
   have g1 : inR (a : Int) (ds.getD i []).length = true := wcd (by omega) (by omega)
   have g2 : inR (b : Int) (ds.getD i []).length = true := wcd (by omega) (by omega)
   have g3 : inR (b : Int) (ds.getD j []).length = true := wcd (by omega) (by omega)
   have g4 : inR (a : Int) (ds.getD j []).length = true := wcd (by omega) (by omega)
   have hw : IntKind.wrap .i64 ((b : Int) + 1) = ((b + 1 : Nat) : Int) := by rw [wrap64 (by omega) (by omega)]; rfl
   have hw2 : IntKind.wrap .i64 ((ds.getD i []).getD b 0 + (ds.getD j []).getD b 0) = (ds.getD i []).getD b 0 + (ds.getD j []).getD b 0 := wrap64 (by omega) (by omega)
   have hw3 : IntKind.wrap .i64 ((ds.getD i []).getD b 0 + (ds.getD j []).getD b 0 + (ds.getD j []).getD a 0) = (ds.getD i []).getD b 0 + (ds.getD j []).getD b 0 + (ds.getD j []).getD a 0 := wrap64 (by omega) (by omega)
   unfold wwf
   rw [k1, k2, k3, k4, Tr.ev_t, decide_eq_true hlt, cond_true, Tr.ev_g, g1, cond_true, Tr.ev_g, g2, cond_true, Tr.ev_g, g3, cond_true, Tr.ev_g, g4, cond_true, Tr.ev_t, hw]
   simp only [Int.toNat_natCast, hw2, hw3]
   cases decide ((ds.getD i []).getD b 0 + (ds.getD j []).getD b 0 + (ds.getD j []).getD a 0 < (ds.getD i []).getD a 0) <;> rfl)
  (by
   have hlt : ¬ (o.length : Int) < (o.length : Int) := by omega
   unfold wwf
   rw [k4, Tr.ev_t, decide_eq_false hlt, cond_false, Tr.ev_l])
 exact h
theorem wcgs (hf : Fld o ds) {i j : Nat} (hi : i < ds.length) (hj : j < ds.length) (k : (List (Int)) × ((List (Int)) × ((List (List (Int))) × ((Int) × ((Int) × ((List (List (Int))) × ((Int) × ((Int) × ((Int) × ((List (Int)) × (List (List (Int)))))))))))))
  (k1 : k.1 = ds.getD i []) (k2 : k.2.1 = ds.getD j []) (k3 : k.2.2.2.2.2.2.2.2.1 = (o.length : Int)) (k4 : k.2.2.2.2.2.2.2.2.2.1 = o) : wbbc k 0 = some (bif met4 ds i j o.length then .inl () else .inr ()) := by
 have ho := hf.len
 have h := wcr (f := fun v => (wwg k v).ev) (n := o.length) (mk := fun b => (b : Int)) (p := fun a => met6 ds i j a o.length) (yes := .inl ()) (no := .inr ())
  (fun a ha _ => by
   have hlt : (a : Int) < (o.length : Int) := by omega
   have hw : IntKind.wrap .i64 ((a : Int) + 1) = ((a + 1 : Nat) : Int) := by rw [wrap64 (by omega) (by omega)]; rfl
   unfold wwg
   rw [k3, Tr.ev_t, decide_eq_true hlt, cond_true, Tr.ev_c, wcgr hf hi hj ha _ k1 k2 rfl (by rw [k4]), Option.bind_some, hw]
   cases met6 ds i j a o.length <;> rfl)
  (by
   have hlt : ¬ (o.length : Int) < (o.length : Int) := by omega
   unfold wwg
   rw [k3, Tr.ev_t, decide_eq_false hlt, cond_false, Tr.ev_l])
 exact h
theorem wcgt (hf : Fld o ds) {i : Nat} (hi : i < ds.length) (k : (List (Int)) × ((List (List (Int))) × ((Int) × ((Int) × ((List (List (Int))) × ((Int) × ((List (Int)) × (List (List (Int))))))))))
  (k1 : k.1 = ds.getD i []) (k2 : k.2.2.2.2.1 = ds) (k3 : k.2.2.2.2.2.1 = (ds.length : Int)) (k4 : k.2.2.2.2.2.2.1 = o) : wbbd k 0 = some (bif met2 ds i o.length then .inl () else .inr ()) := by
 have hc := hf.clients
 have h := wcr (f := fun v => (wwh k v).ev) (n := ds.length) (mk := fun b => (b : Int)) (p := fun j => met4 ds i j o.length) (yes := .inl ()) (no := .inr ())
  (fun j hj _ => by
   have hlt : (j : Int) < (ds.length : Int) := by omega
   have hw : IntKind.wrap .i64 ((j : Int) + 1) = ((j + 1 : Nat) : Int) := by rw [wrap64 (by omega) (by omega)]; rfl
   have g1 := wcq hj
   unfold wwh
   rw [k3, Tr.ev_t, decide_eq_true hlt, cond_true, Tr.ev_g, k2, g1, cond_true, Tr.ev_c, wcgs hf hi hj _ k1 (by dsimp only; rw [Int.toNat_natCast]) (by dsimp only; rw [k4]) k4, Option.bind_some, hw]
   cases met4 ds i j o.length <;> rfl)
  (by
   have hlt : ¬ (ds.length : Int) < (ds.length : Int) := by omega
   unfold wwh
   rw [k3, Tr.ev_t, decide_eq_false hlt, cond_false, Tr.ev_l])
 exact h
theorem wbpj (ho : wdp o) (hd : wul ds) : F_zx o ds = some (bif wdm o ds then (metB ds o.length, true) else (false, false)) := by
 unfold F_zx T_zx
 rw [Tr.ev_c, wgx ho hd, Option.bind_some, Tr.ev_t]
 cases hb : wdm o ds with
 | false => rfl
 | true =>
  have hf := wcf.1 hb
  have hc := hf.clients
  have h := wcr (f := fun v => (wwi (ds, (((ds.length : Nat) : Int), (o, ds))) v).ev) (n := ds.length) (mk := fun b => (b : Int)) (p := fun i => met2 ds i o.length) (yes := .inl ()) (no := .inr ())
   (fun i hi _ => by
    have hlt : (i : Int) < (ds.length : Int) := by omega
    have hw : IntKind.wrap .i64 ((i : Int) + 1) = ((i + 1 : Nat) : Int) := by rw [wrap64 (by omega) (by omega)]; rfl
    have g1 := wcq hi
    unfold wwi
    dsimp only
    rw [Tr.ev_t, decide_eq_true hlt, cond_true, Tr.ev_g, g1, cond_true, Tr.ev_c, wcgt hf hi _ (by dsimp only; rw [Int.toNat_natCast]) rfl rfl rfl, Option.bind_some, hw]
    cases met2 ds i o.length <;> rfl)
   (by
    have hlt : ¬ (ds.length : Int) < (ds.length : Int) := by omega
    unfold wwi
    dsimp only
    rw [Tr.ev_t, decide_eq_false hlt, cond_false, Tr.ev_l])
  have h1 : wbbe (ds, (((ds.length : Nat) : Int), (o, ds))) 0 = some (bif metB ds o.length then .inl () else .inr ()) := h
  rw [Bool.not_true, cond_false, Tr.ev_c, h1, Option.bind_some, cond_true]
  cases metB ds o.length <;> rfl
theorem wfo {s : List Int} (ho : wdp o) (hd : wul ds) (hs : wdp s) : wsm o ds s = some (bif wcx o ds s then (wco o ds s, true) else (0, false)) := by
 unfold wsm T_zz
 rw [Tr.ev_c, whz ho hd hs, Option.bind_some, Tr.ev_t]
 cases hb : wcx o ds s with
 | false => rfl
 | true =>
  obtain ⟨hf, hp, h0⟩ := wfa hs hb
  have e : wzn o ds s = some (wco o ds s) := wjb hf hp h0
  rw [Bool.not_true, cond_false, Tr.ev_c, e, Option.bind_some, Tr.ev_l]
  rfl
theorem wjj (ho : wdp o) (hd : wul ds) (hf : Fld o ds) : F_ze o ds = some (wco o ds (whl o ds), true) := by
 obtain ⟨a, b⟩ := wmm hf.pos hf.len (wlf hf).1
 have e : wzn o ds (whl o ds) = some (wco o ds (whl o ds)) := wjb hf (a.places hf.len) (List.length_pos_iff.2 b)
 unfold F_ze T_ze
 rw [Tr.ev_c, wazw ho hd hf, Option.bind_some, Tr.ev_t, Bool.not_true, cond_false, Tr.ev_c, e, Option.bind_some, Tr.ev_l]
def wcy (o : List Int) : Nat := (List.range (o.length - 1)).foldl (fun b k => if o.getD (k + 1) 0 < o.getD b 0 then k + 1 else b) 0
theorem waax (hp : 1 ≤ o.length) : wcy o < o.length ∧ (∀ i, i < o.length → o.getD (wcy o) 0 ≤ o.getD i 0) ∧ ∀ i, i < wcy o → o.getD (wcy o) 0 < o.getD i 0 := by
 have key : ∀ k, k + 1 ≤ o.length → (List.range k).foldl (fun b k => if o.getD (k + 1) 0 < o.getD b 0 then k + 1 else b) 0 ≤ k ∧ (∀ i, i ≤ k → o.getD ((List.range k).foldl (fun b k => if o.getD (k + 1) 0 < o.getD b 0 then k + 1 else b) 0) 0 ≤ o.getD i 0) ∧
   ∀ i, i < (List.range k).foldl (fun b k => if o.getD (k + 1) 0 < o.getD b 0 then k + 1 else b) 0 → o.getD ((List.range k).foldl (fun b k => if o.getD (k + 1) 0 < o.getD b 0 then k + 1 else b) 0) 0 < o.getD i 0 := by
  intro k
  induction k with
  | zero =>
   intro _
   refine ⟨Nat.le_refl _, fun i hi => ?_, fun i hi => absurd hi (by simp)⟩
   have : i = 0 := by omega
   subst this
   exact Int.le_refl _
  | succ k ih =>
   intro hk
   obtain ⟨i1, i2, i3⟩ := ih (by omega)
   rw [wal]
   generalize (List.range k).foldl (fun b k => if o.getD (k + 1) 0 < o.getD b 0 then k + 1 else b) 0 = b at i1 i2 i3
   by_cases hlt : o.getD (k + 1) 0 < o.getD b 0
   ·rw [if_pos hlt]
    refine ⟨Nat.le_refl _, fun i hi => ?_, fun i hi => ?_⟩
    ·by_cases e : i = k + 1
     ·subst e; exact Int.le_refl _
     ·have := i2 i (by omega); omega
    ·have := i2 i (by omega); omega
   ·rw [if_neg hlt]
    refine ⟨by omega, fun i hi => ?_, i3⟩
    by_cases e : i = k + 1
    ·subst e; omega
    ·exact i2 i (by omega)
 obtain ⟨a, b, c⟩ := key (o.length - 1) (by omega)
 exact ⟨by unfold wcy; omega, fun i hi => b i (by omega), c⟩
theorem wbpk {l : List Int} (h0 : 0 < l.length) (hl : l.length ≤ 1000) : wavf l = some (l.getD (wcy l) 0) := by
 have h := (wap (f := fun v => (wog l v).ev) (n := l.length - 1) (mk := fun k (b : Nat) => (l.getD b 0, ((k + 1 : Nat) : Int))) (I := fun k b => b ≤ k) (g := fun b k => if l.getD (k + 1) 0 < l.getD b 0 then k + 1 else b) (fin := fun b => l.getD b 0) (s0 := 0) (Nat.le_refl _)
  (fun k b hk hb => by
   have hlt : ((k + 1 : Nat) : Int) < ((l.length : Nat) : Int) := by omega
   have g1 : inR ((k + 1 : Nat) : Int) l.length = true := wcq (by omega)
   have hw : IntKind.wrap .i64 (((k + 1 : Nat) : Int) + 1) = ((k + 1 + 1 : Nat) : Int) := by rw [wrap64 (by omega) (by omega)]; rfl
   refine ⟨?_, by split <;> omega⟩
   have hmin : (if l.getD (k + 1) 0 < l.getD b 0 then l.getD (k + 1) 0 else l.getD b 0) = l.getD (if l.getD (k + 1) 0 < l.getD b 0 then k + 1 else b) 0 := by split <;> rfl
   unfold wog
   dsimp only
   rw [Tr.ev_t, decide_eq_true hlt, cond_true, Tr.ev_g, g1, cond_true, hw, Int.toNat_natCast, hmin]
   rfl)
  (fun b _ => by
   have hlt : ¬ ((l.length - 1 + 1 : Nat) : Int) < ((l.length : Nat) : Int) := by omega
   unfold wog
   dsimp only
   rw [Tr.ev_t, decide_eq_false hlt, cond_false, Tr.ev_l])).1
 have h1 : wamo l (l.getD 0 0, 1) = some (l.getD (wcy l) 0) := h
 have hn : ¬ ((l.length : Nat) : Int) < 1 := by omega
 have g0 : inR (0 : Int) l.length = true := wcd (by omega) (by omega)
 unfold wavf wbfq
 rw [Tr.ev_t, decide_eq_false hn, cond_false, Tr.ev_g, g0, cond_true, Tr.ev_c, show Int.toNat 0 = 0 from rfl, h1, Option.bind_some, Tr.ev_l]
theorem warw (hf : Fld o ds) : F_zh o ds = some (wcy o : Int) := by
 have hp := hf.pos
 have h7 := hf.len
 obtain ⟨c1, c2, c3⟩ := waax hp
 have e1 := wbpk (l := o) (by omega) (by omega)
 have h := wdl (f := fun v => (wgi (o, (o.getD (wcy o) 0, ((o.length : Nat) : Int))) v).ev) (l := o) 0 (fun y => o.getD (wcy o) 0 == y) (mk := fun i => (i : Int)) (yes := fun i => .inr (i : Int)) (no := .inl ())
  (fun i hi => by
   simp (disch := omega) only [EV, wgi, hi]
   cases (o.getD (wcy o) 0 == o.getD i 0) <;> rfl)
  (by simp (disch := omega) only [EV, wgi, Nat.lt_irrefl])
 have h1 : wzb (o, (o.getD (wcy o) 0, ((o.length : Nat) : Int))) 0 = _ := h
 have hfi : (o.findIdx? fun y => o.getD (wcy o) 0 == y) = some (wcy o) := by
  rw [List.findIdx?_eq_some_iff_getElem]
  have hg : ∀ i (hi : i < o.length), o[i] = o.getD i 0 := fun i hi => by rw [List.getD_eq_getElem?_getD, List.getElem?_eq_getElem hi]; rfl
  refine ⟨c1, by rw [hg _ c1]; exact beq_self_eq_true _, fun i hi => ?_⟩
  rw [hg _ (by omega)]
  have := c3 i hi
  intro h
  have := eq_of_beq h
  omega
 rw [hfi] at h1
 unfold F_zh T_zh wamp wavg
 rw [Tr.ev_c, e1, Option.bind_some, Tr.ev_c, Tr.ev_c, h1]
 rfl
theorem warx (hf : Fld o ds) : wavt o ds = some (wcy o : Int) := by
 have hp := hf.pos
 have h7 := hf.len
 have h := (wap (f := fun v => (wom (o, ds) v).ev) (n := o.length - 1) (mk := fun k (b : Nat) => ((b : Int), ((k + 1 : Nat) : Int))) (I := fun k b => b ≤ k) (g := fun b k => if o.getD (k + 1) 0 < o.getD b 0 then k + 1 else b) (fin := fun b => (b : Int)) (s0 := 0) (Nat.le_refl _)
  (fun k b hk hb => by
   have hlt : ((k + 1 : Nat) : Int) < ((o.length : Nat) : Int) := by omega
   have g1 : inR ((k + 1 : Nat) : Int) o.length = true := wcq (by omega)
   have g2 : inR (b : Int) o.length = true := wcq (by omega)
   have hw : IntKind.wrap .i64 (((k + 1 : Nat) : Int) + 1) = ((k + 1 + 1 : Nat) : Int) := by rw [wrap64 (by omega) (by omega)]; rfl
   refine ⟨?_, by split <;> omega⟩
   unfold wom
   dsimp only
   simp only [Int.toNat_natCast]
   rw [Tr.ev_t, decide_eq_true hlt, cond_true, Tr.ev_g, g1, cond_true, Tr.ev_g, g2, cond_true, Tr.ev_t, hw]
   by_cases hc : o.getD (k + 1) 0 < o.getD b 0
   ·rw [decide_eq_true hc, cond_true, if_pos hc]
    rfl
   ·rw [decide_eq_false hc, cond_false, if_neg hc]
    rfl)
  (fun b _ => by
   have hlt : ¬ ((o.length - 1 + 1 : Nat) : Int) < ((o.length : Nat) : Int) := by omega
   unfold wom
   dsimp only
   rw [Tr.ev_t, decide_eq_false hlt, cond_false, Tr.ev_l])).1
 have h1 : wanh (o, ds) (0, 1) = some (wcy o : Int) := h
 unfold wavt wbha
 rw [Tr.ev_c, h1, Option.bind_some, Tr.ev_l]
def wbg (o : List Int) (ds : List (List Int)) : Bool × List Int := bif wdm o ds then (true, if ds = [] then [(wcy o : Int)] else wib o ds ds.length [] (waw ds.length)) else (false, [])
theorem waay (n : Nat) : ris n [] := ⟨fun x hx => (by cases hx), List.Pairwise.nil⟩
theorem wrb {f : Int × List Int → Option ((Int × List Int) ⊕ List Int)} {m : Nat} (hs : ∀ i : Nat, i < m → f ((i : Int), waw i) = some (.inl (((i + 1 : Nat) : Int), waw i ++ [(i : Int)]))) (he : f ((m : Int), waw m) = some (.inr (waw m))) : iter f (0, []) = some (waw m) := by
 have := (wap (f := f) (n := m) (mk := fun i (_ : Unit) => ((i : Int), waw i)) (I := fun _ _ => True) (g := fun s _ => s) (fin := fun _ => waw m) (s0 := ()) trivial
  (fun i s hi _ => ⟨by rw [hs i hi]; congr 4; simp [waw, List.range_succ], trivial⟩)
  (fun s _ => he)).1
 exact this
theorem waid (ho : wdp o) (hd : wul ds) : F_zs o ds = some (wbg o ds) := by
 unfold F_zs T_zs wbg
 rw [Tr.ev_c, wgx ho hd, Option.bind_some, Tr.ev_t]
 cases hb : wdm o ds with
 | false => rfl
 | true =>
  have hf := wcf.1 hb
  have hc := hf.clients
  rw [Bool.not_true, cond_false, Tr.ev_t, cond_true]
  by_cases hd0 : ds = []
  ·have e : (((ds.length : Nat) : Int) == 0) = true := by rw [hd0]; rfl
   rw [e, cond_true, Tr.ev_c, warw hf, Option.bind_some, Tr.ev_l, if_pos hd0]
  ·have hlp := List.length_pos_iff.2 hd0
   have e : (((ds.length : Nat) : Int) == 0) = false := beq_eq_false_iff_ne.2 (by omega)
   obtain ⟨r1, r2, r3, r4⟩ := wfd ds.length
   have l0 : wbaq ((0 : Int), (((ds.length : Nat) : Int), (o, ds))) (0, []) = some (waw ds.length) := wrb (f := fun v => (wvr ((0 : Int), (((ds.length : Nat) : Int), (o, ds))) v).ev)
    (fun i hi => by
     have r1 := wpz (waw i) (i : Int) (by rw [(wfd i).2.2.1]; omega)
     simp (disch := omega) only [EV, wvr, hi, r1]
     rfl)
    (by simp (disch := omega) only [EV, wvr, Nat.lt_irrefl])
   obtain ⟨y, y1, y2, y3⟩ := wbwj hf ds.length (x := 0) (S := []) (L := waw ds.length) (by omega) hc (by omega) (by decide) (waay _) r1 r2
   have e2 := (bagP y1).list
   rw [y2] at e2
   have y3' : wqt (o, ds) (0, waw ds.length) = some (y : Int) := y3
   rw [e, cond_false, Tr.ev_c, l0, Option.bind_some, Tr.ev_c, y3', Option.bind_some, Tr.ev_c, e2, Option.bind_some, Tr.ev_l, if_neg hd0]
theorem waie (ho : wdp o) (hd : wul ds) : wawd o ds = some ((wbg o ds).2, (wbg o ds).1) := by
 unfold wawd wbhs wbg
 rw [Tr.ev_c, wwm ho hd, Option.bind_some, Tr.ev_t]
 cases hb : wdm o ds with
 | false => rfl
 | true =>
  have hf := wcf.1 hb
  have hc := hf.clients
  rw [Bool.not_true, cond_false, Tr.ev_t, cond_true]
  by_cases hd0 : ds = []
  ·have e : (((ds.length : Nat) : Int) == 0) = true := by rw [hd0]; rfl
   rw [e, cond_true, Tr.ev_c, warx hf, Option.bind_some, Tr.ev_l, if_pos hd0]
  ·have hlp := List.length_pos_iff.2 hd0
   have e : (((ds.length : Nat) : Int) == 0) = false := beq_eq_false_iff_ne.2 (by omega)
   obtain ⟨r1, r2, r3, r4⟩ := wfd ds.length
   have l0 : ∀ k : (List (Int)) × ((List (List (Int))) × (List (Int))), k.2.1 = ds → wann k (0, []) = some (waw ds.length) := fun k hk => wrb (f := fun v => (wos k v).ev)
    (fun i hi => by
     have r1 := wpz (waw i) (i : Int) (by rw [(wfd i).2.2.1]; omega)
     simp (disch := omega) only [EV, wos, hk, hi, r1]
     rfl)
    (by simp (disch := omega) only [EV, wos, hk, Nat.lt_irrefl])
   have e3 := wbwi hf ds.length (S := []) (L := waw ds.length) (by omega) hc (waay _) r1 r2
   rw [e, cond_false, Tr.ev_c, l0 _ rfl, Option.bind_some, Tr.ev_c, e3, Option.bind_some, Tr.ev_l, if_neg hd0]
end
end Go.Proofs.YtnagpmhaddfgmaaGreat
