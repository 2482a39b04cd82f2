/-
 Plain laws: the ascent of the prices.
-/
import Derived.Test.YtnagpmhaddfgmaaP8
namespace Go.Proofs.Ytnagpmhaddfgmaa
theorem wde {P : Nat → Prop} {i : Nat} : (∀ s, s < i + 1 → P s) ↔ (∀ s, s < i → P s) ∧ P i := by
 refine ⟨fun h => ⟨fun s hs => h s (by omega), h i (by omega)⟩, fun ⟨h1, h2⟩ s hs => ?_⟩
 rcases Nat.lt_or_ge s i with h | h
 ·exact h1 s h
 ·obtain rfl : s = i := by omega
  exact h2
def IsMin (n : Nat) (f : Nat → Int) (g : Int) : Prop := (∀ s, s < n → g ≤ f s) ∧ ∃ s, s < n ∧ g = f s
theorem IsMin.uniq {n : Nat} {f : Nat → Int} {g h : Int} (a : IsMin n f g) (b : IsMin n f h) : g = h := by
 obtain ⟨a1, s, a2, a3⟩ := a
 obtain ⟨b1, t, b2, b3⟩ := b
 have := a1 t b2
 have := b1 s a2
 omega
def RM (i : Nat) (sel : Nat → Prop) (f : Nat → Int) (m : Int) : Prop :=
 (m = -1 ∧ ∀ s, s < i → ¬ sel s) ∨ (0 ≤ m ∧ (∀ s, s < i → sel s → m ≤ f s) ∧ ∃ s, s < i ∧ sel s ∧ m = f s)
theorem RM.zero (sel : Nat → Prop) (f : Nat → Int) : RM 0 sel f (-1) := .inl ⟨rfl, fun s hs => absurd hs (by omega)⟩
theorem RM.skip {i : Nat} {sel : Nat → Prop} {f : Nat → Int} {m : Int} (hn : ¬ sel i) : RM i sel f m → RM (i + 1) sel f m
 | .inl ⟨a, b⟩ => .inl ⟨a, wde.2 ⟨b, hn⟩⟩
 | .inr ⟨a, b, s, c, d⟩ => .inr ⟨a, wde.2 ⟨b, fun h => absurd h hn⟩, s, by omega, d⟩
theorem RM.take {i : Nat} {sel : Nat → Prop} {f : Nat → Int} {m : Int} (hs : sel i) (h0 : 0 ≤ f i) (hm : m < 0 ∨ f i < m) : RM i sel f m → RM (i + 1) sel f (f i)
 | .inl ⟨_, b⟩ => .inr ⟨h0, wde.2 ⟨fun s h k => absurd k (b s h), fun _ => Int.le_refl _⟩, i, by omega, hs, rfl⟩
 | .inr ⟨a, b, _⟩ => .inr ⟨h0, wde.2 ⟨fun s h k => by have := b s h k; omega, fun _ => Int.le_refl _⟩, i, by omega, hs, rfl⟩
theorem RM.keep {i : Nat} {sel : Nat → Prop} {f : Nat → Int} {m : Int} (h0 : ¬ m < 0) (hm : ¬ f i < m) : RM i sel f m → RM (i + 1) sel f m
 | .inl ⟨a, _⟩ => by omega
 | .inr ⟨a, b, s, c, d⟩ => .inr ⟨a, wde.2 ⟨b, fun _ => by omega⟩, s, by omega, d⟩
def pos (x : Int) : Int := if 0 < x then x else 0
theorem woc (x : Int) : 0 ≤ pos x ∧ (0 ≤ x → pos x = x) ∧ (x ≤ 0 → pos x = 0) := by unfold pos; split <;> refine ⟨by omega, by omega, by omega⟩
theorem wbce (x : Int) : max 0 x = pos x := by unfold pos; split <;> omega
def wfe (ds : List (List Int)) (p : List Int) (s : Nat) : Nat → Int
 | 0 => 0
 | k + 1 => wfe ds p s k + pos (p.getD k 0 - at2 ds k s)
def clm (ds : List (List Int)) (p : List Int) (s : Nat) : Int := wfe ds p s ds.length
def wdw (p : List Int) : Nat → Int
 | 0 => 0
 | k + 1 => wdw p k + p.getD k 0
theorem wgi (l : List Int) {i : Nat} (hi : i < l.length) (j : Nat) (v : Int) : (l.set i v).getD j 0 = if i = j then v else l.getD j 0 := by
 rw [List.getD_eq_getElem?_getD, List.getD_eq_getElem?_getD, List.getElem?_set]
 by_cases h : i = j
 ·subst h; simp [hi]
 ·simp [h]
theorem wzt {ds : List (List Int)} {p : List Int} {c : Nat} (hc : c < p.length) (n : Int) (s : Nat) : ∀ k, wfe ds (p.set c n) s k = wfe ds p s k + if c < k then pos (n - at2 ds c s) - pos (p.getD c 0 - at2 ds c s) else 0
 | 0 => by simp [wfe]
 | k + 1 => by
  rw [wfe, wfe, wzt hc n s k, wgi p hc]
  by_cases h1 : c = k
  ·subst h1
   rw [if_pos rfl, if_neg (by omega), if_pos (by omega)]
   omega
  ·rw [if_neg h1]
   by_cases h2 : c < k
   ·rw [if_pos h2, if_pos (by omega)]; omega
   ·rw [if_neg h2, if_neg (by omega)]; omega
theorem wfa {ds : List (List Int)} {p : List Int} {s : Nat} : ∀ k, 0 ≤ wfe ds p s k ∧ ∀ c, c < k → pos (p.getD c 0 - at2 ds c s) ≤ wfe ds p s k
 | 0 => ⟨by simp [wfe], fun c h => absurd h (by omega)⟩
 | k + 1 => by
  obtain ⟨h1, h2⟩ := wfa (ds := ds) (p := p) (s := s) k
  have h3 := (woc (p.getD k 0 - at2 ds k s)).1
  refine ⟨by rw [wfe]; omega, wde.2 ⟨fun c hc => by have := h2 c hc; rw [wfe]; omega, by rw [wfe]; omega⟩⟩
theorem wzu {p : List Int} {c : Nat} (hc : c < p.length) (n : Int) : ∀ k, wdw (p.set c n) k = wdw p k + if c < k then n - p.getD c 0 else 0
 | 0 => by simp [wdw]
 | k + 1 => by
  rw [wdw, wdw, wzu hc n k, wgi p hc]
  by_cases h1 : c = k
  ·subst h1
   rw [if_pos rfl, if_neg (by omega), if_pos (by omega)]
   omega
  ·rw [if_neg h1]
   by_cases h2 : c < k
   ·rw [if_pos h2, if_pos (by omega)]; omega
   ·rw [if_neg h2, if_neg (by omega)]; omega
structure PI (o : List Int) (ds : List (List Int)) (p : List Int) : Prop where
 len : p.length = ds.length
 near : ∀ c, c < ds.length → ∃ s, s < o.length ∧ at2 ds c s ≤ p.getD c 0
 room : ∀ s, s < o.length → clm ds p s ≤ o.getD s 0
theorem PI.val {o : List Int} {ds : List (List Int)} {p : List Int} (h : PI o ds p) (hf : Fld o ds) {c : Nat} (hc : c < ds.length) : 0 ≤ p.getD c 0 ∧ p.getD c 0 ≤ 198 := by
 obtain ⟨s, h1, h2⟩ := h.near c hc
 have h3 := hf.at2 hc h1
 have h4 := h.room s h1
 have h5 := hf.cost s h1
 have h6 := (wfa (ds := ds) (p := p) (s := s) ds.length).2 c hc
 have h7 := (woc (p.getD c 0 - at2 ds c s)).2.1 (by omega)
 unfold clm at h4
 omega
theorem whf {o : List Int} {ds : List (List Int)} {p : List Int} (h : PI o ds p) (hf : Fld o ds) {s : Nat} (hs : s < o.length) : ∀ k, k ≤ ds.length → wfe ds p s k ≤ 198 * k
 | 0, _ => by simp [wfe]
 | k + 1, hk => by
  have h1 := whf h hf hs k (by omega)
  have h2 := h.val hf (show k < ds.length by omega)
  have h3 := hf.at2 (show k < ds.length by omega) hs
  have h4 : pos (p.getD k 0 - at2 ds k s) ≤ 198 := by
   have := woc (p.getD k 0 - at2 ds k s)
   by_cases hx : 0 ≤ p.getD k 0 - at2 ds k s
   ·have := this.2.1 hx; omega
   ·have := this.2.2 (by omega); omega
  rw [wfe]
  omega
theorem wfb {o : List Int} {ds : List (List Int)} {p : List Int} (h : PI o ds p) (hf : Fld o ds) : ∀ k, k ≤ ds.length → 0 ≤ wdw p k ∧ wdw p k ≤ 198 * k
 | 0, _ => by simp [wdw]
 | k + 1, hk => by
  have h1 := wfb h hf k (by omega)
  have h2 := h.val hf (show k < ds.length by omega)
  rw [wdw]
  omega
def woe (o : List Int) (ds : List (List Int)) (p : List Int) (c s : Nat) : Int := if at2 ds c s ≤ p.getD c 0 then o.getD s 0 - clm ds p s else at2 ds c s - p.getD c 0
theorem wajq {o : List Int} {ds : List (List Int)} {p : List Int} (h : PI o ds p) {c s : Nat} (hs : s < o.length) : 0 ≤ woe o ds p c s := by
 have := h.room s hs
 unfold woe
 split <;> omega
theorem PI.step {o : List Int} {ds : List (List Int)} {p : List Int} (h : PI o ds p) {c : Nat} (hc : c < ds.length) {g : Int} (hg : IsMin o.length (woe o ds p c) g) : 0 ≤ g ∧ PI o ds (p.set c (p.getD c 0 + g)) := by
 have hcp : c < p.length := by rw [h.len]; exact hc
 have h0 : 0 ≤ g := by
  obtain ⟨_, s, h1, h2⟩ := hg
  rw [h2]
  exact wajq h h1
 refine ⟨h0, by rw [List.length_set]; exact h.len, fun c' hc' => ?_, fun s hs => ?_⟩
 ·obtain ⟨s, h1, h2⟩ := h.near c' hc'
  refine ⟨s, h1, ?_⟩
  rw [wgi p hcp]
  split
  next he => subst he; omega
  next => exact h2
 ·have h1 := hg.1 s hs
  have h2 := h.room s hs
  unfold clm at h2 ⊢
  rw [wzt hcp, if_pos hc]
  have h3 := woc (p.getD c 0 - at2 ds c s)
  have h4 := woc (p.getD c 0 + g - at2 ds c s)
  unfold woe clm at h1
  split at h1
  ·have := h3.2.1 (by omega)
   have := h4.2.1 (by omega)
   omega
  ·have := h3.2.2 (by omega)
   have := h4.2.2 (by omega)
   omega
theorem wkh {o : List Int} {ds : List (List Int)} {p : List Int} (hf : Fld o ds) (hp : PI o ds p) {s : Nat} (hs : s < o.length) : wanw o ds p (s : Int) 1 = some (clm ds p s) := by
 have hl := hp.len
 have hcl := hf.clients
 have key : wahq (p, ((s : Int), ((1 : Int), (o, ds)))) ((0 : Int), (0 : Int)) = some (wfe ds p s p.length) := by
  obtain ⟨r, h1, h2⟩ := wcf (f := fun v => (wnq (p, ((s : Int), ((1 : Int), (o, ds)))) v).ev) (n := p.length) (fun i (a : Int) => (a, (i : Int))) (fun i a => a = wfe ds p s i) (fun r => r = wfe ds p s p.length) (s0 := 0) rfl
   (fun i a hi ha => by
    subst ha
    left
    have hi' : i < ds.length := by omega
    have hr := hf.rowLen i hi'
    have h1 := hp.val hf hi'
    have h2 := hf.at2 hi' hs
    have h3 := whf hp hf hs i (by omega)
    have h4 := (wfa (ds := ds) (p := p) (s := s) i).1
    have e3 : (ds.getD i []).getD s 0 = at2 ds i s := rfl
    have h5 := whf hp hf hs (i + 1) (by omega)
    have h6 := (wfa (ds := ds) (p := p) (s := s) (i + 1)).1
    rw [wfe] at h5 h6
    refine ⟨_, ?_, rfl⟩
    simp (disch := omega) only [EV, wnq, hi, hi', hr, hs, e3, wih, Int.one_mul, wbce]
    rfl)
   (fun a ha => ⟨a, by simp (disch := omega) only [EV, wnq, Nat.lt_irrefl], ha⟩)
  exact h1.trans (congrArg some h2)
 unfold wanw wayo clm
 rw [hl] at key
 simp (disch := omega) only [EV, key]
theorem wajr {o : List Int} {ds : List (List Int)} {p : List Int} (hf : Fld o ds) (hp : PI o ds p) {c : Nat} (hc : c < ds.length) : ∃ g, wanx o ds p (c : Int) = some g ∧ IsMin o.length (woe o ds p c) g := by
 have hl := hp.len
 have hcp : c < p.length := by omega
 have hpos := hf.pos
 have hlen := hf.len
 have hr := hf.rowLen c hc
 have h1 := hp.val hf hc
 obtain ⟨r, k1, k2⟩ := wcf (f := fun v => (wec (p, ((c : Int), (p.getD c 0, (o, ds)))) v).ev) (n := o.length) (fun i (a : Int) => (a, (i : Int))) (fun i a => RM i (fun _ => True) (woe o ds p c) a) (fun r => RM o.length (fun _ => True) (woe o ds p c) r) (s0 := -1) (RM.zero _ _)
  (fun i a hi ha => by
   left
   have h2 := hf.at2 hc hi
   have h3 := hf.cost i hi
   have h4 := whf hp hf hi ds.length (Nat.le_refl _)
   have h5 := (wfa (ds := ds) (p := p) (s := i) ds.length).1
   have h6 : clm ds p i = wfe ds p i ds.length := rfl
   have h7 := hf.clients
   have e3 : (ds.getD c []).getD i 0 = at2 ds c i := rfl
   have hg := wajq hp (c := c) hi
   by_cases hn : at2 ds c i ≤ p.getD c 0
   ·have hcd : woe o ds p c i = o.getD i 0 - clm ds p i := by unfold woe; rw [if_pos hn]
    by_cases ha0 : a < 0
    ·refine ⟨woe o ds p c i, ?_, ha.take trivial hg (.inl ha0)⟩
     rw [hcd]
     simp (disch := omega) only [EV, wec, hi, hc, hr, e3, hn, wkh hf hp hi, ha0]
     rfl
    ·by_cases ha1 : o.getD i 0 - clm ds p i < a
     ·refine ⟨woe o ds p c i, ?_, ha.take trivial hg (.inr (by rw [hcd]; exact ha1))⟩
      rw [hcd]
      simp (disch := omega) only [EV, wec, hi, hc, hr, e3, hn, wkh hf hp hi, ha0, ha1]
      rfl
     ·refine ⟨a, ?_, ha.keep ha0 (by rw [hcd]; exact ha1)⟩
      simp (disch := omega) only [EV, wec, hi, hc, hr, e3, hn, wkh hf hp hi, ha0, ha1]
      rfl
   ·have hcd : woe o ds p c i = at2 ds c i - p.getD c 0 := by unfold woe; rw [if_neg hn]
    by_cases ha0 : a < 0
    ·refine ⟨woe o ds p c i, ?_, ha.take trivial hg (.inl ha0)⟩
     rw [hcd]
     simp (disch := omega) only [EV, wec, hi, hc, hr, e3, hn, ha0]
     rfl
    ·by_cases ha1 : at2 ds c i - p.getD c 0 < a
     ·refine ⟨woe o ds p c i, ?_, ha.take trivial hg (.inr (by rw [hcd]; exact ha1))⟩
      rw [hcd]
      simp (disch := omega) only [EV, wec, hi, hc, hr, e3, hn, ha0, ha1]
      rfl
     ·refine ⟨a, ?_, ha.keep ha0 (by rw [hcd]; exact ha1)⟩
      simp (disch := omega) only [EV, wec, hi, hc, hr, e3, hn, ha0, ha1]
      rfl)
  (fun a ha => ⟨a, by simp (disch := omega) only [EV, wec, Nat.lt_irrefl], ha⟩)
 have k1' : wahr (p, ((c : Int), (p.getD c 0, (o, ds)))) ((-1 : Int), (0 : Int)) = some r := k1
 refine ⟨r, ?_, ?_⟩
 ·unfold wanx wayu
  simp (disch := omega) only [EV, hcp, k1']
 ·rcases k2 with ⟨_, h⟩ | ⟨_, h, s, a, _, b⟩
  ·exact absurd trivial (h 0 (by omega))
  ·exact ⟨fun s hs => h s hs trivial, s, a, b⟩
theorem wajs {o : List Int} {ds : List (List Int)} {p : List Int} (hf : Fld o ds) (hp : PI o ds p) : ∃ r, F_ze o ds p 1 = some r ∧ r.length = o.length ∧ ∀ s, s < o.length → r.getD s 0 = clm ds p s := by
 have hl := hp.len
 have hcl := hf.clients
 have hlen := hf.len
 obtain ⟨r, k1, k2⟩ := wcf (f := fun v => (wtg (p, ((1 : Int), (ds, (ds.length : Int)))) v).ev) (n := ds.length) (fun i (a : List Int) => ((i : Int), a)) (fun i a => a.length = o.length ∧ ∀ s, s < o.length → a.getD s 0 = wfe ds p s i) (fun r => r.length = o.length ∧ ∀ s, s < o.length → r.getD s 0 = clm ds p s) (s0 := List.replicate o.length 0)
  ⟨by simp, fun s hs => by rw [List.getD_eq_getElem?_getD, List.getElem?_replicate, if_pos hs]; rfl⟩
  (fun c a hc ⟨ha1, ha2⟩ => by
   left
   have hr := hf.rowLen c hc
   have hcp : c < p.length := by omega
   have h1 := hp.val hf hc
   obtain ⟨b, j1, j2⟩ := wcf (f := fun v => (wtf (p, ((1 : Int), ((c : Int), (ds, ((ds.length : Int), ((c : Int), (ds.getD c [], ((ds.getD c []).length : Int)))))))) v).ev) (n := (ds.getD c []).length) (fun i (a : List Int) => ((i : Int), a)) (fun i a => a.length = o.length ∧ ∀ s, s < o.length → a.getD s 0 = if s < i then wfe ds p s (c + 1) else wfe ds p s c) (fun r => r.length = o.length ∧ ∀ s, s < o.length → r.getD s 0 = wfe ds p s (c + 1)) (s0 := a)
    ⟨ha1, fun s hs => by rw [if_neg (by omega)]; exact ha2 s hs⟩
    (fun i a hi ⟨hb1, hb2⟩ => by
     left
     have hio : i < o.length := by omega
     have hia : i < a.length := by omega
     have h2 := hf.at2 hc hio
     have h3 := whf hp hf hio c (by omega)
     have h4 := (wfa (ds := ds) (p := p) (s := i) c).1
     have h5 := whf hp hf hio (c + 1) (by omega)
     have h6 := (wfa (ds := ds) (p := p) (s := i) (c + 1)).1
     have e3 : (ds.getD c []).getD i 0 = at2 ds c i := rfl
     have e4 : a.getD i 0 = wfe ds p i c := by rw [hb2 i hio, if_neg (by omega)]
     have e5 : (if (0 : Int) < p.getD c 0 - at2 ds c i then p.getD c 0 - at2 ds c i else 0) = pos (p.getD c 0 - at2 ds c i) := rfl
     rw [wfe] at h5 h6
     refine ⟨a.set i (wfe ds p i (c + 1)), ?_, by rw [List.length_set]; exact hb1, fun s hs => ?_⟩
     ·simp (disch := omega) only [EV, wtf, hi, hia, hcp, e3, e4, Int.mul_one, e5]
      rfl
     ·rw [wgi a hia]
      by_cases his : i = s
      ·subst his
       rw [if_pos rfl, if_pos (by omega)]
      ·rw [if_neg his, hb2 s hs]
       by_cases h : s < i
       ·rw [if_pos h, if_pos (by omega)]
       ·rw [if_neg h, if_neg (by omega)])
    (fun a ⟨hb1, hb2⟩ => ⟨a, by simp (disch := omega) only [EV, wtf, Nat.lt_irrefl], hb1, fun s hs => by rw [hb2 s hs, if_pos (by omega)]⟩)
   have j1' : waqf (p, ((1 : Int), ((c : Int), (ds, ((ds.length : Int), ((c : Int), (ds.getD c [], ((ds.getD c []).length : Int)))))))) ((0 : Int), a) = some b := j1
   refine ⟨b, ?_, j2⟩
   simp (disch := omega) only [EV, wtg, hc, j1']
   rfl)
  (fun a ha => ⟨a, by simp (disch := omega) only [EV, wtg, Nat.lt_irrefl], ha⟩)
 have k1' : waqg (p, ((1 : Int), (ds, (ds.length : Int)))) ((0 : Int), List.replicate o.length 0) = some r := k1
 refine ⟨r, ?_, k2⟩
 unfold F_ze T_ze
 have e1 : (0 : Int) ≤ (o.length : Int) := by omega
 have e2 : ((8 : Nat) : Int) * (o.length : Int) ≤ 281474976710656 := by omega
 simp (disch := omega) only [EV, e1, e2, Int.le_refl, k1']
theorem wzv {o : List Int} {ds : List (List Int)} {p : List Int} (hf : Fld o ds) (hp : PI o ds p) : ∃ r, F_zi o ds p = some r ∧ r.length = o.length ∧ ∀ s, s < o.length → r.getD s 0 = o.getD s 0 - clm ds p s := by
 have hlen := hf.len
 have hcl := hf.clients
 obtain ⟨q, q1, q2, q3⟩ := wajs hf hp
 obtain ⟨r, k1, k2⟩ := wcf (f := fun v => (wth ((q.length : Int), (o, ds)) v).ev) (n := q.length) (fun i (a : List Int) => ((i : Int), a)) (fun i a => a.length = o.length ∧ ∀ s, s < o.length → a.getD s 0 = if s < i then o.getD s 0 - clm ds p s else clm ds p s) (fun r => r.length = o.length ∧ ∀ s, s < o.length → r.getD s 0 = o.getD s 0 - clm ds p s) (s0 := q)
  ⟨q2, fun s hs => by rw [if_neg (by omega)]; exact q3 s hs⟩
  (fun i a hi ⟨hb1, hb2⟩ => by
   left
   have hio : i < o.length := by omega
   have hia : i < a.length := by omega
   have h3 := whf hp hf hio ds.length (Nat.le_refl _)
   have h4 := (wfa (ds := ds) (p := p) (s := i) ds.length).1
   have h5 := hf.cost i hio
   have h6 : clm ds p i = wfe ds p i ds.length := rfl
   have e4 : a.getD i 0 = clm ds p i := by rw [hb2 i hio, if_neg (by omega)]
   refine ⟨a.set i (o.getD i 0 - clm ds p i), ?_, by rw [List.length_set]; exact hb1, fun s hs => ?_⟩
   ·simp (disch := omega) only [EV, wth, hi, hia, hio, e4]
    rfl
   ·rw [wgi a hia]
    by_cases his : i = s
    ·subst his
     rw [if_pos rfl, if_pos (by omega)]
    ·rw [if_neg his, hb2 s hs]
     by_cases h : s < i
     ·rw [if_pos h, if_pos (by omega)]
     ·rw [if_neg h, if_neg (by omega)])
  (fun a ⟨hb1, hb2⟩ => ⟨a, by simp (disch := omega) only [EV, wth, Nat.lt_irrefl], hb1, fun s hs => by rw [hb2 s hs, if_pos (by omega)]⟩)
 have k1' : waqh ((q.length : Int), (o, ds)) ((0 : Int), q) = some r := k1
 refine ⟨r, ?_, k2⟩
 unfold F_zi T_zi
 simp (disch := omega) only [EV, q1, k1']
end Go.Proofs.Ytnagpmhaddfgmaa
