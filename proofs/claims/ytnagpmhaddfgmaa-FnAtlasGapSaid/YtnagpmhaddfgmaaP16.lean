/-
 Plain laws: the ascent of the prices, round by round; the gap.
-/
import Derived.Test.YtnagpmhaddfgmaaP15
namespace Go.Proofs.Ytnagpmhaddfgmaa
theorem wapg {o : List Int} {ds : List (List Int)} {p : List Int} (hf : Fld o ds) (hp : PI o ds p) {c : Nat} (hc : c < ds.length) (ch : Bool) : ∃ g, IsMin o.length (woe o ds p c) g ∧
  (wic (ds, ((ds.length : Int), (o, ds))) (ch, ((c : Int), p))).ev = some (.inl (ch || decide (0 < g), ((c : Int) + 1, p.set c (p.getD c 0 + g)))) := by
 have hl := hp.len
 have hcl := hf.clients
 have hlen := hf.len
 have hcp : c < p.length := by omega
 have hr := hf.rowLen c hc
 have h1 := hp.val hf hc
 obtain ⟨q, q1, q2, q3⟩ := wzv hf hp
 obtain ⟨⟨nx, b⟩, k1, k2, k3⟩ := wcf (f := fun v => (wgl (ch, ((c : Int), (ds, ((ds.length : Int), ((c : Int), (ds.getD c [], (((ds.getD c []).length : Int), (o, (ds, (p, q)))))))))) v).ev) (n := (ds.getD c []).length) (fun i (a : Int × Int) => (a.1, (a.2, (i : Int))))
  (fun i a => RM i (fun s => p.getD c 0 < at2 ds c s) (at2 ds c) a.1 ∧ RM i (fun s => at2 ds c s ≤ p.getD c 0) (fun s => o.getD s 0 - clm ds p s) a.2)
  (fun a => RM o.length (fun s => p.getD c 0 < at2 ds c s) (at2 ds c) a.1 ∧ RM o.length (fun s => at2 ds c s ≤ p.getD c 0) (fun s => o.getD s 0 - clm ds p s) a.2) (s0 := ((-1 : Int), (-1 : Int))) ⟨RM.zero _ _, RM.zero _ _⟩
  (fun i a hi ⟨m1, m2⟩ => by
   left
   obtain ⟨nx, b⟩ := a
   simp only at m1 m2
   have hio : i < o.length := by omega
   have hiq : i < q.length := by omega
   have h2 := hf.at2 hc hio
   have e3 : (ds.getD c []).getD i 0 = at2 ds c i := rfl
   have e4 := q3 i hio
   have hroom := hp.room i hio
   by_cases hn : p.getD c 0 < at2 ds c i
   ·have hn' : ¬ at2 ds c i ≤ p.getD c 0 := by omega
    have m2' := m2.skip hn'
    by_cases c1 : nx < 0
    ·refine ⟨(at2 ds c i, b), ?_, m1.take hn h2.1 (.inl c1), m2'⟩
     simp (disch := omega) only [EV, wgl, hi, hcp, e3, hn, hn', c1]
     rfl
    ·by_cases c2 : at2 ds c i < nx
     ·refine ⟨(at2 ds c i, b), ?_, m1.take hn h2.1 (.inr c2), m2'⟩
      simp (disch := omega) only [EV, wgl, hi, hcp, e3, hn, hn', c1, c2]
      rfl
     ·refine ⟨(nx, b), ?_, m1.keep c1 c2, m2'⟩
      simp (disch := omega) only [EV, wgl, hi, hcp, e3, hn, hn', c1, c2]
      rfl
   ·have hn' : at2 ds c i ≤ p.getD c 0 := by omega
    have m1' := m1.skip hn
    by_cases c1 : b < 0
    ·refine ⟨(nx, o.getD i 0 - clm ds p i), ?_, m1', m2.take hn' (by show (0 : Int) ≤ o.getD i 0 - clm ds p i; omega) (.inl c1)⟩
     simp (disch := omega) only [EV, wgl, hi, hcp, hiq, e3, e4, hn, hn', c1]
     rfl
    ·by_cases c2 : o.getD i 0 - clm ds p i < b
     ·refine ⟨(nx, o.getD i 0 - clm ds p i), ?_, m1', m2.take hn' (by show (0 : Int) ≤ o.getD i 0 - clm ds p i; omega) (.inr c2)⟩
      simp (disch := omega) only [EV, wgl, hi, hcp, hiq, e3, e4, hn, hn', c1, c2]
      rfl
     ·refine ⟨(nx, b), ?_, m1', m2.keep c1 c2⟩
      simp (disch := omega) only [EV, wgl, hi, hcp, hiq, e3, e4, hn, hn', c1, c2]
      rfl)
  (fun a ha => ⟨a, by simp only [wgl, Int.lt_irrefl, decide_false, Tr.ev_t, cond_false, Tr.ev_l], by rw [← hr]; exact ha⟩)
 have k1' : waqi (ch, ((c : Int), (ds, ((ds.length : Int), ((c : Int), (ds.getD c [], (((ds.getD c []).length : Int), (o, (ds, (p, q)))))))))) ((-1 : Int), ((-1 : Int), (0 : Int))) = some (nx, b) := k1
 simp only at k2 k3
 -- some site is near
 have hb : 0 ≤ b ∧ (∀ s, s < o.length → at2 ds c s ≤ p.getD c 0 → b ≤ o.getD s 0 - clm ds p s) ∧ ∃ s, s < o.length ∧ at2 ds c s ≤ p.getD c 0 ∧ b = o.getD s 0 - clm ds p s := by
  rcases k3 with ⟨_, h⟩ | h
  ·obtain ⟨s, a1, a2⟩ := hp.near c hc
   exact absurd a2 (h s a1)
  ·exact h
 obtain ⟨b0, b1, s, b2, b3, b4⟩ := hb
 have b5 := hf.cost s b2
 have b6 : 0 ≤ clm ds p s := (wfa (ds := ds) (p := p) (s := s) ds.length).1
 by_cases hnx : 0 ≤ nx
 ·obtain ⟨a0, a1, t, a2, a3, a4⟩ : 0 ≤ nx ∧ (∀ s, s < o.length → p.getD c 0 < at2 ds c s → nx ≤ at2 ds c s) ∧ ∃ s, s < o.length ∧ p.getD c 0 < at2 ds c s ∧ nx = at2 ds c s := by
   rcases k2 with ⟨h, _⟩ | h
   ·omega
   ·exact h
  by_cases hlt : nx < p.getD c 0 + b
  ·refine ⟨nx - p.getD c 0, ⟨fun u hu => ?_, t, a2, ?_⟩, ?_⟩
   ·unfold woe
    split
    next h => have := b1 u hu h; omega
    next h => have := a1 u hu (by omega); omega
   ·unfold woe
    rw [if_neg (by omega), a4]
   ·have e1 : p.getD c 0 + (nx - p.getD c 0) = nx := by omega
    have e2 : decide (0 < nx - p.getD c 0) = decide (p.getD c 0 < nx) := by
     rw [Bool.eq_iff_iff, decide_eq_true_eq, decide_eq_true_eq]; omega
    rw [e1, e2]
    simp (disch := omega) only [EV, wic, hc, q1, k1', hcp, hnx, hlt]
    cases ch <;> rfl
  ·refine ⟨b, ⟨fun u hu => ?_, s, b2, ?_⟩, ?_⟩
   ·unfold woe
    split
    next h => exact b1 u hu h
    next h => have := a1 u hu (by omega); omega
   ·unfold woe
    rw [if_pos b3, b4]
   ·have e2 : decide (0 < b) = decide (p.getD c 0 < p.getD c 0 + b) := by
     rw [Bool.eq_iff_iff, decide_eq_true_eq, decide_eq_true_eq]; omega
    rw [e2]
    simp (disch := omega) only [EV, wic, hc, q1, k1', hcp, hnx, hlt]
    cases ch <;> rfl
 ·refine ⟨b, ⟨fun u hu => ?_, s, b2, ?_⟩, ?_⟩
  ·unfold woe
   split
   next h => exact b1 u hu h
   next h =>
    rcases k2 with ⟨_, h2⟩ | ⟨h2, _⟩
    ·exact absurd (by omega) (h2 u hu)
    ·exact absurd h2 hnx
  ·unfold woe
   rw [if_pos b3, b4]
  ·have e2 : decide (0 < b) = decide (p.getD c 0 < p.getD c 0 + b) := by
    rw [Bool.eq_iff_iff, decide_eq_true_eq, decide_eq_true_eq]; omega
   rw [e2]
   simp (disch := omega) only [EV, wic, hc, q1, k1', hcp, hnx]
   cases ch <;> rfl
theorem waph {p : List Int} {c : Nat} (hc : c < p.length) : p.set c (p.getD c 0) = p := by
 rw [List.getD_eq_getElem?_getD, List.getElem?_eq_getElem hc, Option.getD_some, List.set_getElem_self]
theorem wacf {o : List Int} {ds : List (List Int)} {p : List Int} (hf : Fld o ds) (hp : PI o ds p) {c : Nat} (hc : c < ds.length) (ch : Bool) : ∃ ch' p', PI o ds p' ∧ wdw p ds.length ≤ wdw p' ds.length ∧ (ch' = true → ch = true ∨ wdw p ds.length < wdw p' ds.length) ∧
  (wic (ds, ((ds.length : Int), (o, ds))) (ch, ((c : Int), p))).ev = some (.inl (ch', ((c : Int) + 1, p'))) ∧
  (wgw (o, ds) (ch, ((c : Int), p))).ev = some (.inl (ch', ((c : Int) + 1, p'))) := by
 have hl := hp.len
 have hcl := hf.clients
 have hcp : c < p.length := by omega
 have h1 := hp.val hf hc
 obtain ⟨g, g1, g2⟩ := wapg hf hp hc ch
 obtain ⟨g', g3, g4⟩ := wajr hf hp hc
 obtain rfl := g1.uniq g4
 obtain ⟨h0, hs⟩ := hp.step hc g1
 have h2 := hs.val hf hc
 rw [wgi p hcp, if_pos rfl] at h2
 have hps := wzu hcp (p.getD c 0 + g) ds.length
 rw [if_pos hc] at hps
 refine ⟨ch || decide (0 < g), _, hs, by omega, fun h => ?_, g2, ?_⟩
 ·simp only [Bool.or_eq_true, decide_eq_true_eq] at h
  rcases h with h | h
  ·exact .inl h
  ·exact .inr (by omega)
 ·by_cases hg : 0 < g
  ·simp (disch := omega) only [EV, wgw, hcp, g3, hg]
   rw [Bool.or_true]
  ·have hg0 : g = 0 := by omega
   subst hg0
   rw [Int.add_zero, waph hcp]
   simp (disch := omega) only [EV, wgw, hcp, g3, hg]
   rw [Bool.or_false]
theorem wpq {o : List Int} {ds : List (List Int)} (hf : Fld o ds) : ∀ (k i : Nat) (ch : Bool) (p : List Int), i + k = ds.length → PI o ds p → ∃ ch' p', PI o ds p' ∧ wdw p ds.length ≤ wdw p' ds.length ∧ (ch' = true → ch = true ∨ wdw p ds.length < wdw p' ds.length) ∧
  iter (fun v => (wic (ds, ((ds.length : Int), (o, ds))) v).ev) (ch, ((i : Int), p)) = some (ch', p') ∧
  iter (fun v => (wgw (o, ds) v).ev) (ch, ((i : Int), p)) = some (ch', p')
 | 0, i, ch, p, hk, hp => by
  have hl := hp.len
  obtain rfl : i = ds.length := by omega
  refine ⟨ch, p, hp, Int.le_refl _, fun h => .inl h, ?_, ?_⟩
  ·rw [wap]
   simp (disch := omega) only [EV, wic, Nat.lt_irrefl]
  ·rw [wap]
   simp (disch := omega) only [EV, wgw, hl, Nat.lt_irrefl]
 | k + 1, i, ch, p, hk, hp => by
  obtain ⟨c1, p1, q1, q2, q3, q4, q5⟩ := wacf hf hp (show i < ds.length by omega) ch
  obtain ⟨c2, p2, r1, r2, r3, r4, r5⟩ := wpq hf k (i + 1) c1 p1 (by omega) q1
  refine ⟨c2, p2, r1, by omega, fun h => ?_, ?_, ?_⟩
  ·rcases r3 h with h | h
   ·rcases q3 h with h | h
    ·exact .inl h
    ·exact .inr (by omega)
   ·exact .inr (by omega)
  ·rw [wap]
   simp only [q4]
   exact r4
  ·rw [wap]
   simp only [q5]
   exact r5
theorem wwe {o : List Int} {ds : List (List Int)} (hf : Fld o ds) : ∀ (m : Nat) (p : List Int), (1386 - wdw p ds.length).toNat = m → PI o ds p → ∃ r, PI o ds r ∧
  iter (fun v => (wnp (o, ds) v).ev) (true, p) = some r ∧ iter (fun v => (wew (o, ds) v).ev) (true, p) = some r := by
 intro m
 induction m using Nat.strongRecOn with
 | _ m ih =>
  intro p hm hp
  obtain ⟨ch, p', r1, r2, r3, r4, r5⟩ := wpq hf ds.length 0 false p (by omega) hp
  have r4' : waqj (ds, ((ds.length : Int), (o, ds))) (false, ((0 : Int), p)) = some (ch, p') := r4
  have r5' : waht (o, ds) (false, ((0 : Int), p)) = some (ch, p') := r5
  rw [wap, wap (fun v => (wew (o, ds) v).ev)]
  have s1 : (wnp (o, ds) (true, p)).ev = some (.inl (ch, p')) := by simp (disch := omega) only [EV, wnp, r4']
  have s2 : (wew (o, ds) (true, p)).ev = some (.inl (ch, p')) := by simp (disch := omega) only [EV, wew, r5']
  simp only [s1, s2]
  cases ch with
  | true =>
   rcases r3 rfl with h | h
   ·cases h
   ·have hb := wfb r1 hf ds.length (Nat.le_refl _)
    have hb0 := wfb hp hf ds.length (Nat.le_refl _)
    have hcl := hf.clients
    exact ih _ (by omega) p' rfl r1
  | false =>
   rw [wap, wap (fun v => (wew (o, ds) v).ev)]
   have t1 : (wnp (o, ds) (false, p')).ev = some (.inr p') := by simp (disch := omega) only [EV, wnp]
   have t2 : (wew (o, ds) (false, p')).ev = some (.inr p') := by simp (disch := omega) only [EV, wew]
   simp only [t1, t2]
   exact ⟨p', r1, rfl, rfl⟩
theorem waqz {l : List Int} (h0 : 0 < l.length) (hl : (l.length : Int) ≤ 1000000) : ∃ m, wahg l = some m ∧ IsMin l.length (fun i => l.getD i 0) m := by
 obtain ⟨r, k1, k2⟩ := wcf (f := fun v => (wjv l v).ev) (n := l.length - 1) (fun i (a : Int) => (a, ((i + 1 : Nat) : Int))) (fun i a => IsMin (i + 1) (fun i => l.getD i 0) a) (fun a => IsMin l.length (fun i => l.getD i 0) a) (s0 := l.getD 0 0)
  ⟨fun s hs => by
    obtain rfl : s = 0 := by omega
    exact Int.le_refl _, 0, by omega, rfl⟩
  (fun i a hi ⟨a1, s, a2, a3⟩ => by
   left
   have hi' : i + 1 < l.length := by omega
   by_cases hx : l.getD (i + 1) 0 < a
   ·refine ⟨l.getD (i + 1) 0, ?_, wde.2 ⟨fun s hs => by have := a1 s hs; simp only at this ⊢; omega, Int.le_refl _⟩, i + 1, by omega, rfl⟩
    simp (disch := omega) only [EV, wjv, hi', hx]
    rfl
   ·refine ⟨a, ?_, wde.2 ⟨a1, by simp only; omega⟩, s, by omega, a3⟩
    simp (disch := omega) only [EV, wjv, hi', hx]
    rfl)
  (fun a ha => ⟨a, by
   have e : l.length - 1 + 1 = l.length := by omega
   rw [e]
   simp (disch := omega) only [EV, wjv, Nat.lt_irrefl], by
   have e : l.length - 1 + 1 = l.length := by omega
   rw [e] at ha
   exact ha⟩)
 have k1' : wahf l (l.getD 0 0, (1 : Int)) = some r := k1
 refine ⟨r, ?_, k2⟩
 unfold wahg wayj
 have e1 : ¬ (l.length : Int) < 1 := by omega
 have e2 : (0 : Int) < (l.length : Int) := by omega
 have z : Int.toNat (0 : Int) = 0 := rfl
 simp (disch := omega) only [EV, e1, e2, z, k1']
theorem wzw {o : List Int} {ds : List (List Int)} (hf : Fld o ds) {c : Nat} (hc : c < ds.length) (a : List Int) : ∃ m, wahs ((c : Int), (o, (ds, a))) ((ds.getD c []).getD 0 0, (0 : Int)) = some m ∧ IsMin o.length (at2 ds c) m := by
 have hr := hf.rowLen c hc
 have hlen := hf.len
 have hpos := hf.pos
 obtain ⟨r, k1, k2⟩ := wcf (f := fun v => (wnr ((c : Int), (o, (ds, a))) v).ev) (n := o.length) (fun i (a : Int) => (a, (i : Int))) (fun i a => (∀ s, s < i → a ≤ at2 ds c s) ∧ ∃ s, s < o.length ∧ a = at2 ds c s) (fun a => IsMin o.length (at2 ds c) a) (s0 := at2 ds c 0)
  ⟨fun s hs => absurd hs (by omega), 0, by omega, rfl⟩
  (fun i m hi ⟨a1, s, a2, a3⟩ => by
   left
   have e3 : (ds.getD c []).getD i 0 = at2 ds c i := rfl
   refine ⟨min m (at2 ds c i), ?_, wde.2 ⟨fun s hs => by have := a1 s hs; omega, by omega⟩, ?_⟩
   ·simp (disch := omega) only [EV, wnr, hi, hc, hr, e3, wgf]
    rfl
   ·by_cases h : m ≤ at2 ds c i
    ·exact ⟨s, a2, by omega⟩
    ·exact ⟨i, hi, by omega⟩)
  (fun a ha => ⟨a, by simp (disch := omega) only [EV, wnr, Nat.lt_irrefl], ha⟩)
 exact ⟨r, k1, k2⟩
theorem wacg {o : List Int} {ds : List (List Int)} (hf : Fld o ds) : ∃ p, PI o ds p ∧ wvs (o, ds) ((0 : Int), []) = some p ∧ wahk (ds, ((ds.length : Int), (o, ds))) ((0 : Int), []) = some p := by
 have hlen := hf.len
 have hpos := hf.pos
 have hcl := hf.clients
 have hex : ∀ c : Nat, ∃ m, c < ds.length → IsMin o.length (at2 ds c) m := fun c => by
  by_cases hc : c < ds.length
  ·obtain ⟨m, _, h⟩ := wzw hf hc []
   exact ⟨m, fun _ => h⟩
  ·exact ⟨0, fun h => absurd h hc⟩
 have hg := fun c => Classical.choose_spec (hex c)
 generalize hgd : (fun c => Classical.choose (hex c)) = g
 have hg' : ∀ c, c < ds.length → IsMin o.length (at2 ds c) (g c) := fun c hc => by
  rw [← hgd]
  exact hg c hc
 have e1 : wvs (o, ds) ((0 : Int), []) = _ := wlh (f := fun v => (wns (o, ds) v).ev) (n := ds.length) (fun i l => ((i : Int), l)) g (fun l => l) (fun i l hi hll => by
  have hr := hf.rowLen i hi
  obtain ⟨m, m1, m2⟩ := wzw hf hi l
  obtain rfl := m2.uniq (hg' i hi)
  have z : Int.toNat (0 : Int) = 0 := rfl
  have hz : (0 : Int) < ((ds.getD i []).length : Int) := by omega
  have hs : (l.length + List.length ([g i] : List Int)) * 8 ≤ 140737488355328 := by simp only [List.length_cons, List.length_nil]; omega
  simp (disch := omega) only [EV, wns, hi, z, hz, m1, hs]
  rfl) (fun l _ => by simp (disch := omega) only [EV, wns, Nat.lt_irrefl])
 have e2 : wahk (ds, ((ds.length : Int), (o, ds))) ((0 : Int), []) = _ := wlh (f := fun v => (wti (ds, ((ds.length : Int), (o, ds))) v).ev) (n := ds.length) (fun i l => ((i : Int), l)) g (fun l => l) (fun i l hi hll => by
  have hr := hf.rowLen i hi
  obtain ⟨m, m1, m2⟩ := waqz (l := ds.getD i []) (by omega) (by omega)
  rw [hr] at m2
  obtain rfl := (show IsMin o.length (at2 ds i) m from m2).uniq (hg' i hi)
  have hs : (l.length + List.length ([g i] : List Int)) * 8 ≤ 140737488355328 := by simp only [List.length_cons, List.length_nil]; omega
  simp (disch := omega) only [EV, wti, hi, m1, hs]
  rfl) (fun l _ => by simp (disch := omega) only [EV, wti, Nat.lt_irrefl])
 have hget : ∀ c, c < ds.length → ((List.range ds.length).map g).getD c 0 = g c := fun c hc => by
  rw [List.getD_eq_getElem?_getD, List.getElem?_map, List.getElem?_range hc]; rfl
 refine ⟨(List.range ds.length).map g, ⟨by simp, fun c hc => ?_, fun s hs => ?_⟩, e1, e2⟩
 ·obtain ⟨_, s, a, b⟩ := hg' c hc
  exact ⟨s, a, by rw [hget c hc, b]; exact Int.le_refl _⟩
 ·have hz : ∀ k, k ≤ ds.length → wfe ds ((List.range ds.length).map g) s k = 0 := by
   intro k
   induction k with
   | zero => intro _; rfl
   | succ k ih =>
    intro hk
    have := (hg' k (by omega)).1 s hs
    rw [wfe, ih (by omega), hget k (by omega), (woc _).2.2 (by omega)]
    rfl
  unfold clm
  rw [hz _ (Nat.le_refl _)]
  exact (hf.cost s hs).1
theorem wwf {o : List Int} {ds : List (List Int)} (ho : wcd o) (hd : wrp ds) (hf : Fld o ds) : ∃ p, PI o ds p ∧ wahv o ds = some p ∧ F_za o ds = some (true, p) := by
 obtain ⟨p, p1, p2, p3⟩ := wacg hf
 obtain ⟨r, r1, r2, r3⟩ := wwe hf _ p rfl p1
 have r2' : waqk (o, ds) (true, p) = some r := r2
 have r3' : wahu (o, ds) (true, p) = some r := r3
 refine ⟨r, r1, ?_, ?_⟩
 ·unfold wahv wayz
  simp (disch := omega) only [EV, p2, r3']
 ·unfold F_za T_za
  simp (disch := omega) only [EV, wgg ho hd, wdj.2 hf, p3, r2']
theorem wapi {o : List Int} {ds : List (List Int)} {p : List Int} (hf : Fld o ds) (hp : PI o ds p) : wany p = some (wdw p p.length) := by
 have hl := hp.len
 have hcl := hf.clients
 obtain ⟨r, h1, h2⟩ := wcf (f := fun v => (wnt p v).ev) (n := p.length) (fun i (a : Int) => (a, (i : Int))) (fun i a => a = wdw p i) (fun r => r = wdw p p.length) (s0 := 0) rfl
  (fun i a hi ha => by
   subst ha
   left
   have h3 := wfb hp hf i (by omega)
   have h4 := hp.val hf (show i < ds.length by omega)
   refine ⟨_, ?_, rfl⟩
   simp (disch := omega) only [EV, wnt, hi]
   rfl)
  (fun a ha => ⟨a, by simp (disch := omega) only [EV, wnt, Nat.lt_irrefl], ha⟩)
 subst h2
 have h1' : wahw p ((0 : Int), (0 : Int)) = some (wdw p p.length) := h1
 unfold wany wazb
 simp (disch := omega) only [EV, h1']
theorem wajt {o : List Int} {ds : List (List Int)} {p : List Int} (hf : Fld o ds) (hp : PI o ds p) : F_zz p = some (wdw p p.length) := by
 have hl := hp.len
 have hcl := hf.clients
 obtain ⟨r, h1, h2⟩ := wcf (f := fun v => (wkr (p, (p.length : Int)) v).ev) (n := p.length) (fun i (a : Int) => (a, (i : Int))) (fun i a => a = wdw p i) (fun r => r = wdw p p.length) (s0 := 0) rfl
  (fun i a hi ha => by
   subst ha
   left
   have h3 := wfb hp hf i (by omega)
   have h4 := hp.val hf (show i < ds.length by omega)
   refine ⟨_, ?_, rfl⟩
   simp (disch := omega) only [EV, wkr, hi]
   rfl)
  (fun a ha => ⟨a, by simp (disch := omega) only [EV, wkr, Nat.lt_irrefl], ha⟩)
 subst h2
 have h1' : wahd (p, (p.length : Int)) ((0 : Int), (0 : Int)) = some (wdw p p.length) := h1
 unfold F_zz T_zz
 simp (disch := omega) only [EV, h1']
end Go.Proofs.Ytnagpmhaddfgmaa
