/-
  Plain laws: the ascent of the prices, round by round; the gap.
-/
import Derived.Test.YthkafleokepjeaaP15
namespace Go.Proofs.Ythkafleokepjeaa

/-- One price, by the program's way. -/
theorem price_eq {o : List Int} {ds : List (List Int)} {p : List Int} (hf : Fld o ds) (hp : PI o ds p) {c : Nat} (hc : c < ds.length) (ch : Bool) : ∃ g, IsMin o.length (cand o ds p c) g ∧
    (S_im_AscentPrices_4 (ds, ((ds.length : Int), (o, ds))) (ch, ((c : Int), p))).ev = some (.inl (ch || decide (0 < g), ((c : Int) + 1, p.set c (p.getD c 0 + g)))) := by
  have hl := hp.len
  have hcl := hf.clients
  have hlen := hf.len
  have hcp : c < p.length := by omega
  have hr := hf.rowLen c hc
  have h1 := hp.val hf hc
  obtain ⟨q, q1, q2, q3⟩ := rests_eq hf hp
  obtain ⟨⟨nx, b⟩, k1, k2, k3⟩ := iter_inv (f := fun v => (S_im_AscentPrices_6 (ch, ((c : Int), (ds, ((ds.length : Int), ((c : Int), (ds.getD c [], (((ds.getD c []).length : Int), (o, (ds, (p, q)))))))))) v).ev) (n := (ds.getD c []).length) (fun i (a : Int × Int) => (a.1, (a.2, (i : Int))))
    (fun i a => RM i (fun s => p.getD c 0 < at2 ds c s) (at2 ds c) a.1 ∧ RM i (fun s => at2 ds c s ≤ p.getD c 0) (fun s => o.getD s 0 - clm ds p s) a.2)
    (fun a => RM o.length (fun s => p.getD c 0 < at2 ds c s) (at2 ds c) a.1 ∧ RM o.length (fun s => at2 ds c s ≤ p.getD c 0) (fun s => o.getD s 0 - clm ds p s) a.2) (s0 := ((-1 : Int), (-1 : Int))) ⟨RM.zero _ _, RM.zero _ _⟩
    (fun i a hi ⟨m1, m2⟩ => by
      left
      obtain ⟨nx, b⟩ := a
      simp only at m1 m2
      have hio : i < o.length := by omega
      have hiq : i < q.length := by omega
      have h2 := hf.at2 hc hio
      have e3 : (ds.getD c []).getD i 0 = at2 ds c i := rfl
      have e4 := q3 i hio
      have hroom := hp.room i hio
      by_cases hn : p.getD c 0 < at2 ds c i
      · have hn' : ¬ at2 ds c i ≤ p.getD c 0 := by omega
        have m2' := m2.skip hn'
        by_cases c1 : nx < 0
        · refine ⟨(at2 ds c i, b), ?_, m1.take hn h2.1 (.inl c1), m2'⟩
          simp (disch := omega) only [EV, S_im_AscentPrices_6, hi, hcp, e3, hn, hn', c1]
          rfl
        · by_cases c2 : at2 ds c i < nx
          · refine ⟨(at2 ds c i, b), ?_, m1.take hn h2.1 (.inr c2), m2'⟩
            simp (disch := omega) only [EV, S_im_AscentPrices_6, hi, hcp, e3, hn, hn', c1, c2]
            rfl
          · refine ⟨(nx, b), ?_, m1.keep c1 c2, m2'⟩
            simp (disch := omega) only [EV, S_im_AscentPrices_6, hi, hcp, e3, hn, hn', c1, c2]
            rfl
      · have hn' : at2 ds c i ≤ p.getD c 0 := by omega
        have m1' := m1.skip hn
        by_cases c1 : b < 0
        · refine ⟨(nx, o.getD i 0 - clm ds p i), ?_, m1', m2.take hn' (by show (0 : Int) ≤ o.getD i 0 - clm ds p i; omega) (.inl c1)⟩
          simp (disch := omega) only [EV, S_im_AscentPrices_6, hi, hcp, hiq, e3, e4, hn, hn', c1]
          rfl
        · by_cases c2 : o.getD i 0 - clm ds p i < b
          · refine ⟨(nx, o.getD i 0 - clm ds p i), ?_, m1', m2.take hn' (by show (0 : Int) ≤ o.getD i 0 - clm ds p i; omega) (.inr c2)⟩
            simp (disch := omega) only [EV, S_im_AscentPrices_6, hi, hcp, hiq, e3, e4, hn, hn', c1, c2]
            rfl
          · refine ⟨(nx, b), ?_, m1', m2.keep c1 c2⟩
            simp (disch := omega) only [EV, S_im_AscentPrices_6, hi, hcp, hiq, e3, e4, hn, hn', c1, c2]
            rfl)
    (fun a ha => ⟨a, by simp only [S_im_AscentPrices_6, Int.lt_irrefl, decide_false, Tr.ev_t, cond_false, Tr.ev_l], by rw [← hr]; exact ha⟩)
  have k1' : L_im_AscentPrices_6 (ch, ((c : Int), (ds, ((ds.length : Int), ((c : Int), (ds.getD c [], (((ds.getD c []).length : Int), (o, (ds, (p, q)))))))))) ((-1 : Int), ((-1 : Int), (0 : Int))) = some (nx, b) := k1
  simp only at k2 k3
  -- some site is near
  have hb : 0 ≤ b ∧ (∀ s, s < o.length → at2 ds c s ≤ p.getD c 0 → b ≤ o.getD s 0 - clm ds p s) ∧ ∃ s, s < o.length ∧ at2 ds c s ≤ p.getD c 0 ∧ b = o.getD s 0 - clm ds p s := by
    rcases k3 with ⟨_, h⟩ | h
    · obtain ⟨s, a1, a2⟩ := hp.near c hc
      exact absurd a2 (h s a1)
    · exact h
  obtain ⟨b0, b1, s, b2, b3, b4⟩ := hb
  have b5 := hf.cost s b2
  have b6 : 0 ≤ clm ds p s := (clmN_ge (ds := ds) (p := p) (s := s) ds.length).1
  by_cases hnx : 0 ≤ nx
  · obtain ⟨a0, a1, t, a2, a3, a4⟩ : 0 ≤ nx ∧ (∀ s, s < o.length → p.getD c 0 < at2 ds c s → nx ≤ at2 ds c s) ∧ ∃ s, s < o.length ∧ p.getD c 0 < at2 ds c s ∧ nx = at2 ds c s := by
      rcases k2 with ⟨h, _⟩ | h
      · omega
      · exact h
    by_cases hlt : nx < p.getD c 0 + b
    · refine ⟨nx - p.getD c 0, ⟨fun u hu => ?_, t, a2, ?_⟩, ?_⟩
      · unfold cand
        split
        next h => have := b1 u hu h; omega
        next h => have := a1 u hu (by omega); omega
      · unfold cand
        rw [if_neg (by omega), a4]
      · have e1 : p.getD c 0 + (nx - p.getD c 0) = nx := by omega
        have e2 : decide (0 < nx - p.getD c 0) = decide (p.getD c 0 < nx) := by
          rw [Bool.eq_iff_iff, decide_eq_true_eq, decide_eq_true_eq]; omega
        rw [e1, e2]
        simp (disch := omega) only [EV, S_im_AscentPrices_4, hc, q1, k1', hcp, hnx, hlt]
        cases ch <;> rfl
    · refine ⟨b, ⟨fun u hu => ?_, s, b2, ?_⟩, ?_⟩
      · unfold cand
        split
        next h => exact b1 u hu h
        next h => have := a1 u hu (by omega); omega
      · unfold cand
        rw [if_pos b3, b4]
      · have e2 : decide (0 < b) = decide (p.getD c 0 < p.getD c 0 + b) := by
          rw [Bool.eq_iff_iff, decide_eq_true_eq, decide_eq_true_eq]; omega
        rw [e2]
        simp (disch := omega) only [EV, S_im_AscentPrices_4, hc, q1, k1', hcp, hnx, hlt]
        cases ch <;> rfl
  · refine ⟨b, ⟨fun u hu => ?_, s, b2, ?_⟩, ?_⟩
    · unfold cand
      split
      next h => exact b1 u hu h
      next h =>
        rcases k2 with ⟨_, h2⟩ | ⟨h2, _⟩
        · exact absurd (by omega) (h2 u hu)
        · exact absurd h2 hnx
    · unfold cand
      rw [if_pos b3, b4]
    · have e2 : decide (0 < b) = decide (p.getD c 0 < p.getD c 0 + b) := by
        rw [Bool.eq_iff_iff, decide_eq_true_eq, decide_eq_true_eq]; omega
      rw [e2]
      simp (disch := omega) only [EV, S_im_AscentPrices_4, hc, q1, k1', hcp, hnx]
      cases ch <;> rfl

theorem set_same {p : List Int} {c : Nat} (hc : c < p.length) : p.set c (p.getD c 0) = p := by
  rw [List.getD_eq_getElem?_getD, List.getElem?_eq_getElem hc, Option.getD_some, List.set_getElem_self]

/-- One price, by both ways. -/
theorem price_both {o : List Int} {ds : List (List Int)} {p : List Int} (hf : Fld o ds) (hp : PI o ds p) {c : Nat} (hc : c < ds.length) (ch : Bool) : ∃ ch' p', PI o ds p' ∧ psum p ds.length ≤ psum p' ds.length ∧ (ch' = true → ch = true ∨ psum p ds.length < psum p' ds.length) ∧
    (S_im_AscentPrices_4 (ds, ((ds.length : Int), (o, ds))) (ch, ((c : Int), p))).ev = some (.inl (ch', ((c : Int) + 1, p'))) ∧
    (S_sp_l3Ascent_6 (o, ds) (ch, ((c : Int), p))).ev = some (.inl (ch', ((c : Int) + 1, p'))) := by
  have hl := hp.len
  have hcl := hf.clients
  have hcp : c < p.length := by omega
  have h1 := hp.val hf hc
  obtain ⟨g, g1, g2⟩ := price_eq hf hp hc ch
  obtain ⟨g', g3, g4⟩ := l3Next_eq hf hp hc
  obtain rfl := g1.uniq g4
  obtain ⟨h0, hs⟩ := hp.step hc g1
  have h2 := hs.val hf hc
  rw [set_getD p hcp, if_pos rfl] at h2
  have hps := psum_set hcp (p.getD c 0 + g) ds.length
  rw [if_pos hc] at hps
  refine ⟨ch || decide (0 < g), _, hs, by omega, fun h => ?_, g2, ?_⟩
  · simp only [Bool.or_eq_true, decide_eq_true_eq] at h
    rcases h with h | h
    · exact .inl h
    · exact .inr (by omega)
  · by_cases hg : 0 < g
    · simp (disch := omega) only [EV, S_sp_l3Ascent_6, hcp, g3, hg]
      rw [Bool.or_true]
    · have hg0 : g = 0 := by omega
      subst hg0
      rw [Int.add_zero, set_same hcp]
      simp (disch := omega) only [EV, S_sp_l3Ascent_6, hcp, g3, hg]
      rw [Bool.or_false]

/-- One round, by both ways. -/
theorem round_both {o : List Int} {ds : List (List Int)} (hf : Fld o ds) : ∀ (k i : Nat) (ch : Bool) (p : List Int), i + k = ds.length → PI o ds p → ∃ ch' p', PI o ds p' ∧ psum p ds.length ≤ psum p' ds.length ∧ (ch' = true → ch = true ∨ psum p ds.length < psum p' ds.length) ∧
    iter (fun v => (S_im_AscentPrices_4 (ds, ((ds.length : Int), (o, ds))) v).ev) (ch, ((i : Int), p)) = some (ch', p') ∧
    iter (fun v => (S_sp_l3Ascent_6 (o, ds) v).ev) (ch, ((i : Int), p)) = some (ch', p')
  | 0, i, ch, p, hk, hp => by
    have hl := hp.len
    obtain rfl : i = ds.length := by omega
    refine ⟨ch, p, hp, Int.le_refl _, fun h => .inl h, ?_, ?_⟩
    · rw [iter_eq]
      simp (disch := omega) only [EV, S_im_AscentPrices_4, Nat.lt_irrefl]
    · rw [iter_eq]
      simp (disch := omega) only [EV, S_sp_l3Ascent_6, hl, Nat.lt_irrefl]
  | k + 1, i, ch, p, hk, hp => by
    obtain ⟨c1, p1, q1, q2, q3, q4, q5⟩ := price_both hf hp (show i < ds.length by omega) ch
    obtain ⟨c2, p2, r1, r2, r3, r4, r5⟩ := round_both hf k (i + 1) c1 p1 (by omega) q1
    refine ⟨c2, p2, r1, by omega, fun h => ?_, ?_, ?_⟩
    · rcases r3 h with h | h
      · rcases q3 h with h | h
        · exact .inl h
        · exact .inr (by omega)
      · exact .inr (by omega)
    · rw [iter_eq]
      simp only [q4]
      exact r4
    · rw [iter_eq]
      simp only [q5]
      exact r5

/-- All rounds, by both ways. -/
theorem rounds_both {o : List Int} {ds : List (List Int)} (hf : Fld o ds) : ∀ (m : Nat) (p : List Int), (1386 - psum p ds.length).toNat = m → PI o ds p → ∃ r, PI o ds r ∧
    iter (fun v => (S_im_AscentPrices_2 (o, ds) v).ev) (true, p) = some r ∧ iter (fun v => (S_sp_l3Ascent_4 (o, ds) v).ev) (true, p) = some r := by
  intro m
  induction m using Nat.strongRecOn with
  | _ m ih =>
    intro p hm hp
    obtain ⟨ch, p', r1, r2, r3, r4, r5⟩ := round_both hf ds.length 0 false p (by omega) hp
    have r4' : L_im_AscentPrices_4 (ds, ((ds.length : Int), (o, ds))) (false, ((0 : Int), p)) = some (ch, p') := r4
    have r5' : L_sp_l3Ascent_6 (o, ds) (false, ((0 : Int), p)) = some (ch, p') := r5
    rw [iter_eq, iter_eq (fun v => (S_sp_l3Ascent_4 (o, ds) v).ev)]
    have s1 : (S_im_AscentPrices_2 (o, ds) (true, p)).ev = some (.inl (ch, p')) := by simp (disch := omega) only [EV, S_im_AscentPrices_2, r4']
    have s2 : (S_sp_l3Ascent_4 (o, ds) (true, p)).ev = some (.inl (ch, p')) := by simp (disch := omega) only [EV, S_sp_l3Ascent_4, r5']
    simp only [s1, s2]
    cases ch with
    | true =>
      rcases r3 rfl with h | h
      · cases h
      · have hb := psum_le r1 hf ds.length (Nat.le_refl _)
        have hb0 := psum_le hp hf ds.length (Nat.le_refl _)
        have hcl := hf.clients
        exact ih _ (by omega) p' rfl r1
    | false =>
      rw [iter_eq, iter_eq (fun v => (S_sp_l3Ascent_4 (o, ds) v).ev)]
      have t1 : (S_im_AscentPrices_2 (o, ds) (false, p')).ev = some (.inr p') := by simp (disch := omega) only [EV, S_im_AscentPrices_2]
      have t2 : (S_sp_l3Ascent_4 (o, ds) (false, p')).ev = some (.inr p') := by simp (disch := omega) only [EV, S_sp_l3Ascent_4]
      simp only [t1, t2]
      exact ⟨p', r1, rfl, rfl⟩

/-! ### The first prices -/
theorem Min_eq {l : List Int} (h0 : 0 < l.length) (hl : (l.length : Int) ≤ 1000000) : ∃ m, F_slices_Min_Sint_int l = some m ∧ IsMin l.length (fun i => l.getD i 0) m := by
  obtain ⟨r, k1, k2⟩ := iter_inv (f := fun v => (S_slices_Min_Sint_int_0 l v).ev) (n := l.length - 1) (fun i (a : Int) => (a, ((i + 1 : Nat) : Int))) (fun i a => IsMin (i + 1) (fun i => l.getD i 0) a) (fun a => IsMin l.length (fun i => l.getD i 0) a) (s0 := l.getD 0 0)
    ⟨fun s hs => by obtain rfl : s = 0 := by omega
                    exact Int.le_refl _, 0, by omega, rfl⟩
    (fun i a hi ⟨a1, s, a2, a3⟩ => by
      left
      have hi' : i + 1 < l.length := by omega
      by_cases hx : l.getD (i + 1) 0 < a
      · refine ⟨l.getD (i + 1) 0, ?_, all_succ.2 ⟨fun s hs => by have := a1 s hs; simp only at this ⊢; omega, Int.le_refl _⟩, i + 1, by omega, rfl⟩
        simp (disch := omega) only [EV, S_slices_Min_Sint_int_0, hi', hx]
        rfl
      · refine ⟨a, ?_, all_succ.2 ⟨a1, by simp only; omega⟩, s, by omega, a3⟩
        simp (disch := omega) only [EV, S_slices_Min_Sint_int_0, hi', hx]
        rfl)
    (fun a ha => ⟨a, by
      have e : l.length - 1 + 1 = l.length := by omega
      rw [e]
      simp (disch := omega) only [EV, S_slices_Min_Sint_int_0, Nat.lt_irrefl], by
      have e : l.length - 1 + 1 = l.length := by omega
      rw [e] at ha
      exact ha⟩)
  have k1' : L_slices_Min_Sint_int_0 l (l.getD 0 0, (1 : Int)) = some r := k1
  refine ⟨r, ?_, k2⟩
  unfold F_slices_Min_Sint_int T_slices_Min_Sint_int
  have e1 : ¬ (l.length : Int) < 1 := by omega
  have e2 : (0 : Int) < (l.length : Int) := by omega
  have z : Int.toNat (0 : Int) = 0 := rfl
  simp (disch := omega) only [EV, e1, e2, z, k1']
theorem least_eq {o : List Int} {ds : List (List Int)} (hf : Fld o ds) {c : Nat} (hc : c < ds.length) (a : List Int) : ∃ m, L_sp_l3Ascent_2 ((c : Int), (o, (ds, a))) ((ds.getD c []).getD 0 0, (0 : Int)) = some m ∧ IsMin o.length (at2 ds c) m := by
  have hr := hf.rowLen c hc
  have hlen := hf.len
  have hpos := hf.pos
  obtain ⟨r, k1, k2⟩ := iter_inv (f := fun v => (S_sp_l3Ascent_2 ((c : Int), (o, (ds, a))) v).ev) (n := o.length) (fun i (a : Int) => (a, (i : Int))) (fun i a => (∀ s, s < i → a ≤ at2 ds c s) ∧ ∃ s, s < o.length ∧ a = at2 ds c s) (fun a => IsMin o.length (at2 ds c) a) (s0 := at2 ds c 0)
    ⟨fun s hs => absurd hs (by omega), 0, by omega, rfl⟩
    (fun i m hi ⟨a1, s, a2, a3⟩ => by
      left
      have e3 : (ds.getD c []).getD i 0 = at2 ds c i := rfl
      refine ⟨min m (at2 ds c i), ?_, all_succ.2 ⟨fun s hs => by have := a1 s hs; omega, by omega⟩, ?_⟩
      · simp (disch := omega) only [EV, S_sp_l3Ascent_2, hi, hc, hr, e3, l1Least_eq]
        rfl
      · by_cases h : m ≤ at2 ds c i
        · exact ⟨s, a2, by omega⟩
        · exact ⟨i, hi, by omega⟩)
    (fun a ha => ⟨a, by simp (disch := omega) only [EV, S_sp_l3Ascent_2, Nat.lt_irrefl], ha⟩)
  exact ⟨r, k1, k2⟩
theorem first_both {o : List Int} {ds : List (List Int)} (hf : Fld o ds) : ∃ p, PI o ds p ∧ L_sp_l3Ascent_0 (o, ds) ((0 : Int), []) = some p ∧ L_im_AscentPrices_0 (ds, ((ds.length : Int), (o, ds))) ((0 : Int), []) = some p := by
  have hlen := hf.len
  have hpos := hf.pos
  have hcl := hf.clients
  have hex : ∀ c : Nat, ∃ m, c < ds.length → IsMin o.length (at2 ds c) m := fun c => by
    by_cases hc : c < ds.length
    · obtain ⟨m, _, h⟩ := least_eq hf hc []
      exact ⟨m, fun _ => h⟩
    · exact ⟨0, fun h => absurd h hc⟩
  have hg := fun c => Classical.choose_spec (hex c)
  generalize hgd : (fun c => Classical.choose (hex c)) = g
  have hg' : ∀ c, c < ds.length → IsMin o.length (at2 ds c) (g c) := fun c hc => by
    rw [← hgd]
    exact hg c hc
  have e1 : L_sp_l3Ascent_0 (o, ds) ((0 : Int), []) = _ := iter_app (f := fun v => (S_sp_l3Ascent_0 (o, ds) v).ev) (n := ds.length) (fun i l => ((i : Int), l)) g (fun l => l) (fun i l hi hll => by
    have hr := hf.rowLen i hi
    obtain ⟨m, m1, m2⟩ := least_eq hf hi l
    obtain rfl := m2.uniq (hg' i hi)
    have z : Int.toNat (0 : Int) = 0 := rfl
    have hz : (0 : Int) < ((ds.getD i []).length : Int) := by omega
    have hs : (l.length + List.length ([g i] : List Int)) * 8 ≤ 140737488355328 := by simp only [List.length_cons, List.length_nil]; omega
    simp (disch := omega) only [EV, S_sp_l3Ascent_0, hi, z, hz, m1, hs]
    rfl) (fun l _ => by simp (disch := omega) only [EV, S_sp_l3Ascent_0, Nat.lt_irrefl])
  have e2 : L_im_AscentPrices_0 (ds, ((ds.length : Int), (o, ds))) ((0 : Int), []) = _ := iter_app (f := fun v => (S_im_AscentPrices_0 (ds, ((ds.length : Int), (o, ds))) v).ev) (n := ds.length) (fun i l => ((i : Int), l)) g (fun l => l) (fun i l hi hll => by
    have hr := hf.rowLen i hi
    obtain ⟨m, m1, m2⟩ := Min_eq (l := ds.getD i []) (by omega) (by omega)
    rw [hr] at m2
    obtain rfl := (show IsMin o.length (at2 ds i) m from m2).uniq (hg' i hi)
    have hs : (l.length + List.length ([g i] : List Int)) * 8 ≤ 140737488355328 := by simp only [List.length_cons, List.length_nil]; omega
    simp (disch := omega) only [EV, S_im_AscentPrices_0, hi, m1, hs]
    rfl) (fun l _ => by simp (disch := omega) only [EV, S_im_AscentPrices_0, Nat.lt_irrefl])
  have hget : ∀ c, c < ds.length → ((List.range ds.length).map g).getD c 0 = g c := fun c hc => by
    rw [List.getD_eq_getElem?_getD, List.getElem?_map, List.getElem?_range hc]; rfl
  refine ⟨(List.range ds.length).map g, ⟨by simp, fun c hc => ?_, fun s hs => ?_⟩, e1, e2⟩
  · obtain ⟨_, s, a, b⟩ := hg' c hc
    exact ⟨s, a, by rw [hget c hc, b]; exact Int.le_refl _⟩
  · have hz : ∀ k, k ≤ ds.length → clmN ds ((List.range ds.length).map g) s k = 0 := by
      intro k
      induction k with
      | zero => intro _; rfl
      | succ k ih =>
        intro hk
        have := (hg' k (by omega)).1 s hs
        rw [clmN, ih (by omega), hget k (by omega), (pos_in _).2.2 (by omega)]
        rfl
    unfold clm
    rw [hz _ (Nat.le_refl _)]
    exact (hf.cost s hs).1
/-- The ascent, by both ways. -/
theorem ascent_both {o : List Int} {ds : List (List Int)} (ho : Low1 o) (hd : Low2 ds) (hf : Fld o ds) : ∃ p, PI o ds p ∧ F_sp_l3Ascent o ds = some p ∧ F_im_AscentPrices o ds = some (true, p) := by
  obtain ⟨p, p1, p2, p3⟩ := first_both hf
  obtain ⟨r, r1, r2, r3⟩ := rounds_both hf _ p rfl p1
  have r2' : L_im_AscentPrices_2 (o, ds) (true, p) = some r := r2
  have r3' : L_sp_l3Ascent_4 (o, ds) (true, p) = some r := r3
  refine ⟨r, r1, ?_, ?_⟩
  · unfold F_sp_l3Ascent T_sp_l3Ascent
    simp (disch := omega) only [EV, p2, r3']
  · unfold F_im_AscentPrices T_im_AscentPrices
    simp (disch := omega) only [EV, IsField_eq ho hd, fieldB_iff.2 hf, p3, r2']
theorem l3Sum_eq {o : List Int} {ds : List (List Int)} {p : List Int} (hf : Fld o ds) (hp : PI o ds p) : F_sp_l3Sum p = some (psum p p.length) := by
  have hl := hp.len
  have hcl := hf.clients
  obtain ⟨r, h1, h2⟩ := iter_inv (f := fun v => (S_sp_l3Sum_0 p v).ev) (n := p.length) (fun i (a : Int) => (a, (i : Int))) (fun i a => a = psum p i) (fun r => r = psum p p.length) (s0 := 0) rfl
    (fun i a hi ha => by
      subst ha
      left
      have h3 := psum_le hp hf i (by omega)
      have h4 := hp.val hf (show i < ds.length by omega)
      refine ⟨_, ?_, rfl⟩
      simp (disch := omega) only [EV, S_sp_l3Sum_0, hi]
      rfl)
    (fun a ha => ⟨a, by simp (disch := omega) only [EV, S_sp_l3Sum_0, Nat.lt_irrefl], ha⟩)
  subst h2
  have h1' : L_sp_l3Sum_0 p ((0 : Int), (0 : Int)) = some (psum p p.length) := h1
  unfold F_sp_l3Sum T_sp_l3Sum
  simp (disch := omega) only [EV, h1']
theorem sumP_eq {o : List Int} {ds : List (List Int)} {p : List Int} (hf : Fld o ds) (hp : PI o ds p) : F_im_sum p = some (psum p p.length) := by
  have hl := hp.len
  have hcl := hf.clients
  obtain ⟨r, h1, h2⟩ := iter_inv (f := fun v => (S_im_sum_0 (p, (p.length : Int)) v).ev) (n := p.length) (fun i (a : Int) => (a, (i : Int))) (fun i a => a = psum p i) (fun r => r = psum p p.length) (s0 := 0) rfl
    (fun i a hi ha => by
      subst ha
      left
      have h3 := psum_le hp hf i (by omega)
      have h4 := hp.val hf (show i < ds.length by omega)
      refine ⟨_, ?_, rfl⟩
      simp (disch := omega) only [EV, S_im_sum_0, hi]
      rfl)
    (fun a ha => ⟨a, by simp (disch := omega) only [EV, S_im_sum_0, Nat.lt_irrefl], ha⟩)
  subst h2
  have h1' : L_im_sum_0 (p, (p.length : Int)) ((0 : Int), (0 : Int)) = some (psum p p.length) := h1
  unfold F_im_sum T_im_sum
  simp (disch := omega) only [EV, h1']
end Go.Proofs.Ythkafleokepjeaa
