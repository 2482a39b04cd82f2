/-
  The law of potentials: safe ones bound each plan, and the least costs from each round on prove that the best plan is best.
-/
import Derived.Test.YtlmbhkmaflhagaaGreatQ20
namespace Go.Proofs.YtlmbhkmaflhagaaGreat
def Shp (m n : Nat) (t : List (List Int)) : Prop := t.length = m ∧ ∀ r ∈ t, r.length = n
theorem Shp.len {m n : Nat} {t : List (List Int)} (h : Shp m n t) {r : Nat} (hr : r < m) : (t.getD r []).length = n := h.2 _ (getD_mem (by rw [h.1]; exact hr))
theorem Shp.set {m n : Nat} {t : List (List Int)} (h : Shp m n t) {r : Nat} (hr : r < m) (i : Nat) (x : Int) : Shp m n (t.set r ((t.getD r []).set i x)) := by
  refine ⟨by rw [List.length_set]; exact h.1, fun y hy => ?_⟩
  rcases List.mem_or_eq_of_mem_set hy with h1 | rfl
  · exact h.2 y h1
  · rw [List.length_set]; exact h.len hr
theorem Shp.low {m n : Nat} {t : List (List Int)} (h : Shp m n t) (hm : m ≤ 1000000) (hn : n ≤ 1000000) : Low2 t := ⟨by have := h.1; omega, fun r hr => by have := h.2 r hr; unfold Low1; omega⟩
theorem low_drop {t : List (List Int)} (h : Low2 t) (j : Nat) : Low2 (t.drop j) := ⟨by have := h.1; rw [List.length_drop]; omega, fun r hr => h.2 r (List.mem_of_mem_drop hr)⟩
theorem pot1_ok {m n : Nat} (hn : n ≤ 1000000) (hm : m ≤ 1000000) {t : List (List Int)} (h : Shp m n t) {r : Nat} (hr : r < m) (q : (List (Int)) × ((Int) × (Int))) : ∃ e, L_zci_1 ((r : Int), q) ((0 : Int), t) = some e ∧ Shp m n e := by
  exact iter_cnt (f := fun v => (S_zci_1 ((r : Int), q) v).ev) (n := n)
    (fun a v => ∃ e, v = ((a : Int), e) ∧ Shp m n e) (fun e => Shp m n e)
    (fun a v ha hv => by
      obtain ⟨e, rfl, he⟩ := hv
      have hr' : r < e.length := by rw [he.1]; exact hr
      have hl := he.len hr
      have ha' : a < (e.getD r []).length := by omega
      refine ⟨(((a + 1 : Nat) : Int), e.set r ((e.getD r []).set a (IntKind.wrap .i64 (max (IntKind.wrap .i64 ((e.getD r []).getD a 0 - 3)) 0 - 1)))), ?_, _, rfl, he.set hr _ _⟩
      simp (disch := omega) only [EV, S_zci_1, hr', ha', l1Most_eq]
      rfl)
    (fun v hv => by
      obtain ⟨e, rfl, he⟩ := hv
      have hr' : r < e.length := by rw [he.1]; exact hr
      have hl := he.len hr
      have hq : ¬ n < (e.getD r []).length := by omega
      exact ⟨e, by simp (disch := omega) only [EV, S_zci_1, hr', hq], he⟩)
    (v := ((0 : Int), t)) ⟨t, rfl, h⟩
theorem potentials_ok {B : Int} {l : List Int} {i : Int} {o c k : List Int} {rs : List (List (List Int))} (ho : Low1 o) (hc : Low1 c) (hk : Low1 k) (hr : Low3 rs) (cc : Int) (h : CK B l i) (hB : B ≤ 700000) :
    ∃ tb i' c', F_zci o c k rs l i cc = some (tb, (l, (i', c'))) ∧ Low2 tb ∧ CK (B + 20) l i' := by
  have eF := sp_FutureCosts_eq ho hc hk hr
  unfold F_zci T_zci
  cases hs : seasonB o c k rs with
  | false =>
    simp only [futOf, hs, cond_false] at eF
    have z : ¬ (0 : Int) < (([] : List (List Int)).length : Int) := by simp
    simp (disch := omega) only [EV, eF, z]
    exact ⟨_, _, _, rfl, ⟨by simp, fun r hr => by cases hr⟩, h.mono (by omega)⟩
  | true =>
    simp only [futOf, hs, cond_true] at eF
    have hss := ssn_of hs
    have hS := sets_of hss
    have hF := futs_Fut hss hS
    have hR := hss.R
    have h5 := hss.n5
    have hp := pow_le (n := o.length) (by omega)
    have hp0 : 0 < 2 ^ o.length := Nat.two_pow_pos _
    have hsh : Shp (rs.length + 1) (2 ^ o.length) (futs o c k rs) := ⟨hF.len, fun r hr => by
      obtain ⟨j, hj, e⟩ := List.getElem_of_mem hr
      have := (hF.ok j (by have := hF.len; omega)).len
      rw [List.getD_eq_getElem?_getD, List.getElem?_eq_getElem hj, Option.getD_some, e] at this
      exact this⟩
    generalize futs o c k rs = t at eF hsh
    have hl := hsh.1
    have hlow := hsh.low (by omega) (by omega)
    obtain ⟨x1, i1, c1, e1, a1, b1, h1⟩ := pick_ok (t.length : Int) cc h (by omega) (by omega)
    obtain ⟨r, rfl⟩ : ∃ r : Nat, x1 = (r : Int) := ⟨x1.toNat, by omega⟩
    have hr1 : r < t.length := by omega
    have hr2 : r < rs.length + 1 := by omega
    have hrl := hsh.len hr2
    obtain ⟨x2, i2, c2, e2, a2, b2, h2⟩ := pick_ok ((t.getD r []).length : Int) c1 h1 (by omega) (by omega)
    obtain ⟨q, rfl⟩ : ∃ q : Nat, x2 = (q : Int) := ⟨x2.toNat, by omega⟩
    have hq1 : q < (t.getD r []).length := by omega
    obtain ⟨x3, i3, c3, e3, _, _, h3⟩ := pick_ok 8 c2 h2 (by omega) (by omega)
    have z : (0 : Int) < (t.length : Int) := by omega
    simp (disch := omega) only [EV, eF, z, e1, hr1, e2, e3]
    cases k0 : (x3 == (0 : Int)) with
    | true =>
      obtain ⟨x4, i4, c4, e4, _, h4⟩ := among_ok ([(1 : Int), (-1 : Int), (2 : Int)] : List (Int)) c3 h3 (by omega) (by decide)
      simp (disch := omega) only [EV, e4, hq1]
      exact ⟨_, _, _, rfl, (hsh.set hr2 _ _).low (by omega) (by omega), h4.mono (by omega)⟩
    | false =>
      cases k1 : (x3 == (1 : Int)) with
      | true =>
        obtain ⟨x4, i4, c4, e4, _, h4⟩ := among_ok ([(-1000000 : Int), (-1000001 : Int), (1000001 : Int), (4611686018427387904 : Int)] : List (Int)) c3 h3 (by omega) (by decide)
        simp (disch := omega) only [EV, e4, hq1]
        exact ⟨_, _, _, rfl, (hsh.set hr2 _ _).low (by omega) (by omega), h4.mono (by omega)⟩
      | false =>
        cases k2 : (x3 == (2 : Int)) with
        | true =>
          have z1 : (decide ((0 : Int) ≤ (1 : Int)) && decide ((1 : Int) ≤ (t.length : Int))) = true := by simp; omega
          simp (disch := omega) only [EV, z1]
          exact ⟨_, _, _, rfl, low_drop (by rw [List.take_length]; exact hlow) _, h3.mono (by omega)⟩
        | false =>
          cases k3 : (x3 == (3 : Int)) with
          | true =>
            obtain ⟨e, e4, he⟩ := pot1_ok (by omega) (by omega) hsh hr2 (l, (i3, c3))
            simp (disch := omega) only [EV, e4]
            exact ⟨_, _, _, rfl, he.low (by omega) (by omega), h3.mono (by omega)⟩
          | false =>
            simp (disch := omega) only [EV]
            exact ⟨_, _, _, rfl, hlow, h3.mono (by omega)⟩
theorem drawProof_ok {l : List Int} (h : CK 0 l 0) : ∃ o c k rs tb p, F_zbp l = some (o, (c, (k, (rs, (tb, p))))) ∧ DrS o c k rs ∧ Low2 tb ∧ Low2 p := by
  obtain ⟨o, c, k, rs, i1, c1, e1, hd, h1⟩ := season_ok 0 h (by omega)
  obtain ⟨p, i2, c2, e2, hp, h2⟩ := program10_ok hd c1 h1 (by omega)
  unfold F_zbp T_zbp
  simp (disch := omega) only [EV, e1, e2, l10Good_eq hd.o1 hd.c1 hd.k1 hd.r3]
  cases hs : seasonB o c k rs with
  | false =>
    obtain ⟨tb, i4, c4, e4, ht, _⟩ := potentials_ok hd.o1 hd.c1 hd.k1 hd.r3 c2 h2 (by omega)
    simp (disch := omega) only [EV, e4]
    exact ⟨_, _, _, _, _, _, rfl, hd, ht, hp⟩
  | true =>
    have hss := ssn_of hs
    obtain ⟨y, i3, c3, e3, h3⟩ := one_ok 3 c2 h2 (by omega) (by omega)
    obtain ⟨tb, i4, c4, e4, ht, _⟩ := potentials_ok hd.o1 hd.c1 hd.k1 hd.r3 c3 h3 (by omega)
    obtain ⟨e5, hb⟩ := l10Best_eq hss (sets_of hss)
    cases y with
    | false =>
      simp (disch := omega) only [EV, e3, e5, e4]
      exact ⟨_, _, _, _, _, _, rfl, hd, ht, hb⟩
    | true =>
      simp (disch := omega) only [EV, e3, e4]
      exact ⟨_, _, _, _, _, _, rfl, hd, ht, hp⟩
theorem set_ix {n : Nat} (hS : SetsOK n) {s : List Int} (hs : s ∈ allSets n) : ∃ i, i < 2 ^ n ∧ setAt n i = s := by
  obtain ⟨j, hj, e⟩ := List.getElem_of_mem hs
  exact ⟨j, by rw [← hS.len]; exact hj, by unfold setAt; rw [List.getD_eq_getElem?_getD, List.getElem?_eq_getElem hj, Option.getD_some, e]⟩
theorem safe_at {o c k : List Int} {rs : List (List (List Int))} (hS : SetsOK o.length) {tb : List (List Int)} (hs : safeB o c k rs tb = true) {r : Nat} (hr : r < rs.length) {a s : List Int} (ha : a ∈ allSets o.length) (hsm : s ∈ allSets o.length) (hm : mayB o rs r s = true) :
    (tb.getD r []).getD (codeOf a) 0 ≤ mv o c k rs r a s + (tb.getD (r + 1) []).getD (codeOf s) 0 := by
  obtain ⟨i, hi, rfl⟩ := set_ix hS ha
  obtain ⟨j, hj, rfl⟩ := set_ix hS hsm
  simp only [safeB, List.all_eq_true, List.mem_range, Bool.and_eq_true] at hs
  have := (hs i hi).2 r hr j hj
  rw [hm] at this
  simpa [okAt] using this
theorem safe_end {o c k : List Int} {rs : List (List (List Int))} {tb : List (List Int)} (hs : safeB o c k rs tb = true) {i : Nat} (hi : i < 2 ^ o.length) : (tb.getD rs.length []).getD i 0 ≤ 0 := by
  simp only [safeB, List.all_eq_true, List.mem_range, Bool.and_eq_true, decide_eq_true_eq] at hs
  exact (hs i hi).1
theorem futAt_min {o c k : List Int} {rs : List (List (List Int))} (h : Ssn o c k rs) (hS : SetsOK o.length) {r : Nat} (hr : r < rs.length) {a : List Int} (ha : a ∈ allSets o.length) : ∃ s, s ∈ allSets o.length ∧ mayB o rs r s = true ∧ futAt o c k rs r a = mv o c k rs r a s + futAt o c k rs (r + 1) s := by
  rw [futAt_bst h hS hr ha]
  have hne : (choice o rs r).map (cst o c k rs r ((futs o c k rs).getD (r + 1) []) a) ≠ [] := by
    have := choice_pos h hS r
    intro e
    rw [List.map_eq_nil_iff] at e
    rw [e] at this
    cases this
  obtain ⟨h1, _⟩ := lstMin_spec hne
  obtain ⟨s, h2, h3⟩ := List.mem_map.1 h1
  obtain ⟨h4, h5⟩ := List.mem_filter.1 h2
  exact ⟨s, h4, h5, h3.symm⟩
theorem pot_le {o c k : List Int} {rs : List (List (List Int))} (h : Ssn o c k rs) (hS : SetsOK o.length) {tb : List (List Int)} (hs : safeB o c k rs tb = true) : ∀ d, d ≤ rs.length → ∀ a ∈ allSets o.length, (tb.getD (rs.length - d) []).getD (codeOf a) 0 ≤ futAt o c k rs (rs.length - d) a
  | 0, _, a, ha => by
    rw [Nat.sub_zero, futAt_end]
    exact safe_end hs (hS.lt a ha)
  | d + 1, hd, a, ha => by
    have hr : rs.length - (d + 1) < rs.length := by omega
    obtain ⟨s, h1, h2, h3⟩ := futAt_min h hS hr ha
    have h4 := safe_at hS hs hr ha h1 h2
    have h5 := pot_le h hS hs d (by omega) s h1
    rw [show rs.length - d = rs.length - (d + 1) + 1 by omega] at h5
    omega
theorem futs_tab {o c k : List Int} {rs : List (List (List Int))} (h : Ssn o c k rs) (hS : SetsOK o.length) : tabB o rs (futs o c k rs) = true := by
  have hF := futs_Fut h hS
  have hl := hF.len
  simp only [tabB, Bool.and_eq_true, decide_eq_true_eq, List.all_eq_true, rowB]
  refine ⟨hl, fun r hr => ?_⟩
  obtain ⟨j, hj, e⟩ := List.getElem_of_mem hr
  have hok := hF.ok j (by omega)
  rw [List.getD_eq_getElem?_getD, List.getElem?_eq_getElem hj, Option.getD_some, e] at hok
  refine ⟨hok.len, allIn_iff.2 fun x hx => ?_⟩
  obtain ⟨i, hi, e2⟩ := List.getElem_of_mem hx
  have := hok.val i (by rw [← hok.len]; exact hi)
  rw [List.getD_eq_getElem?_getD, List.getElem?_eq_getElem hi, Option.getD_some, e2] at this
  omega
theorem futs_safe {o c k : List Int} {rs : List (List (List Int))} (h : Ssn o c k rs) (hS : SetsOK o.length) : safeB o c k rs (futs o c k rs) = true := by
  simp only [safeB, List.all_eq_true, List.mem_range, Bool.and_eq_true, decide_eq_true_eq]
  refine fun i hi => ⟨?_, fun r hr j hj => ?_⟩
  · have hia := setAt_mem hS hi
    obtain ⟨s, hs, e⟩ := hS.all i hi
    have := futAt_end (o := o) (c := c) (k := k) (rs := rs) s
    unfold futAt at this
    rw [e] at this
    omega
  · have hja := setAt_mem hS hj
    have hia := setAt_mem hS hi
    cases hm : mayB o rs r (setAt o.length j) with
    | false => rfl
    | true =>
      have h1 := bst_le (c := c) (k := k) (nx := (futs o c k rs).getD (r + 1) []) (a := setAt o.length i) (List.mem_filter.2 ⟨hja, hm⟩ : setAt o.length j ∈ choice o rs r)
      rw [← futAt_bst h hS hr hia] at h1
      simp only [Bool.not_true, Bool.false_or, okAt, decide_eq_true_eq]
      exact h1
theorem law_FnPotentials (code : List Int) (hf : Fit (.slice (.int .u8)) code) : F_zap code = some true := by
  unfold F_zap T_zap F_zaq T_zaq
  by_cases hbig : (65536 : Int) < (code.length : Int)
  · simp (disch := omega) only [EV, hbig]
  · have hck : CK 0 code 0 := ⟨fun x hx => fitB (hf.2 x hx), by omega, by omega, by omega⟩
    obtain ⟨o, c, k, rs, tb, p, eD, hd, ht, hp⟩ := drawProof_ok hck
    have e1 := im_PlanProof_eq hd.o1 hd.c1 hd.k1 hd.r3 hp ht
    have e2 := sp_PlanProof_eq hd.o1 hd.c1 hd.k1 hd.r3 hp ht
    have e3 := im_ArePotentials_eq hd.o1 hd.c1 hd.k1 hd.r3 ht
    have e4 := sp_ArePotentials_eq hd.o1 hd.c1 hd.k1 hd.r3 ht
    have e5 := im_FutureCosts_eq hd.o1 hd.c1 hd.k1 hd.r3
    have e6 := sp_FutureCosts_eq hd.o1 hd.c1 hd.k1 hd.r3
    have e7 := im_BestPlanCost_eq hd.o1 hd.c1 hd.k1 hd.r3
    have e8 := im_BestPlan_eq hd.o1 hd.c1 hd.k1 hd.r3
    have e9 := im_PlanCost_eq hd.o1 hd.c1 hd.k1 hd.r3 hp
    have hlow := futOf_low o c k rs
    cases hb : seasonB o c k rs with
    | false =>
      simp only [proofOf, hb, Bool.false_and, cond_false] at e1 e2
      simp only [arePot, hb, cond_false] at e3 e4
      simp only [futOf, hb, cond_false] at e5 e6 hlow
      simp (disch := omega) only [EV, hbig, eD, e1, e2, e3, e4, e5, e6, rTable_eq hlow, beq_self_eq_true]
    | true =>
      have h := ssn_of hb
      have hS := sets_of h
      have hbp := best_isPl h hS
      have hbl := (l10Best_eq h hS).2
      simp only [arePot, hb, cond_true] at e3 e4
      simp only [futOf, hb, cond_true] at e5 e6 hlow
      simp only [bestCost, hb, cond_true] at e7
      simp only [bestOf, hb, cond_true] at e8
      have e10 := im_PlanProof_eq hd.o1 hd.c1 hd.k1 hd.r3 hbl hlow
      have hbc : (((futs o c k rs).getD 0 []).getD 0 0 == (movesOf o c k rs (planFrom (bsel o c k rs (futs o c k rs)) rs.length)).foldl (fun a x => a + x) 0) = true := by
        have := best_cost h hS
        rw [beq_iff_eq]
        exact this.symm
      simp only [proofOf, hb, hbp, futs_tab h hS, futs_safe h hS, hbc, Bool.and_self, cond_true] at e10
      have fin : ∀ (A S b : Bool), (A = true → S = true ∧ b = true ∧ costOf o c k rs p = ((futs o c k rs).getD 0 []).getD 0 0) → (S = true → 0 < tb.length ∧ 0 < (tb.getD 0 []).length ∧ (tb.getD 0 []).getD 0 0 ≤ ((futs o c k rs).getD 0 []).getD 0 0) →
          F_zs o c k rs p tb = some (A, b) → F_zbr o c k rs p tb = some (A, b) → F_zd o c k rs tb = some (S, true) → F_zbo o c k rs tb = some (S, true) → (b = true → planB o rs p = true) → F_zap code = some true := by
        intro A S b hA hSS f1 f2 f3 f4 hbb
        unfold F_zap T_zap F_zaq T_zaq
        have z : Int.toNat 0 = 0 := rfl
        cases S with
        | false =>
          cases A with
          | true => exact absurd (hA rfl).1 (by simp)
          | false => cases b <;> simp (disch := omega) only [EV, hbig, eD, f1, f2, f3, f4, e5, e6, rTable_eq hlow, beq_self_eq_true, e7, e8, e10]
        | true =>
          obtain ⟨g1, g2, g3⟩ := hSS rfl
          have hlt : ¬ ((futs o c k rs).getD 0 []).getD 0 0 < (tb.getD 0 []).getD 0 0 := by omega
          have i1 : inR (0 : Int) tb.length = true := inR_int (by omega) (by omega)
          have i2 : inR (0 : Int) (tb.getD 0 []).length = true := inR_int (by omega) (by omega)
          cases A with
          | false => cases b <;> simp (disch := omega) only [EV, hbig, eD, f1, f2, f3, f4, e5, e6, rTable_eq hlow, beq_self_eq_true, e7, e8, e10, i1, z, i2, hlt]
          | true =>
            obtain ⟨_, rfl, hcost⟩ := hA rfl
            have hpb := hbb rfl
            simp only [planOf, hb, hpb, Bool.and_self, cond_true] at e9
            rw [hcost] at e9
            simp (disch := omega) only [EV, hbig, eD, f1, f2, f3, f4, e5, e6, rTable_eq hlow, beq_self_eq_true, e7, e8, e10, i1, z, i2, hlt, e9]
      have hpr : proofOf o c k rs p tb = (planB o rs p && (tabB o rs tb && (safeB o c k rs tb && (((tb.getD 0 []).getD 0 0) == (movesOf o c k rs p).foldl (fun a x => a + x) 0))), planB o rs p) := by
        unfold proofOf
        rw [hb]
        cases planB o rs p <;> rfl
      rw [hpr] at e1 e2
      have hle : tabB o rs tb = true → safeB o c k rs tb = true → (tb.getD 0 []).getD 0 0 ≤ ((futs o c k rs).getD 0 []).getD 0 0 := fun _ h2 => by
        have := pot_le h hS h2 rs.length (Nat.le_refl _) [] List.mem_cons_self
        rw [Nat.sub_self] at this
        exact this
      have := fin _ _ _ (fun hA => by
        simp only [Bool.and_eq_true, beq_iff_eq] at hA
        obtain ⟨a1, a2, a3, a4⟩ := hA
        refine ⟨by rw [a2, a3]; rfl, a1, ?_⟩
        have w1 := hle a2 a3
        have w2 := cost_ge h hS (isPl_of a1)
        have w3 : (tb.getD 0 []).getD 0 0 = costOf o c k rs p := a4
        have w4 : futAt o c k rs 0 [] = ((futs o c k rs).getD 0 []).getD 0 0 := rfl
        omega) (fun hS' => by
        rw [Bool.and_eq_true] at hS'
        obtain ⟨f1, f2⟩ := first_in (tab_of hS'.1)
        exact ⟨f1, f2, hle hS'.1 hS'.2⟩) e1 e2 e3 e4 (fun h => h)
      unfold F_zap T_zap F_zaq T_zaq at this
      exact this
end Go.Proofs.YtlmbhkmaflhagaaGreat
