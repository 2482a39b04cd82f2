/-
  Plain laws: the drawing of sets of sites, of weights and of counts comes to an end.
-/
import Derived.Test.YtlemejhffpkbkaaGreatP30
namespace Go.Proofs.YtlemejhffpkbkaaGreat
theorem shl_pos : ∀ n : Nat, n ≤ 7 → 1 ≤ IntKind.wrap .i64 ((1 : Int) * 2 ^ (min (Int.toNat (n : Int)) (IntKind.bits .i64)))
  | 0, _ => of_decide_eq_true (by kernel_rfl)
  | 1, _ => of_decide_eq_true (by kernel_rfl)
  | 2, _ => of_decide_eq_true (by kernel_rfl)
  | 3, _ => of_decide_eq_true (by kernel_rfl)
  | 4, _ => of_decide_eq_true (by kernel_rfl)
  | 5, _ => of_decide_eq_true (by kernel_rfl)
  | 6, _ => of_decide_eq_true (by kernel_rfl)
  | 7, _ => of_decide_eq_true (by kernel_rfl)
  | n + 8, h => by omega
theorem sites_ok {B : Int} {l : List Int} {i : Int} {o : List Int} {d : List (List Int)} (ho : o.length ≤ 8) (c : Int) (h : CK B l i) (hB : B ≤ 500000) :
    ∃ s i' c', F_zce o d l i c = some (s, (l, (i', c'))) ∧ s.length ≤ 8 ∧ CK (B + 20) l i' := by
  obtain ⟨n, hn, hn7⟩ : ∃ n : Nat, min ((o.length : Nat) : Int) 7 = (n : Int) ∧ n ≤ 7 := ⟨(min ((o.length : Nat) : Int) 7).toNat, by omega, by omega⟩
  obtain ⟨x, i1, c1, e1, _, _, h1⟩ := pick_ok (IntKind.wrap .i64 ((1 : Int) * 2 ^ (min (Int.toNat (n : Int)) (IntKind.bits .i64)))) c h (by omega) (shl_pos n hn7)
  obtain ⟨s, e2, hs⟩ := l2Bits_ok (n := n) (by omega) (IntKind.wrap .i64 ((1 : Int) + x))
  obtain ⟨b, i3, c3, e3, h3⟩ := one_ok 20 c1 h1 (by omega) (by omega)
  have hp : (0 : Int) ≤ (n : Int) := by omega
  unfold F_zce T_zce
  rw [Tr.ev_c, l1Least_eq, hn, Option.bind_some, Tr.ev_g, decide_eq_true hp, cond_true, Tr.ev_c, e1, Option.bind_some, Tr.ev_c]
  simp only
  rw [e2, Option.bind_some, Tr.ev_c, e3, Option.bind_some]
  have last : ∀ (s : List Int) {i3 : Int} (c3 : Int), s.length ≤ 8 → CK (B + 10) l i3 → ∃ s' i' c', (Tr.t (((List.length s : Nat) : Int) == (0 : Int))
        (.t (decide ((0 : Int) < (n : Int)))
            (.c ((Bool) × ((List (Int)) × ((Int) × (Int)))) (F_zcb (6 : Int) l i3 c3) fun r6_ =>
              .t (!r6_.1)
                (.c ((Int) × ((List (Int)) × ((Int) × (Int)))) (F_zcc (n : Int) r6_.2.1 r6_.2.2.1 r6_.2.2.2) fun r7_ =>
                  .l (([r7_.1] : List (Int)), (r7_.2.1, (r7_.2.2.1, r7_.2.2.2))))
                (.l (s, (r6_.2.1, (r6_.2.2.1, r6_.2.2.2)))))
            (.l (s, (l, (i3, c3)))))
        (.l (s, (l, (i3, c3))))).ev = some (s', (l, (i', c'))) ∧ s'.length ≤ 8 ∧ CK (B + 20) l i' := fun s i3 c3 hs h3 => by
    by_cases h0 : (((List.length s : Nat) : Int) == (0 : Int)) = true
    · by_cases hn0 : (0 : Int) < (n : Int)
      · obtain ⟨b, i4, c4, e4, h4⟩ := one_ok 6 c3 h3 (by omega) (by omega)
        cases b with
        | true =>
          simp (disch := omega) only [EV, h0, hn0, e4]
          exact ⟨_, _, _, rfl, hs, h4.mono (by omega)⟩
        | false =>
          obtain ⟨y, i5, c5, e5, _, _, h5⟩ := pick_ok (n : Int) c4 h4 (by omega) (by omega)
          simp (disch := omega) only [EV, h0, hn0, e4, e5]
          exact ⟨_, _, _, rfl, by simp, h5.mono (by omega)⟩
      · simp (disch := omega) only [EV, h0, hn0]
        exact ⟨_, _, _, rfl, hs, h3.mono (by omega)⟩
    · have h0' := Bool.eq_false_iff.2 h0
      simp (disch := omega) only [EV, h0']
      exact ⟨_, _, _, rfl, hs, h3.mono (by omega)⟩
  cases b with
  | true =>
    obtain ⟨y, i4, c4, e4, _, h4⟩ := among_ok [(-1 : Int), (0 : Int), (n : Int)] c3 h3 (by omega) (by simp)
    have r1 := room8 s y (by omega)
    rw [Tr.ev_t, cond_true, Tr.ev_c, e4, Option.bind_some, Tr.ev_g]
    simp only
    rw [decide_eq_true r1, cond_true]
    exact last (s ++ [y]) c4 (by simp; omega) (h4.mono (by omega))
  | false =>
    rw [Tr.ev_t, cond_false]
    exact last s c3 (by omega) (h3.mono (by omega))
theorem count_ok {B : Int} {l : List Int} {i : Int} {o : List Int} {d : List (List Int)} (ho : o.length ≤ 8) (c : Int) (h : CK B l i) (hB : B ≤ 500000) :
    ∃ k i' c', F_zbw o d l i c = some (k, (l, (i', c'))) ∧ CK (B + 20) l i' := by
  unfold F_zbw T_zbw
  by_cases h0 : (((o.length : Nat) : Int) == (0 : Int)) = true
  · obtain ⟨y, i4, c4, e4, _, h4⟩ := among_ok [(0 : Int), (-1 : Int), (8 : Int), ((o.length : Nat) : Int) + 1] c h (by omega) (by simp)
    simp (disch := omega) only [EV, h0, e4]
    exact ⟨_, _, _, rfl, h4.mono (by omega)⟩
  · have h0' := Bool.eq_false_iff.2 h0
    have hpos : 1 ≤ ((o.length : Nat) : Int) := by
      have : ((o.length : Nat) : Int) ≠ 0 := fun e => h0 (beq_iff_eq.2 e)
      omega
    obtain ⟨b, i3, c3, e3, h3⟩ := one_ok 20 c h (by omega) (by omega)
    cases b with
    | true =>
      obtain ⟨y, i4, c4, e4, _, h4⟩ := among_ok [(0 : Int), (-1 : Int), (8 : Int), ((o.length : Nat) : Int) + 1] c3 h3 (by omega) (by simp)
      simp (disch := omega) only [EV, h0', e3, e4]
      exact ⟨_, _, _, rfl, h4.mono (by omega)⟩
    | false =>
      obtain ⟨y, i4, c4, e4, _, _, h4⟩ := pick_ok ((o.length : Nat) : Int) c3 h3 (by omega) hpos
      simp (disch := omega) only [EV, h0', e3, e4]
      exact ⟨_, _, _, rfl, h4.mono (by omega)⟩
theorem weights0_ok {B : Int} {l : List Int} {i : Int} {o : List Int} {d : List (List Int)} (hd : d.length ≤ 8) (all c : Int) (h : CK B l i) (hB : B ≤ 500000) :
    ∃ i' c' w, L_zcg_0 (all, (o, d)) ((0 : Int), (l, (i, (c, ([] : List Int))))) = some (l, (i', (c', w))) ∧ w.length = d.length ∧ CK (B + 16) l i' := by
  obtain ⟨r, h1, i', c', w, rfl, h2⟩ := iter_cnt (f := fun v => (S_zcg_0 (all, (o, d)) v).ev) (n := d.length)
    (fun a v => ∃ i c w, v = ((a : Int), (l, (i, (c, w)))) ∧ w.length = a ∧ CK (B + 2 * a) l i)
    (fun r => ∃ i c w, r = (l, (i, (c, w))) ∧ w.length = d.length ∧ CK (B + 16) l i)
    (fun a v ha hv => by
      obtain ⟨i, c, w, rfl, l1, hc⟩ := hv
      cases k0 : (all == (0 : Int)) with
      | true =>
        have r1 := room8 w 1 (by omega)
        refine ⟨(((a + 1 : Nat) : Int), (l, (i, (c, w ++ [1])))), ?_, i, c, _, rfl, by simp [l1], hc.mono (by omega)⟩
        simp (disch := omega) only [EV, S_zcg_0, ha, k0, r1]
        rfl
      | false =>
        cases k1 : (all == (1 : Int)) with
        | true =>
          have r1 := room8 w 0 (by omega)
          refine ⟨(((a + 1 : Nat) : Int), (l, (i, (c, w ++ [0])))), ?_, i, c, _, rfl, by simp [l1], hc.mono (by omega)⟩
          simp (disch := omega) only [EV, S_zcg_0, ha, k0, k1, r1]
          rfl
        | false =>
          obtain ⟨x, i1, c1, e1, _, h1⟩ := among_ok [(0 : Int), (1 : Int), (2 : Int), (5 : Int), (99 : Int)] c hc (by omega) (by decide)
          have r1 := room8 w x (by omega)
          refine ⟨(((a + 1 : Nat) : Int), (l, (i1, (c1, w ++ [x])))), ?_, i1, c1, _, rfl, by simp [l1], h1.mono (by omega)⟩
          simp (disch := omega) only [EV, S_zcg_0, ha, k0, k1, e1, r1]
          rfl)
    (fun v hv => by
      obtain ⟨i, c, w, rfl, l1, hc⟩ := hv
      refine ⟨_, by simp (disch := omega) only [EV, S_zcg_0, Nat.lt_irrefl], i, c, w, rfl, l1, hc.mono (by omega)⟩)
    (v := ((0 : Int), (l, (i, (c, ([] : List Int)))))) ⟨i, c, [], rfl, rfl, h.mono (by omega)⟩
  exact ⟨i', c', w, h1, h2⟩
noncomputable def wTail (W l : List Int) (i c : Int) : Tr ((List (Int)) × ((List (Int)) × ((Int) × (Int)))) :=
  .t (decide ((0 : Int) < ((List.length W : Nat) : Int)))
    (.c ((Bool) × ((List (Int)) × ((Int) × (Int)))) (F_zcb (24 : Int) l i c) fun r19_ =>
      .t r19_.1
        (.c ((Int) × ((List (Int)) × ((Int) × (Int)))) (F_zcc ((List.length W : Nat) : Int) r19_.2.1 r19_.2.2.1 r19_.2.2.2) fun r20_ =>
          .c ((Int) × ((List (Int)) × ((Int) × (Int)))) (F_zbv ([(-1 : Int), (100 : Int)] : List (Int)) r20_.2.1 r20_.2.2.1 r20_.2.2.2) fun r21_ =>
          .g (inR r20_.1 (List.length W)) <|
          .g (decide ((Int.toNat r20_.1) < List.length W)) <|
          .l ((List.set W (Int.toNat r20_.1) r21_.1), (r21_.2.1, (r21_.2.2.1, r21_.2.2.2))))
        (.l (W, (r19_.2.1, (r19_.2.2.1, r19_.2.2.2)))))
    (.l (W, (l, (i, c))))
theorem wTail_ok {B : Int} {W l : List Int} {i : Int} (hW : W.length ≤ 9) (c : Int) (h : CK B l i) (hB : B ≤ 500000) : ∃ w i' c', (wTail W l i c).ev = some (w, (l, (i', c'))) ∧ w.length ≤ 9 ∧ CK (B + 10) l i' := by
  unfold wTail
  by_cases h0 : 0 < W.length
  · have h0' : (0 : Int) < ((W.length : Nat) : Int) := by omega
    obtain ⟨b2, i4, c4, e4, h4⟩ := one_ok 24 c h (by omega) (by omega)
    cases b2 with
    | true =>
      obtain ⟨x, i5, c5, e5, x0, x1, h5⟩ := pick_ok (W.length : Int) c4 h4 (by omega) (by omega)
      obtain ⟨y, i6, c6, e6, _, h6⟩ := among_ok [(-1 : Int), (100 : Int)] c5 h5 (by omega) (by decide)
      obtain ⟨q, rfl⟩ : ∃ q : Nat, x = (q : Int) := ⟨x.toNat, by omega⟩
      have hq : q < W.length := by omega
      simp (disch := omega) only [EV, h0', e4, e5, e6, hq, Int.toNat_natCast]
      exact ⟨_, _, _, rfl, by simpa using hW, h6.mono (by omega)⟩
    | false =>
      simp (disch := omega) only [EV, h0', e4]
      exact ⟨_, _, _, rfl, hW, h4.mono (by omega)⟩
  · have h0' : ¬ (0 : Int) < ((W.length : Nat) : Int) := by omega
    simp (disch := omega) only [EV, h0']
    exact ⟨_, _, _, rfl, hW, h.mono (by omega)⟩
noncomputable def wOut (W l : List Int) (i c : Int) : Tr ((List (Int)) × ((List (Int)) × ((Int) × (Int)))) :=
  .c ((Bool) × ((List (Int)) × ((Int) × (Int)))) (F_zcb (24 : Int) l i c) fun r17_ =>
    .t r17_.1
      (.c ((Int) × ((List (Int)) × ((Int) × (Int)))) (F_zbv ([(1 : Int), (-1 : Int), (100 : Int)] : List (Int)) r17_.2.1 r17_.2.2.1 r17_.2.2.2) fun r18_ =>
        .g (decide ((List.length W + List.length ([r18_.1] : List (Int))) * 8 ≤ 140737488355328)) <|
        wTail (W ++ ([r18_.1] : List (Int))) r18_.2.1 r18_.2.2.1 r18_.2.2.2)
      (wTail W r17_.2.1 r17_.2.2.1 r17_.2.2.2)
theorem wOut_ok {B : Int} {W l : List Int} {i : Int} (hW : W.length ≤ 8) (c : Int) (h : CK B l i) (hB : B ≤ 400000) : ∃ w i' c', (wOut W l i c).ev = some (w, (l, (i', c'))) ∧ w.length ≤ 9 ∧ CK (B + 20) l i' := by
  obtain ⟨b1, i3, c3, e3, h3⟩ := one_ok 24 c h (by omega) (by omega)
  unfold wOut
  rw [Tr.ev_c, e3, Option.bind_some]
  cases b1 with
  | true =>
    obtain ⟨y, i7, c7, e7, _, h7⟩ := among_ok [(1 : Int), (-1 : Int), (100 : Int)] c3 h3 (by omega) (by decide)
    have r1 := room8 W y (by omega)
    rw [Tr.ev_t, cond_true, Tr.ev_c, e7, Option.bind_some, Tr.ev_g, decide_eq_true r1, cond_true]
    obtain ⟨w, i', c', e, a, b⟩ := wTail_ok (W := W ++ [y]) (by simp; omega) c7 h7 (by omega)
    exact ⟨w, i', c', e, a, b.mono (by omega)⟩
  | false =>
    rw [Tr.ev_t, cond_false]
    obtain ⟨w, i', c', e, a, b⟩ := wTail_ok (W := W) (by omega) c3 h3 (by omega)
    exact ⟨w, i', c', e, a, b.mono (by omega)⟩
theorem weights_ok {B : Int} {l : List Int} {i : Int} {o : List Int} {d : List (List Int)} (hd : d.length ≤ 8) (c : Int) (h : CK B l i) (hB : B ≤ 300000) :
    ∃ w i' c', F_zcg o d l i c = some (w, (l, (i', c'))) ∧ w.length ≤ 9 ∧ CK (B + 40) l i' := by
  obtain ⟨all, i1, c1, e1, _, _, h1⟩ := pick_ok 4 c h (by omega) (by omega)
  obtain ⟨i2, c2, w, e2, hw, h2⟩ := weights0_ok (o := o) hd all c1 h1 (by omega)
  have fin : ∀ W : List Int, W.length ≤ 8 → ∃ w i' c', (wOut W l i2 c2).ev = some (w, (l, (i', c'))) ∧ w.length ≤ 9 ∧ CK (B + 40) l i' := fun W hW => by
    obtain ⟨w, i', c', e, a, b⟩ := wOut_ok hW c2 h2 (by omega)
    exact ⟨w, i', c', e, a, b.mono (by omega)⟩
  unfold F_zcg T_zcg
  rw [Tr.ev_c, e1, Option.bind_some, Tr.ev_c]
  simp only
  rw [e2, Option.bind_some]
  simp only
  rw [Tr.ev_t]
  cases k1 : (all == (1 : Int)) with
  | true =>
    rw [cond_true, Tr.ev_t]
    by_cases hw0 : 0 < w.length
    · have hw0' : (0 : Int) < ((w.length : Nat) : Int) := by omega
      have ew : IntKind.wrap .i64 (((w.length : Nat) : Int) - 1) = ((w.length - 1 : Nat) : Int) := by rw [wrap64 (by omega) (by omega)]; omega
      have g1 : inR (IntKind.wrap .i64 (((w.length : Nat) : Int) - 1)) w.length = true := by rw [ew]; exact inR_int (by omega) (by omega)
      have g2 : (IntKind.wrap .i64 (((w.length : Nat) : Int) - 1)).toNat < w.length := by rw [ew, Int.toNat_natCast]; omega
      rw [decide_eq_true hw0', cond_true, Tr.ev_g, g1, cond_true, Tr.ev_g, decide_eq_true g2, cond_true]
      exact fin (w.set (IntKind.wrap .i64 (((w.length : Nat) : Int) - 1)).toNat 1) (by rw [List.length_set]; omega)
    · have hw0' : ¬ (0 : Int) < ((w.length : Nat) : Int) := by omega
      have hf := fin w (by omega)
      unfold wOut wTail at hf
      rw [decide_eq_false hw0'] at hf ⊢
      exact hf
  | false =>
    rw [cond_false]
    exact fin w (by omega)
end Go.Proofs.YtlemejhffpkbkaaGreat
