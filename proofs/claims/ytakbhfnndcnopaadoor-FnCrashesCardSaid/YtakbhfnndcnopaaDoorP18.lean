/-
  Plain laws: the drawing of inputs comes to an end.
-/
import Derived.Test.YtakbhfnndcnopaaDoorP17
import Derived.Test.YtakbhfnndcnopaaDoorP7
namespace Go.Proofs.YtakbhfnndcnopaaDoor
open Go

/-- A cursor over bytes. -/
def CK (B : Int) (l : List Int) (i : Int) : Prop := (∀ x ∈ l, 0 ≤ x ∧ x ≤ 255) ∧ l.length ≤ 100000 ∧ 0 ≤ i ∧ i ≤ B
theorem CK.mono {B B' : Int} {l : List Int} {i : Int} (h : CK B l i) (hb : B ≤ B') : CK B' l i := ⟨h.1, h.2.1, h.2.2.1, by have := h.2.2.2; omega⟩
theorem fitB {x : Int} (h : Fit (.int .u8) x) : 0 ≤ x ∧ x ≤ 255 := by
  have h : (Lit.int .u8 x).wf = true := h
  simp only [Lit.wf, Bool.and_eq_true, decide_eq_true_eq] at h
  have h1 : IntKind.u8.min = 0 := rfl
  have h2 : IntKind.u8.max = 255 := rfl
  omega
theorem wrap_u8 (n : Int) : 0 ≤ IntKind.wrap .u8 n ∧ IntKind.wrap .u8 n ≤ 255 := by
  have h : IntKind.wrap .u8 n = n % 256 := by
    unfold IntKind.wrap
    simp [IntKind.bits, IntKind.signed]
  rw [h]
  omega
theorem mask_in (A : BitVec (IntKind.bits .u64)) : 0 ≤ IntKind.wrap .i64 (IntKind.wrap .u64 ((BitVec.toNat (A &&& (BitVec.ofInt (IntKind.bits .u64) (255 : Int))) : Nat) : Int)) ∧ IntKind.wrap .i64 (IntKind.wrap .u64 ((BitVec.toNat (A &&& (BitVec.ofInt (IntKind.bits .u64) (255 : Int))) : Nat) : Int)) ≤ 255 := by
  have h1 : BitVec.toNat (A &&& (BitVec.ofInt (IntKind.bits .u64) (255 : Int))) ≤ 255 := by
    rw [BitVec.toNat_and]
    have h2 : (BitVec.ofInt (IntKind.bits .u64) (255 : Int)).toNat = 255 := by decide
    rw [h2]
    exact Nat.and_le_right
  generalize BitVec.toNat (A &&& (BitVec.ofInt (IntKind.bits .u64) (255 : Int))) = n at h1
  have h3 : IntKind.wrap .u64 ((n : Nat) : Int) = (n : Int) := by
    have h : IntKind.wrap .u64 ((n : Nat) : Int) = (n : Int) % 18446744073709551616 := by
      unfold IntKind.wrap
      simp [IntKind.bits, IntKind.signed]
    rw [h]
    omega
  rw [h3, wrap64 (by omega) (by omega)]
  omega

theorem next_ok {B : Int} {l : List Int} {i : Int} (c : Int) (h : CK B l i) (hB : B ≤ 1000000) : ∃ x i' c', F_sp_l1Cur_next l i c = some (x, (l, (i', c'))) ∧ 0 ≤ x ∧ x ≤ 255 ∧ CK (B + 1) l i' := by
  obtain ⟨h1, h2, h3, h4⟩ := h
  have hk : CK (B + 1) l (i + 1) := ⟨h1, h2, by omega, by omega⟩
  have e40 : (0 : Int) ≤ 40 := by omega
  unfold F_sp_l1Cur_next T_sp_l1Cur_next
  by_cases k1 : i < ((l.length : Nat) : Int)
  · have hx : 0 ≤ l.getD i.toNat 0 ∧ l.getD i.toNat 0 ≤ 255 := h1 _ (getD_mem (by omega))
    by_cases k2 : i + 1 ≤ ((l.length : Nat) : Int)
    · simp (disch := omega) only [EV, k1, k2]
      exact ⟨_, _, _, rfl, by omega, by omega, hk⟩
    · exact absurd k1 (by omega)
  · by_cases k2 : i + 1 ≤ ((l.length : Nat) : Int)
    · exact absurd k1 (by omega)
    · simp only [Tr.ev_t, Tr.ev_g, Tr.ev_l, k1, decide_false, cond_false]
      rw [wrap64 (n := i + 1) (by omega) (by omega)]
      simp only [k2, e40, decide_false, decide_true, cond_false, cond_true]
      exact ⟨_, _, _, rfl, (mask_in _).1, (mask_in _).2, hk⟩
theorem pick_ok {B : Int} {l : List Int} {i : Int} (n c : Int) (h : CK B l i) (hB : B ≤ 999000) (hn : 1 ≤ n) : ∃ x i' c', F_sp_l1Cur_pick n l i c = some (x, (l, (i', c'))) ∧ 0 ≤ x ∧ x < n ∧ CK (B + 2) l i' := by
  unfold F_sp_l1Cur_pick T_sp_l1Cur_pick
  by_cases k0 : n ≤ 1
  · simp (disch := omega) only [EV, k0]
    exact ⟨_, _, _, rfl, by omega, by omega, h.mono (by omega)⟩
  · obtain ⟨x, i1, c1, e1, x0, x1, h1⟩ := next_ok c h (by omega)
    have nz : decide (n = 0) = false := by simp; omega
    by_cases k1 : (200 : Int) < n
    · obtain ⟨y, i2, c2, e2, y0, y1, h2⟩ := next_ok c1 h1 (by omega)
      simp (disch := omega) only [EV, k0, k1, e1, e2, nz]
      refine ⟨_, _, _, rfl, ?_, ?_, h2.mono (by omega)⟩
      · rw [Int.tmod_eq_emod_of_nonneg (show 0 ≤ x * 256 + y by omega)]; exact Int.emod_nonneg _ (by omega)
      · rw [Int.tmod_eq_emod_of_nonneg (show 0 ≤ x * 256 + y by omega)]; exact Int.emod_lt_of_pos _ (by omega)
    · simp (disch := omega) only [EV, k0, k1, e1, nz]
      refine ⟨_, _, _, rfl, ?_, ?_, h1.mono (by omega)⟩
      · rw [Int.tmod_eq_emod_of_nonneg (by omega)]; exact Int.emod_nonneg _ (by omega)
      · rw [Int.tmod_eq_emod_of_nonneg (by omega)]; exact Int.emod_lt_of_pos _ (by omega)
theorem of_ok {B : Int} {l : List Int} {i : Int} (L : List (List UInt8)) (c : Int) (h : CK B l i) (hB : B ≤ 990000) (hn : 1 ≤ L.length) : ∃ x i' c', F_sp_l1Cur_of L l i c = some (x, (l, (i', c'))) ∧ x ∈ L ∧ CK (B + 2) l i' := by
  obtain ⟨x, i1, c1, e1, x0, x1, h1⟩ := pick_ok (L.length : Int) c h (by omega) (by omega)
  unfold F_sp_l1Cur_of T_sp_l1Cur_of
  simp (disch := omega) only [EV, e1]
  exact ⟨_, _, _, rfl, getD_mem (by omega), h1⟩
theorem one_ok {B : Int} {l : List Int} {i : Int} (n c : Int) (h : CK B l i) (hB : B ≤ 990000) (hn : 1 ≤ n) : ∃ x i' c', F_sp_l1Cur_one n l i c = some (x, (l, (i', c'))) ∧ CK (B + 2) l i' := by
  obtain ⟨x, i1, c1, e1, x0, x1, h1⟩ := pick_ok n c h (by omega) hn
  unfold F_sp_l1Cur_one T_sp_l1Cur_one
  simp (disch := omega) only [EV, e1]
  exact ⟨_, _, _, rfl, h1⟩
theorem logRecord_ok {B : Int} {l : List Int} {i : Int} (c : Int) (h : CK B l i) (hB : B ≤ 900000) : ∃ a b i' c', F_sp_l1Cur_logRecord l i c = some (a, (b, (l, (i', c')))) ∧ a.length ≤ 100 ∧ b.length ≤ 100 ∧ CK (B + 8) l i' := by
  obtain ⟨x1, i1, c1, e1, m1, h1⟩ := of_ok ([([102, 105, 101, 108, 100] : List UInt8), ([111, 112, 101, 110, 32, 48] : List UInt8), ([120] : List UInt8), ([99, 111, 115, 116, 32, 49, 32, 50] : List UInt8), ([48, 32, 49] : List UInt8)] : List (List UInt8)) c h (by omega) (by decide)
  obtain ⟨x2, i2, c2, e2, m2, h2⟩ := of_ok ([([] : List UInt8), ([51] : List UInt8), ([63] : List UInt8), ([97, 64, 98] : List UInt8), ([51, 32, 49, 32, 50] : List UInt8)] : List (List UInt8)) c1 h1 (by omega) (by decide)
  obtain ⟨x3, i3, c3, e3, _, _, h3⟩ := pick_ok 24 c2 h2 (by omega) (by omega)
  have b1 : x1.length ≤ 100 := (show ∀ s ∈ ([([102, 105, 101, 108, 100] : List UInt8), ([111, 112, 101, 110, 32, 48] : List UInt8), ([120] : List UInt8), ([99, 111, 115, 116, 32, 49, 32, 50] : List UInt8), ([48, 32, 49] : List UInt8)] : List (List UInt8)), s.length ≤ 100 by decide) x1 m1
  have b2 : x2.length ≤ 100 := (show ∀ s ∈ ([([] : List UInt8), ([51] : List UInt8), ([63] : List UInt8), ([97, 64, 98] : List UInt8), ([51, 32, 49, 32, 50] : List UInt8)] : List (List UInt8)), s.length ≤ 100 by decide) x2 m2
  unfold F_sp_l1Cur_logRecord T_sp_l1Cur_logRecord
  simp (disch := omega) only [EV, e1, e2, e3]
  cases k1 : (x3 == (0 : Int)) with
  | true =>
    obtain ⟨x4, i4, c4, e4, m4, h4⟩ := of_ok ([([] : List UInt8), ([97, 64, 98] : List UInt8), ([97, 35] : List UInt8), ([10] : List UInt8), (bytesOf (List.replicate (Int.toNat (3 : Int)) (0 : Int)))] : List (List UInt8)) c3 h3 (by omega) (by decide)
    have b4 : x4.length ≤ 100 := (show ∀ s ∈ ([([] : List UInt8), ([97, 64, 98] : List UInt8), ([97, 35] : List UInt8), ([10] : List UInt8), (bytesOf (List.replicate (Int.toNat (3 : Int)) (0 : Int)))] : List (List UInt8)), s.length ≤ 100 by decide) x4 m4
    have g1 : (decide ((0 : Int) ≤ (3 : Int)) && decide ((3 : Int) ≤ (3 : Int)) && decide (((1 : Nat) : Int) * (3 : Int) ≤ 281474976710656)) = true := by decide
    rw [g1]
    simp (disch := omega) only [EV, e4]
    exact ⟨_, _, _, _, rfl, b4, b2, h4.mono (by omega)⟩
  | false =>
    cases k2 : (x3 == (1 : Int)) with
    | true =>
      obtain ⟨x5, i5, c5, e5, m5, h5⟩ := of_ok ([([35] : List UInt8), ([10] : List UInt8), ([127] : List UInt8)] : List (List UInt8)) c3 h3 (by omega) (by decide)
      have b5 : x5.length ≤ 100 := (show ∀ s ∈ ([([35] : List UInt8), ([10] : List UInt8), ([127] : List UInt8)] : List (List UInt8)), s.length ≤ 100 by decide) x5 m5
      simp (disch := omega) only [EV, e5]
      exact ⟨_, _, _, _, rfl, b1, b5, h5.mono (by omega)⟩
    | false =>
      simp (disch := omega) only [EV]
      exact ⟨_, _, _, _, rfl, b1, b2, h3.mono (by omega)⟩
theorem low100 {s : List UInt8} (h : s.length ≤ 100000) : SLow s := by unfold SLow; omega
theorem log12_ok {B : Int} {l : List Int} {i : Int} (c : Int) (h : CK B l i) (hB : B ≤ 800000) : ∃ a b n i' c', F_sp_l1Cur_log12 l i c = some (a, (b, (n, (l, (i', c'))))) ∧ a.length ≤ 6000 ∧ b.length ≤ 6000 ∧ CK (B + 62) l i' := by
  obtain ⟨x1, i1, c1, e1, x0, x2, h1⟩ := pick_ok 7 c h (by omega) (by omega)
  obtain ⟨r, k1, k2⟩ := iter_rule (f := fun v => (S_sp_l1Cur_log12_0 (([] : List UInt8), (([] : List UInt8), (0 : Int))) v).ev)
    (fun v => 0 ≤ v.1 ∧ v.1 ≤ 6 ∧ v.2.1 = l ∧ CK (B + 62 - 10 * v.1) l v.2.2.1 ∧ ((v.2.2.2.2.1.length : Int) + v.2.2.2.2.2.1.length) ≤ 1000 * (6 - v.1)) (fun v => v.1.toNat)
    (fun r => r.1 = l ∧ CK (B + 62) l r.2.1 ∧ r.2.2.2.1.length ≤ 6000 ∧ r.2.2.2.2.1.length ≤ 6000)
    (fun v hv => by
      obtain ⟨k, l', j, c', a, b, n⟩ := v
      obtain ⟨v1, v2, v3, v4, v5⟩ := hv
      simp only at v1 v2 v3 v4 v5
      subst v3
      by_cases hp : 0 < k
      · obtain ⟨ra, rb, j1, d1, f1, ra1, rb1, g1⟩ := logRecord_ok c' v4 (by omega)
        obtain ⟨q, q1, q2, q3⟩ := append_sp (a := a) (b := b) (c := ra) (r := rb) (low100 (by omega)) (low100 (by omega)) (low100 (by omega)) (low100 (by omega)) n
        obtain ⟨y, j2, d2, f2, g2⟩ := one_ok 4 d1 g1 (by omega) (by omega)
        cases y with
        | true =>
          obtain ⟨s, s1, s2, s3⟩ := sync_sp (a := q.1) (b := q.2.1) (low100 (by rw [q2]; omega)) (low100 (by omega)) q.2.2.1
          have hs : (S_sp_l1Cur_log12_0 (([] : List UInt8), (([] : List UInt8), (0 : Int))) (k, (l', (j, (c', (a, (b, n))))))).ev = some (.inl (k - 1, (l', (j2, (d2, (s.1, (s.2.1, s.2.2.1))))))) := by
            simp (disch := omega) only [EV, S_sp_l1Cur_log12_0, hp, f1, q1, f2, s1]
          rw [hs]
          refine ⟨⟨by simp only; omega, by simp only; omega, rfl, ?_, ?_⟩, by simp only; omega⟩
          · exact g2.mono (by simp only; omega)
          · simp only [s3, List.length_nil]
            rw [q2] at s2
            omega
        | false =>
          have hs : (S_sp_l1Cur_log12_0 (([] : List UInt8), (([] : List UInt8), (0 : Int))) (k, (l', (j, (c', (a, (b, n))))))).ev = some (.inl (k - 1, (l', (j2, (d2, (q.1, (q.2.1, q.2.2.1))))))) := by
            simp (disch := omega) only [EV, S_sp_l1Cur_log12_0, hp, f1, q1, f2]
          rw [hs]
          refine ⟨⟨by simp only; omega, by simp only; omega, rfl, ?_, ?_⟩, by simp only; omega⟩
          · exact g2.mono (by simp only; omega)
          · simp only [q2]
            omega
      · have hs : (S_sp_l1Cur_log12_0 (([] : List UInt8), (([] : List UInt8), (0 : Int))) (k, (l', (j, (c', (a, (b, n))))))).ev = some (.inr (l', (j, (c', (a, (b, n)))))) := by
          simp (disch := omega) only [EV, S_sp_l1Cur_log12_0, hp]
        rw [hs]
        exact ⟨rfl, v4.mono (by omega), by simp only; omega, by simp only; omega⟩)
    (v := (x1, (l, (i1, (c1, (([] : List UInt8), (([] : List UInt8), (0 : Int)))))))) ⟨x0, by simp only; omega, rfl, h1.mono (by simp only; omega), by simp only [List.length_nil]; omega⟩
  have k1' : L_sp_l1Cur_log12_0 (([] : List UInt8), (([] : List UInt8), (0 : Int))) (x1, (l, (i1, (c1, (([] : List UInt8), (([] : List UInt8), (0 : Int))))))) = some r := k1
  obtain ⟨l', j, c', a, b, n⟩ := r
  obtain ⟨w1, w2, w3, w4⟩ := k2
  simp only at w1 w2 w3 w4
  subst w1
  unfold F_sp_l1Cur_log12 T_sp_l1Cur_log12
  simp (disch := omega) only [EV, e1, k1']
  exact ⟨_, _, _, _, _, rfl, w3, w4, w2⟩
theorem spoilt_ok {B : Int} {l : List Int} {i : Int} (s : List UInt8) (c : Int) (h : CK B l i) (hB : B ≤ 900000) (hs : s.length ≤ 20000) : ∃ t i' c', F_sp_l1Cur_spoilt s ([35, 64, 10, 48, 49] : List UInt8) l i c = some (t, (l, (i', c'))) ∧ t.length ≤ 20005 ∧ CK (B + 6) l i' := by
  have five : List.length ([35, 64, 10, 48, 49] : List UInt8) = 5 := rfl
  unfold F_sp_l1Cur_spoilt T_sp_l1Cur_spoilt
  cases k0 : (s == ([] : List UInt8)) with
  | true =>
    have g1 : (decide ((0 : Int) ≤ (1 : Int)) && decide ((1 : Int) ≤ ((List.length ([35, 64, 10, 48, 49] : List UInt8) : Nat) : Int))) = true := by decide
    rw [g1]
    simp (disch := omega) only [EV]
    exact ⟨_, _, _, rfl, by decide, h.mono (by omega)⟩
  | false =>
    have hpos : 1 ≤ s.length := by
      cases s with
      | nil => simp at k0
      | cons x s => simp
    obtain ⟨x1, i1, c1, e1, a0, a1, h1⟩ := pick_ok (s.length : Int) c h (by omega) (by omega)
    obtain ⟨x2, i2, c2, e2, b0, b1, h2⟩ := pick_ok ((List.length ([35, 64, 10, 48, 49] : List UInt8) : Nat) : Int) c1 h1 (by omega) (by rw [five]; omega)
    obtain ⟨x3, i3, c3, e3, d0, d1, h3⟩ := pick_ok 3 c2 h2 (by omega) (by omega)
    have g1 : x2 ≤ ((List.length ([35, 64, 10, 48, 49] : List UInt8) : Nat) : Int) := by omega
    have g2 : (1 : Int) ≤ ((List.length (List.drop (Int.toNat x2) (List.take (List.length ([35, 64, 10, 48, 49] : List UInt8)) ([35, 64, 10, 48, 49] : List UInt8))) : Nat) : Int) := by
      rw [List.length_drop, List.length_take, five]
      rw [five] at b1
      omega
    have g0 : (0 : Int) ≤ 1 := by omega
    have g3 : x1 ≤ (s.length : Int) := by omega
    have g4 : ∀ n : Nat, (List.drop 0 (List.take n s)).length ≤ 20000 := fun n => by simp only [List.drop_zero, List.length_take]; omega
    have g5 : ∀ n : Nat, (List.drop n (List.take s.length s)).length ≤ 20000 := fun n => by simp only [List.length_drop, List.length_take]; omega
    have g6 : ∀ t : List UInt8, (List.drop 0 (List.take (Int.toNat 1) t)).length ≤ 1 := fun t => by simp only [List.drop_zero, List.length_take]; omega
    have g7 : (0 : Int) ≤ x1 + 1 := by omega
    have g8 : x1 + 1 ≤ (s.length : Int) := by omega
    generalize hT : List.drop 0 (List.take (Int.toNat 1) (List.drop (Int.toNat x2) (List.take (List.length ([35, 64, 10, 48, 49] : List UInt8)) ([35, 64, 10, 48, 49] : List UInt8)))) = T
    have hTl : T.length ≤ 1 := by rw [← hT]; exact g6 _
    have r1 : ∀ n m : Nat, (List.drop 0 (List.take n s)).length + (List.drop m (List.take s.length s)).length ≤ 9223372036854775807 := fun n m => by have := g4 n; have := g5 m; omega
    have r2 : ∀ n : Nat, (List.drop 0 (List.take n s)).length + T.length ≤ 9223372036854775807 := fun n => by have := g4 n; omega
    have r3 : ∀ n m : Nat, (List.drop 0 (List.take n s) ++ T).length + (List.drop m (List.take s.length s)).length ≤ 9223372036854775807 := fun n m => by have := g4 n; have := g5 m; rw [List.length_append]; omega
    have tl : ∀ n m : Nat, (n : Int) ≤ s.length → n ≤ m + 0 → ((List.drop 0 (List.take n s) ++ T) ++ List.drop m (List.take s.length s)).length ≤ 20005 := fun n m hn hm => by
      simp only [List.length_append, List.drop_zero, List.length_take, List.length_drop]
      omega
    have tl2 : ∀ n m : Nat, (n : Int) ≤ s.length → n ≤ m + 0 → (List.drop 0 (List.take n s) ++ List.drop m (List.take s.length s)).length ≤ 20005 := fun n m hn hm => by
      simp only [List.length_append, List.drop_zero, List.length_take, List.length_drop]
      omega
    simp (disch := omega) only [EV, e1, e2, e3, b0, g1, g2, g0, a0, g3, hT, r2, r3, r1, g7, g8]
    cases k1 : (x3 == (0 : Int)) with
    | true => exact ⟨_, _, _, rfl, tl _ _ (by omega) (by omega), h3.mono (by omega)⟩
    | false =>
      cases k2 : (x3 == (1 : Int)) with
      | true => exact ⟨_, _, _, rfl, tl _ _ (by omega) (by omega), h3.mono (by omega)⟩
      | false => exact ⟨_, _, _, rfl, tl2 _ _ (by omega) (by omega), h3.mono (by omega)⟩
theorem anyLog_ok {B : Int} {l : List Int} {i : Int} (c : Int) (h : CK B l i) (hB : B ≤ 700000) : ∃ a b n i' c', F_sp_l1Cur_anyLog l i c = some (a, (b, (n, (l, (i', c'))))) ∧ a.length ≤ 30000 ∧ b.length ≤ 30000 ∧ CK (B + 70) l i' := by
  obtain ⟨a, b, n, i1, c1, e1, a1, b1, h1⟩ := log12_ok c h (by omega)
  obtain ⟨x2, i2, c2, e2, x0, x1, h2⟩ := pick_ok 24 c1 h1 (by omega) (by omega)
  obtain ⟨t, i3, c3, e3, t1, h3⟩ := spoilt_ok b c2 h2 (by omega) (by omega)
  have g1 : a.length + b.length ≤ 9223372036854775807 := by omega
  unfold F_sp_l1Cur_anyLog T_sp_l1Cur_anyLog
  simp (disch := omega) only [EV, e1, e2, e3, g1]
  cases k1 : (x2 == (0 : Int)) with
  | true => exact ⟨_, _, _, _, _, rfl, by omega, by omega, h2.mono (by omega)⟩
  | false =>
    cases k2 : (x2 == (1 : Int)) with
    | true => exact ⟨_, _, _, _, _, rfl, by omega, by omega, h3.mono (by omega)⟩
    | false =>
      cases k3 : (x2 == (2 : Int)) with
      | true => exact ⟨_, _, _, _, _, rfl, by rw [List.length_append]; omega, by omega, h2.mono (by omega)⟩
      | false => exact ⟨_, _, _, _, _, rfl, by omega, by omega, h2.mono (by omega)⟩
theorem vCut_ok {l : List Int} (h : ∀ x ∈ l, 0 ≤ x ∧ x ≤ 255) (hl : l.length ≤ 70000) (n : Int) (hn : 0 ≤ n) (hn2 : n ≤ 100) : ∃ m, F_lw_vCut l n = some m ∧ CK 0 m 0 := by
  have ck : ∀ k : Nat, ∀ x : Int, CK 0 (([] ++ List.drop k (List.take l.length l)) ++ [IntKind.wrap .u8 x]) 0 := fun k x => by
    refine ⟨fun y hy => ?_, by simp; omega, by omega, by omega⟩
    rcases List.mem_append.1 hy with hy | hy
    · exact h y (List.mem_of_mem_drop (i := k) (by simpa using hy))
    · rw [List.mem_singleton.1 hy]
      exact wrap_u8 x
  have g1 : ∀ k : Nat, (List.length ([] : List Int) + List.length (List.drop k (List.take l.length l))) * 1 ≤ 140737488355328 := fun k => by simp; omega
  have g2 : ∀ (k : Nat) (x : Int), (List.length (([] : List Int) ++ (List.drop k (List.take l.length l))) + List.length ([x] : List Int)) * 1 ≤ 140737488355328 := fun k x => by simp; omega
  unfold F_lw_vCut T_lw_vCut
  by_cases k1 : ((l.length : Nat) : Int) < n
  · have z : (0 : Int) ≤ ((l.length : Nat) : Int) := by omega
    simp (disch := omega) only [EV, k1, z, Int.le_refl, g1, g2]
    exact ⟨_, rfl, ck _ _⟩
  · have k2 : n ≤ ((l.length : Nat) : Int) := by omega
    simp (disch := omega) only [EV, k1, hn, k2, g1, g2]
    exact ⟨_, rfl, ck _ _⟩
end Go.Proofs.YtakbhfnndcnopaaDoor
