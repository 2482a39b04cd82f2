/-
  Plain laws: the drawing of seasons and plans comes to an end.
-/
import Derived.Test.YtlmbhkmaflhagaaGreatP24
import Derived.Test.YtlmbhkmaflhagaaGreatPC
namespace Go.Proofs.YtlmbhkmaflhagaaGreat
theorem low1_of {l : List Int} (h : l.length ≤ 1000000) : Low1 l := by unfold Low1; omega
theorem season0_ok {B : Int} {l : List Int} {i : Int} (k : (Int) × ((List (Int)) × ((List (Int)) × (List (Int))))) {n : Nat} (hk : k.1 = (n : Int)) (hn : n ≤ 5) (c : Int) (h : CK B l i) (hB : B ≤ 900000) :
    ∃ i' c' o cl kp, L_zck_0 k ((0 : Int), (l, (i, (c, (([] : List Int), (([] : List Int), ([] : List Int))))))) = some (l, (i', (c', (o, (cl, kp))))) ∧ o.length = n ∧ cl.length = n ∧ kp.length = n ∧ CK (B + 30) l i' := by
  obtain ⟨r, h1, i', c', o, cl, kp, rfl, h2⟩ := iter_cnt (f := fun v => (S_zck_0 k v).ev) (n := n)
    (fun a v => ∃ i c o cl kp, v = ((a : Int), (l, (i, (c, (o, (cl, kp)))))) ∧ (o.length = a ∧ cl.length = a ∧ kp.length = a) ∧ CK (B + 6 * a) l i)
    (fun r => ∃ i c o cl kp, r = (l, (i, (c, (o, (cl, kp))))) ∧ o.length = n ∧ cl.length = n ∧ kp.length = n ∧ CK (B + 30) l i)
    (fun a v ha hv => by
      obtain ⟨i, c, o, cl, kp, rfl, ⟨l1, l2, l3⟩, hc⟩ := hv
      obtain ⟨x, i1, c1, e1, _, _, h1⟩ := pick_ok 10 c hc (by omega) (by omega)
      obtain ⟨y, i2, c2, e2, _, _, h2⟩ := pick_ok 4 c1 h1 (by omega) (by omega)
      obtain ⟨z, i3, c3, e3, _, _, h3⟩ := pick_ok 4 c2 h2 (by omega) (by omega)
      have r1 := room8 o x (by omega)
      have r2 := room8 cl y (by omega)
      have r3 := room8 kp z (by omega)
      refine ⟨(((a + 1 : Nat) : Int), (l, (i3, (c3, (o ++ [x], (cl ++ [y], kp ++ [z])))))), ?_, i3, c3, _, _, _, rfl, ⟨by simp [l1], by simp [l2], by simp [l3]⟩, h3.mono (by omega)⟩
      simp (disch := omega) only [EV, S_zck_0, hk, ha, e1, e2, e3, r1, r2, r3]
      rfl)
    (fun v hv => by
      obtain ⟨i, c, o, cl, kp, rfl, ⟨l1, l2, l3⟩, hc⟩ := hv
      refine ⟨_, by simp (disch := omega) only [EV, S_zck_0, hk, Nat.lt_irrefl], i, c, o, cl, kp, rfl, l1, l2, l3, hc.mono (by omega)⟩)
    (v := ((0 : Int), (l, (i, (c, (([] : List Int), (([] : List Int), ([] : List Int)))))))) ⟨i, c, [], [], [], rfl, ⟨rfl, rfl, rfl⟩, h.mono (by omega)⟩
  exact ⟨i', c', o, cl, kp, h1, h2⟩
theorem season6_ok {B : Int} {l : List Int} {i : Int} (k : (Int) × ((Int) × ((Int) × ((List (List (Int))) × ((List (Int)) × ((List (Int)) × ((List (Int)) × ((List (List (List (Int)))) × ((List (Int)) × ((List (Int)) × ((List (Int)) × (List (List (List (Int))))))))))))))) {n : Nat} (hk : k.1 = (n : Int)) (hn : n ≤ 5) (c : Int) (h : CK B l i) (hB : B ≤ 900000) :
    ∃ i' c' row, L_zck_6 k ((0 : Int), (l, (i, (c, ([] : List Int))))) = some (l, (i', (c', row))) ∧ row.length = n ∧ CK (B + 10) l i' := by
  obtain ⟨r, h1, i', c', row, rfl, h2⟩ := iter_cnt (f := fun v => (S_zck_6 k v).ev) (n := n)
    (fun a v => ∃ i c row, v = ((a : Int), (l, (i, (c, row)))) ∧ row.length = a ∧ CK (B + 2 * a) l i)
    (fun r => ∃ i c row, r = (l, (i, (c, row))) ∧ row.length = n ∧ CK (B + 10) l i)
    (fun a v ha hv => by
      obtain ⟨i, c, row, rfl, l1, hc⟩ := hv
      obtain ⟨x, i1, c1, e1, _, _, h1⟩ := pick_ok 12 c hc (by omega) (by omega)
      have r1 := room8 row x (by omega)
      refine ⟨(((a + 1 : Nat) : Int), (l, (i1, (c1, row ++ [x])))), ?_, i1, c1, _, rfl, by simp [l1], h1.mono (by omega)⟩
      simp (disch := omega) only [EV, S_zck_6, hk, ha, e1, r1]
      rfl)
    (fun v hv => by
      obtain ⟨i, c, row, rfl, l1, hc⟩ := hv
      refine ⟨_, by simp (disch := omega) only [EV, S_zck_6, hk, Nat.lt_irrefl], i, c, row, rfl, l1, hc.mono (by omega)⟩)
    (v := ((0 : Int), (l, (i, (c, ([] : List Int)))))) ⟨i, c, [], rfl, rfl, h.mono (by omega)⟩
  exact ⟨i', c', row, h1, h2⟩
theorem season4_ok {B : Int} {l : List Int} {i : Int} (k : (Int) × ((Int) × ((List (Int)) × ((List (Int)) × ((List (Int)) × ((List (List (List (Int)))) × ((List (Int)) × ((List (Int)) × ((List (Int)) × (List (List (List (Int))))))))))))) {n m : Nat} (hk : k.1 = (n : Int)) (hn : n ≤ 5) (hm : m ≤ 5) (c : Int) (h : CK B l i) (hB : B ≤ 899000) :
    ∃ i' c' rd, L_zck_4 k ((m : Int), (l, (i, (c, ([] : List (List Int)))))) = some (l, (i', (c', rd))) ∧ Low2 rd ∧ CK (B + 50) l i' := by
  obtain ⟨r, h1, i', c', rd, rfl, h2⟩ := iter_cnt (f := fun v => (S_zck_4 k v).ev) (n := m)
    (fun a v => ∃ i c rd, v = ((m : Int) - (a : Int), (l, (i, (c, rd)))) ∧ rd.length = a ∧ (∀ r ∈ rd, Low1 r) ∧ CK (B + 10 * a) l i)
    (fun r => ∃ i c rd, r = (l, (i, (c, rd))) ∧ Low2 rd ∧ CK (B + 50) l i)
    (fun a v ha hv => by
      obtain ⟨i, c, rd, rfl, l1, l2, hc⟩ := hv
      obtain ⟨i1, c1, row, e1, hr, h1⟩ := season6_ok (k.1, (k.2.1, ((m : Int) - (a : Int), (rd, (k.2.2.1, (k.2.2.2.1, (k.2.2.2.2.1, (k.2.2.2.2.2.1, (k.2.2.2.2.2.2.1, (k.2.2.2.2.2.2.2.1, (k.2.2.2.2.2.2.2.2.1, k.2.2.2.2.2.2.2.2.2))))))))))) hk hn c hc (by omega)
      have r1 := room24 rd (by omega)
      have hp : (0 : Int) < (m : Int) - (a : Int) := by omega
      refine ⟨((m : Int) - ((a + 1 : Nat) : Int), (l, (i1, (c1, rd ++ [row])))), ?_, i1, c1, _, rfl, by simp [l1], fun r hr' => ?_, h1.mono (by omega)⟩
      · simp (disch := omega) only [EV, S_zck_4, hp, e1, r1, set_end, show (m : Int) - (a : Int) - 1 = (m : Int) - ((a + 1 : Nat) : Int) by omega]
      · rcases List.mem_append.1 hr' with h | h
        · exact l2 r h
        · rw [List.mem_singleton.1 h]; exact low1_of (by omega))
    (fun v hv => by
      obtain ⟨i, c, rd, rfl, l1, l2, hc⟩ := hv
      refine ⟨_, by simp (disch := omega) only [EV, S_zck_4, Int.sub_self, Int.lt_irrefl], i, c, rd, rfl, ⟨by omega, l2⟩, hc.mono (by omega)⟩)
    (v := ((m : Int), (l, (i, (c, ([] : List (List Int))))))) ⟨i, c, [], by simp, rfl, (fun r hr => nomatch hr), h.mono (by omega)⟩
  exact ⟨i', c', rd, h1, h2⟩
theorem five_of {x : Int} {L : List Int} (h : x ∈ L) (hL : ∀ y ∈ L, 0 ≤ y ∧ y ≤ 5) : ∃ n : Nat, x = (n : Int) ∧ n ≤ 5 := by
  have := hL x h
  exact ⟨x.toNat, by omega, by omega⟩
theorem season2_ok {B : Int} {l : List Int} {i : Int} (k : (Int) × ((List (Int)) × ((List (Int)) × ((List (Int)) × ((List (List (List (Int)))) × ((List (Int)) × ((List (Int)) × (List (Int))))))))) {n m : Nat} (hk : k.1 = (n : Int)) (hn : n ≤ 5) (hm : m ≤ 5) (c : Int) (h : CK B l i) (hB : B ≤ 898000) :
    ∃ i' c' rs, L_zck_2 k ((m : Int), (l, (i, (c, ([] : List (List (List Int))))))) = some (l, (i', (c', rs))) ∧ (rs.length = m ∧ ∀ r ∈ rs, Low2 r) ∧ CK (B + 260) l i' := by
  obtain ⟨r, h1, i', c', rs, rfl, h2⟩ := iter_cnt (f := fun v => (S_zck_2 k v).ev) (n := m)
    (fun a v => ∃ i c rs, v = ((m : Int) - (a : Int), (l, (i, (c, rs)))) ∧ (rs.length = a ∧ ∀ r ∈ rs, Low2 r) ∧ CK (B + 52 * a) l i)
    (fun r => ∃ i c rs, r = (l, (i, (c, rs))) ∧ (rs.length = m ∧ ∀ r ∈ rs, Low2 r) ∧ CK (B + 260) l i)
    (fun a v ha hv => by
      obtain ⟨i, c, rs, rfl, ⟨l1, l2⟩, hc⟩ := hv
      obtain ⟨x, i1, c1, e1, hx, h1⟩ := among_ok ([(2 : Int), (3 : Int), (1 : Int), (0 : Int), (5 : Int)] : List (Int)) c hc (by omega) (by decide)
      obtain ⟨q, rfl, hq⟩ := five_of hx (by decide)
      obtain ⟨i2, c2, rd, e2, hr, h2⟩ := season4_ok (k.1, ((m : Int) - (a : Int), (k.2.1, (k.2.2.1, (k.2.2.2.1, (k.2.2.2.2.1, (k.2.2.2.2.2.1, (k.2.2.2.2.2.2.1, (k.2.2.2.2.2.2.2, rs))))))))) hk hn hq c1 h1 (by omega)
      have r1 := room24' rs rd (by omega)
      have hp : (0 : Int) < (m : Int) - (a : Int) := by omega
      refine ⟨((m : Int) - ((a + 1 : Nat) : Int), (l, (i2, (c2, rs ++ [rd])))), ?_, i2, c2, _, rfl, ⟨by simp [l1], fun r hr' => ?_⟩, h2.mono (by omega)⟩
      · simp (disch := omega) only [EV, S_zck_2, hp, e1, e2, r1, show (m : Int) - (a : Int) - 1 = (m : Int) - ((a + 1 : Nat) : Int) by omega]
      · rcases List.mem_append.1 hr' with h | h
        · exact l2 r h
        · rw [List.mem_singleton.1 h]; exact hr)
    (fun v hv => by
      obtain ⟨i, c, rs, rfl, l1, hc⟩ := hv
      refine ⟨_, by simp (disch := omega) only [EV, S_zck_2, Int.sub_self, Int.lt_irrefl], i, c, rs, rfl, l1, hc.mono (by omega)⟩)
    (v := ((m : Int), (l, (i, (c, ([] : List (List (List Int)))))))) ⟨i, c, [], by simp, ⟨rfl, fun r hr => by cases hr⟩, h.mono (by omega)⟩
  exact ⟨i', c', rs, h1, h2⟩
theorem season9_ok (k : (List (Int)) × ((Int) × ((Int) × ((List (Int)) × ((List (Int)) × ((List (Int)) × ((List (List (List (Int)))) × ((List (Int)) × ((List (Int)) × (List (Int))))))))))) {rs : List (List (List Int))} (h : rs.length ≤ 5) (hr : ∀ r ∈ rs, Low2 r) : ∃ ss, L_zck_9 k rs = some ss ∧ ss.length ≤ 6 ∧ ∀ r ∈ ss, Low2 r := by
  exact iter_cnt (f := fun v => (S_zck_9 k v).ev) (n := 6 - rs.length)
    (fun a v => v.length = rs.length + a ∧ ∀ r ∈ v, Low2 r) (fun r => r.length ≤ 6 ∧ ∀ x ∈ r, Low2 x)
    (fun a v ha hv => by
      obtain ⟨l1, l2⟩ := hv
      have r1 := room24' v ([] : List (List Int)) (by omega)
      have hp : ((v.length : Nat) : Int) < 6 := by omega
      refine ⟨v ++ [[]], ?_, by simp [l1]; omega, fun r hr' => ?_⟩
      · simp (disch := omega) only [EV, S_zck_9, hp, r1]
      · rcases List.mem_append.1 hr' with h | h
        · exact l2 r h
        · rw [List.mem_singleton.1 h]; exact ⟨by simp, fun r hr => by cases hr⟩)
    (fun v hv => by
      obtain ⟨l1, l2⟩ := hv
      have hp : ¬ ((v.length : Nat) : Int) < 6 := by omega
      exact ⟨v, by simp (disch := omega) only [EV, S_zck_9, hp], by omega, l2⟩)
    ⟨rfl, hr⟩
structure DrS (o c k : List Int) (rs : List (List (List Int))) : Prop where
  lo : o.length ≤ 5
  lc : c.length ≤ 6
  lk : k.length ≤ 5
  lr : rs.length ≤ 6
  low : ∀ r ∈ rs, Low2 r
theorem DrS.o1 {o c k : List Int} {rs : List (List (List Int))} (h : DrS o c k rs) : Low1 o := low1_of (by have := h.lo; omega)
theorem DrS.c1 {o c k : List Int} {rs : List (List (List Int))} (h : DrS o c k rs) : Low1 c := low1_of (by have := h.lc; omega)
theorem DrS.k1 {o c k : List Int} {rs : List (List (List Int))} (h : DrS o c k rs) : Low1 k := low1_of (by have := h.lk; omega)
theorem DrS.r3 {o c k : List Int} {rs : List (List (List Int))} (h : DrS o c k rs) : Low3 rs := ⟨by have := h.lr; omega, h.low⟩
theorem season_ok {B : Int} {l : List Int} {i : Int} (cc : Int) (h : CK B l i) (hB : B ≤ 800000) : ∃ o c k rs i' c', F_zck l i cc = some (o, (c, (k, (rs, (l, (i', c')))))) ∧ DrS o c k rs ∧ CK (B + 300) l i' := by
  obtain ⟨x1, i1, c1, e1, m1, h1⟩ := among_ok ([(3 : Int), (2 : Int), (4 : Int), (1 : Int), (3 : Int), (5 : Int)] : List (Int)) cc h (by omega) (by decide)
  have hx1 : ∀ y ∈ ([(3 : Int), (2 : Int), (4 : Int), (1 : Int), (3 : Int), (5 : Int)] : List (Int)), 1 ≤ y := by decide
  have hx1' := hx1 x1 m1
  obtain ⟨n, rfl, hn⟩ := five_of m1 (by decide)
  obtain ⟨i2, c2, o, cl, kp, e2, lo, lc, lk, h2⟩ := season0_ok ((n : Int), (([] : List (Int)), (([] : List (Int)), ([] : List (Int))))) rfl hn c1 h1 (by omega)
  obtain ⟨x3, i3, c3, e3, m3, h3⟩ := among_ok ([(2 : Int), (3 : Int), (4 : Int), (1 : Int), (0 : Int), (5 : Int)] : List (Int)) c2 h2 (by omega) (by decide)
  obtain ⟨m, rfl, hm⟩ := five_of m3 (by decide)
  obtain ⟨i4, c4, rs, e4, ⟨lr, lr2⟩, h4⟩ := season2_ok ((n : Int), (([] : List (Int)), (([] : List (Int)), (([] : List (Int)), (([] : List (List (List (Int)))), (o, (cl, kp))))))) rfl hn hm c3 h3 (by omega)
  obtain ⟨x5, i5, c5, e5, _, _, h5⟩ := pick_ok 40 c4 h4 (by omega) (by omega)
  unfold F_zck T_zck
  simp (disch := omega) only [EV, e1, e2, e3, e4, e5]
  cases k0 : (x5 == (0 : Int)) with
  | true =>
    obtain ⟨x6, i6, c6, e6, _, h6⟩ := among_ok ([(-1 : Int), (99 : Int), (100 : Int)] : List (Int)) c5 h5 (by omega) (by decide)
    have z : Int.toNat 0 = 0 := rfl
    have hk0 : 0 < kp.length := by omega
    simp (disch := omega) only [EV, e6, show inR (0 : Int) kp.length = true from inR_int (by omega) (by omega), z, hk0]
    exact ⟨_, _, _, _, _, _, rfl, ⟨by omega, by omega, by simp; omega, by omega, lr2⟩, h6.mono (by omega)⟩
  | false =>
    cases k1 : (x5 == (1 : Int)) with
    | true =>
      have r1 := room8 cl 0 (by omega)
      simp (disch := omega) only [EV, r1]
      exact ⟨_, _, _, _, _, _, rfl, ⟨by omega, by simp; omega, by omega, by omega, lr2⟩, h5.mono (by omega)⟩
    | false =>
      cases k2 : (x5 == (2 : Int)) with
      | true =>
        obtain ⟨ss, e7, l7, l8⟩ := season9_ok (l, (i5, (c5, (([] : List (Int)), (([] : List (Int)), (([] : List (Int)), (([] : List (List (List (Int)))), (o, (cl, kp))))))))) (rs := rs) (by omega) lr2
        simp (disch := omega) only [EV, e7]
        exact ⟨_, _, _, _, _, _, rfl, ⟨by omega, by omega, by omega, l7, l8⟩, h5.mono (by omega)⟩
      | false =>
        cases k3 : (x5 == (3 : Int)) with
        | true =>
          simp (disch := omega) only [EV]
          exact ⟨_, _, _, _, _, _, rfl, ⟨by simp, by simp, by simp, by simp, fun r hr => by cases hr⟩, h5.mono (by omega)⟩
        | false =>
          simp (disch := omega) only [EV]
          exact ⟨_, _, _, _, _, _, rfl, ⟨by omega, by omega, by omega, by omega, lr2⟩, h5.mono (by omega)⟩
theorem pow5 : ∀ n : Nat, n ≤ 5 → 1 ≤ IntKind.wrap .i64 ((1 : Int) * 2 ^ (min n (IntKind.bits .i64)))
  | 0, _ => by decide
  | 1, _ => by decide
  | 2, _ => by decide
  | 3, _ => by decide
  | 4, _ => by decide
  | 5, _ => by decide
  | n + 6, h => by omega
theorem program10_ok {B : Int} {l : List Int} {i : Int} {o c k : List Int} {rs : List (List (List Int))} (hd : DrS o c k rs) (cc : Int) (h : CK B l i) (hB : B ≤ 800000) : ∃ p i' c', F_zcj o c k rs l i cc = some (p, (l, (i', c'))) ∧ Low2 p ∧ CK (B + 50) l i' := by
  have ho := hd.lo
  have hrs := hd.lr
  obtain ⟨r, h1, i1, c1, p, rfl, ⟨lp, lp2⟩, hc1⟩ := iter_cnt (f := fun v => (S_zcj_0 ((o.length : Int), (o, (c, (k, rs)))) v).ev) (n := rs.length)
    (fun a v => ∃ i c p, v = ((a : Int), (l, (i, (c, p)))) ∧ (p.length = a ∧ ∀ s ∈ p, Low1 s) ∧ CK (B + 6 * a) l i)
    (fun r => ∃ i c p, r = (l, (i, (c, p))) ∧ (p.length = rs.length ∧ ∀ s ∈ p, Low1 s) ∧ CK (B + 36) l i)
    (fun a v ha hv => by
      obtain ⟨i, c0, p, rfl, ⟨l1, l2⟩, hc⟩ := hv
      have hpos := pow5 o.length ho
      obtain ⟨x, i1, c1, e1, _, _, h1⟩ := pick_ok (IntKind.wrap .i64 ((1 : Int) * 2 ^ (min o.length (IntKind.bits .i64)))) c0 hc (by omega) hpos
      obtain ⟨s, e2, hs⟩ := l2Bits_ok (n := o.length) (by omega) (IntKind.wrap .i64 ((1 : Int) + x))
      have r1 := room24 p (by omega)
      have g0 : (0 : Int) ≤ (o.length : Int) := by omega
      have more : ∀ (t : List Int), t.length ≤ 5 → ∀ s ∈ p ++ [t], Low1 s := fun t ht s hs => by
        rcases List.mem_append.1 hs with h | h
        · exact l2 s h
        · rw [List.mem_singleton.1 h]; exact low1_of (by omega)
      cases k0 : (((s.length : Nat) : Int) == 0) with
      | false =>
        refine ⟨(((a + 1 : Nat) : Int), (l, (i1, (c1, p ++ [s])))), ?_, i1, c1, _, rfl, ⟨by simp [l1], more s (by omega)⟩, h1.mono (by omega)⟩
        simp (disch := omega) only [EV, S_zcj_0, ha, g0, e1, e2, k0, r1, set_end]
        rfl
      | true =>
        by_cases hz : 0 < o.length
        · obtain ⟨y, i2, c2, e3, h2⟩ := one_ok 8 c1 h1 (by omega) (by omega)
          cases y with
          | false =>
            obtain ⟨z, i3, c3, e4, _, _, h3⟩ := pick_ok (o.length : Int) c2 h2 (by omega) (by omega)
            refine ⟨(((a + 1 : Nat) : Int), (l, (i3, (c3, p ++ [[z]])))), ?_, i3, c3, _, rfl, ⟨by simp [l1], more [z] (by simp)⟩, h3.mono (by omega)⟩
            simp (disch := omega) only [EV, S_zcj_0, ha, g0, e1, e2, k0, r1, set_end, e3, e4, show (0 : Int) < (o.length : Int) by omega]
            rfl
          | true =>
            refine ⟨(((a + 1 : Nat) : Int), (l, (i2, (c2, p ++ [s])))), ?_, i2, c2, _, rfl, ⟨by simp [l1], more s (by omega)⟩, h2.mono (by omega)⟩
            simp (disch := omega) only [EV, S_zcj_0, ha, g0, e1, e2, k0, r1, set_end, e3, show (0 : Int) < (o.length : Int) by omega]
            rfl
        · refine ⟨(((a + 1 : Nat) : Int), (l, (i1, (c1, p ++ [s])))), ?_, i1, c1, _, rfl, ⟨by simp [l1], more s (by omega)⟩, h1.mono (by omega)⟩
          simp (disch := omega) only [EV, S_zcj_0, ha, g0, e1, e2, k0, r1, set_end, show ¬ (0 : Int) < (o.length : Int) by omega]
          rfl)
    (fun v hv => by
      obtain ⟨i, c0, p, rfl, l1, hc⟩ := hv
      refine ⟨_, by simp (disch := omega) only [EV, S_zcj_0, Nat.lt_irrefl], i, c0, p, rfl, l1, hc.mono (by omega)⟩)
    (v := ((0 : Int), (l, (i, (cc, ([] : List (List Int))))))) ⟨i, cc, [], rfl, ⟨rfl, fun s hs => by cases hs⟩, h.mono (by omega)⟩
  have h1' : L_zcj_0 ((o.length : Int), (o, (c, (k, rs)))) ((0 : Int), (l, (i, (cc, ([] : List (List Int)))))) = some (l, (i1, (c1, p))) := h1
  have hmin : min (o.length : Int) 5 = (o.length : Int) := by omega
  obtain ⟨x2, i2, c2, e2, _, _, h2⟩ := pick_ok 24 c1 hc1 (by omega) (by omega)
  have r1 := room24 p (by omega)
  have lowp : ∀ t : List Int, t.length ≤ 5 → ∀ s ∈ p ++ [t], Low1 s := fun t ht s hs => by
    rcases List.mem_append.1 hs with h | h
    · exact lp2 s h
    · rw [List.mem_singleton.1 h]; exact low1_of (by omega)
  unfold F_zcj T_zcj
  simp (disch := omega) only [EV, l1Least_eq, hmin, h1', e2, r1]
  cases k0 : (x2 == (0 : Int)) with
  | true =>
    simp (disch := omega) only [EV, set_end]
    exact ⟨_, _, _, rfl, ⟨by simp; omega, lowp [0] (by simp)⟩, h2.mono (by omega)⟩
  | false =>
    cases k1 : (x2 == (1 : Int)) with
    | true =>
      by_cases hp : 0 < p.length
      · obtain ⟨x3, i3, c3, e3, _, h3⟩ := among_ok ([(-1 : Int), (5 : Int), (0 : Int)] : List (Int)) c2 h2 (by omega) (by decide)
        have z : Int.toNat 0 = 0 := rfl
        simp (disch := omega) only [EV, e3, show (0 : Int) < (p.length : Int) by omega, show inR (0 : Int) p.length = true from inR_int (by omega) (by omega), z, hp]
        refine ⟨_, _, _, rfl, ⟨by simp; omega, fun s hs => ?_⟩, h3.mono (by omega)⟩
        rcases List.mem_or_eq_of_mem_set hs with h | rfl
        · exact lp2 s h
        · exact low1_of (by simp)
      · simp (disch := omega) only [EV, show ¬ (0 : Int) < (p.length : Int) by omega]
        exact ⟨_, _, _, rfl, ⟨by omega, lp2⟩, h2.mono (by omega)⟩
    | false =>
      simp (disch := omega) only [EV]
      exact ⟨_, _, _, rfl, ⟨by omega, lp2⟩, h2.mono (by omega)⟩
end Go.Proofs.YtlmbhkmaflhagaaGreat
