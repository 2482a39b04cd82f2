/-
  The law of crashes.
-/
import Derived.Test.YtakbhfnndcnopaaDoorP18
import Derived.Test.YtakbhfnndcnopaaDoorP19
namespace Go.Proofs.YtakbhfnndcnopaaDoor

theorem vRecords_self (l : List (List UInt8 × List UInt8)) (hl : l.length ≤ 1000) : F_lw_vRecords l l = some true := by
  obtain ⟨r, h1, h2⟩ := iter_inv (f := fun v => (S_lw_vRecords_0 (l, l) v).ev) (n := l.length) (fun i (_ : Unit) => (i : Int)) (fun _ _ => True) (fun r => r = .inl ()) (s0 := ()) trivial
    (fun i _ hi _ => by
      left
      refine ⟨(), ?_, trivial⟩
      simp (disch := omega) only [EV, S_lw_vRecords_0, hi, beq_self_eq_true]
      rfl)
    (fun _ _ => ⟨.inl (), by simp (disch := omega) only [EV, S_lw_vRecords_0, Nat.lt_irrefl], rfl⟩)
  subst h2
  have h1' : L_lw_vRecords_0 (l, l) (0 : Int) = some (.inl ()) := h1
  unfold F_lw_vRecords T_lw_vRecords
  simp (disch := omega) only [EV, h1', bne_self_eq_false]
theorem drawCrash_ok {l : List Int} (h : CK 0 l 0) : ∃ a b n k t, F_sp_DrawCrashLog l = some (a, (b, (n, (k, t)))) ∧ a.length ≤ 30000 ∧ b.length ≤ 30000 := by
  obtain ⟨a, b, n, i1, c1, e1, a1, b1, h1⟩ := anyLog_ok 0 h (by omega)
  obtain ⟨x, i2, c2, e2, x0, x1, h2⟩ := pick_ok ((b.length : Int) + 3) c1 h1 (by omega) (by omega)
  obtain ⟨y, i3, c3, e3, _⟩ := one_ok 2 c2 h2 (by omega) (by omega)
  unfold F_sp_DrawCrashLog T_sp_DrawCrashLog
  simp (disch := omega) only [EV, e1, e2, e3]
  exact ⟨_, _, _, _, _, rfl, a1, b1⟩
theorem drawRecover_ok {l : List Int} (h : CK 0 l 0) : ∃ s, F_sp_DrawRecoverLog l = some s ∧ SLow s := by
  obtain ⟨a, b, n, i1, c1, e1, a1, b1, h1⟩ := log12_ok 0 h (by omega)
  have g1 : a.length + b.length ≤ 9223372036854775807 := by omega
  have hab : (a ++ b).length ≤ 12000 := by rw [List.length_append]; omega
  obtain ⟨x2, i2, c2, e2, x0, x1, h2⟩ := pick_ok 4 c1 h1 (by omega) (by omega)
  have big : ∀ x : Int, 0 ≤ x → x < 2 → SLow (bytesOf (List.replicate (Int.toNat (30000 + x)) (0 : Int))) := fun x hx1 hx2 => by
    unfold SLow bytesOf
    rw [List.length_map, List.length_replicate]
    omega
  have gb : ∀ x : Int, 0 ≤ x → x < 2 → (0 : Int) ≤ 30000 + x ∧ 30000 + x ≤ 30000 + x ∧ ((1 : Nat) : Int) * (30000 + x) ≤ 281474976710656 := fun x hx1 hx2 => ⟨by omega, by omega, by omega⟩
  -- the last choice: a long text, or the one that is there
  have last : ∀ {B : Int} {i c : Int} (t : List UInt8), CK B l i → B ≤ 900000 → SLow t → ∃ y i3 c3, F_sp_l1Cur_one 40 l i c = some (y, (l, (i3, c3))) ∧ ∃ z i4 c4, F_sp_l1Cur_pick 2 l i3 c3 = some (z, (l, (i4, c4))) ∧ 0 ≤ z ∧ z < 2 := fun {B i c} t hc hB _ => by
    obtain ⟨y, i3, c3, e3, h3⟩ := one_ok 40 c hc (by omega) (by omega)
    obtain ⟨z, i4, c4, e4, z0, z1, _⟩ := pick_ok 2 c3 h3 (by omega) (by omega)
    exact ⟨y, i3, c3, e3, z, i4, c4, e4, z0, z1⟩
  unfold F_sp_DrawRecoverLog T_sp_DrawRecoverLog
  simp (disch := omega) only [EV, e1, g1, e2]
  cases k1 : (x2 == (0 : Int)) with
  | true =>
    obtain ⟨t, i3, c3, e3, t1, h3⟩ := spoilt_ok (a ++ b) c2 h2 (by omega) (by omega)
    have ht : SLow t := low100 (by omega)
    obtain ⟨y, i4, c4, e4, z, i5, c5, e5, z0, z1⟩ := last (c := c3) t h3 (by omega) ht
    obtain ⟨q1, q2, q3⟩ := gb z z0 z1
    cases y with
    | true =>
      simp (disch := omega) only [EV, e3, e4, e5, q1, q2, q3]
      exact ⟨_, rfl, big z z0 z1⟩
    | false =>
      simp (disch := omega) only [EV, e3, e4]
      exact ⟨_, rfl, ht⟩
  | false =>
    cases k2 : (x2 == (1 : Int)) with
    | true =>
      obtain ⟨x3, i3, c3, e3, y0, y1, h3⟩ := pick_ok (((a ++ b).length : Int) + 1) c2 h2 (by omega) (by omega)
      have y2 : x3 ≤ ((a ++ b).length : Int) := by omega
      have ht : SLow (List.drop 0 (List.take (Int.toNat x3) (a ++ b))) := low100 (by rw [List.drop_zero, List.length_take]; omega)
      obtain ⟨y, i4, c4, e4, z, i5, c5, e5, z0, z1⟩ := last (c := c3) _ h3 (by omega) ht
      obtain ⟨q1, q2, q3⟩ := gb z z0 z1
      cases y with
      | true =>
        simp (disch := omega) only [EV, e3, y0, y2, e4, e5, q1, q2, q3]
        exact ⟨_, rfl, big z z0 z1⟩
      | false =>
        simp (disch := omega) only [EV, e3, y0, y2, e4]
        exact ⟨_, rfl, ht⟩
    | false =>
      cases k3 : (x2 == (2 : Int)) with
      | true =>
        obtain ⟨x3, i3, c3, e3, y0, y1, h3⟩ := pick_ok 4 c2 h2 (by omega) (by omega)
        obtain ⟨c, r, i4, c4, e4, hc, hr, h4⟩ := logRecord_ok c3 h3 (by omega)
        have hk : isIn x3 0 59 = true := isIn_iff.2 ⟨by omega, by omega⟩
        have e5 := l12Line_eq (c := c) (r := r) hk (by omega) (by omega)
        have hll : (line x3 c r).length ≤ 1000 := by
          have hl := text_len (c := c) (r := r) hk
          have hs := sealT_len (text x3 c r)
          unfold line
          rw [List.length_append, List.length_cons, List.length_nil]
          omega
        have g2 : (a ++ b).length + (line x3 c r).length ≤ 9223372036854775807 := by omega
        have ht : SLow ((a ++ b) ++ line x3 c r) := low100 (by rw [List.length_append]; omega)
        obtain ⟨y, i5, c5, e6, z, i6, c6, e7, z0, z1⟩ := last (c := c4) _ h4 (by omega) ht
        obtain ⟨q1, q2, q3⟩ := gb z z0 z1
        cases y with
        | true =>
          simp (disch := omega) only [EV, e3, e4, e5, g2, e6, e7, q1, q2, q3]
          exact ⟨_, rfl, big z z0 z1⟩
        | false =>
          simp (disch := omega) only [EV, e3, e4, e5, g2, e6]
          exact ⟨_, rfl, ht⟩
      | false =>
        have ht : SLow (a ++ b) := low100 (by omega)
        obtain ⟨y, i4, c4, e4, z, i5, c5, e5, z0, z1⟩ := last (c := c2) _ h2 (by omega) ht
        obtain ⟨q1, q2, q3⟩ := gb z z0 z1
        cases y with
        | true =>
          simp (disch := omega) only [EV, e4, e5, q1, q2, q3]
          exact ⟨_, rfl, big z z0 z1⟩
        | false =>
          simp (disch := omega) only [EV, e4]
          exact ⟨_, rfl, ht⟩
/-- What is recovered. -/
theorem recover_of {s : List UInt8} (hs : (s.length : Int) ≤ 30000) {e : Int} {rs : List (List UInt8 × List UInt8)} (h : rd s ((0 : Int), []) = some (e, rs)) (h0 : 0 ≤ e) (h1 : e ≤ (s.length : Int)) : F_im_RecoverLog s = some (s.take e.toNat, ([], ((rs.length : Int), (e, true)))) := by
  obtain ⟨_, w⟩ := open_rd (s := s) (by unfold SLow; omega)
  rw [h] at w
  have hn : ¬ (30000 : Int) < ((s.length : Nat) : Int) := by omega
  unfold F_im_RecoverLog T_im_RecoverLog
  simp (disch := omega) only [EV, hn, w, h0, h1, List.drop_zero]
theorem law_FnCrashes (code : List Int) (hf : Fit (.slice (.int .u8)) code) : F_lw_FnCrashes code = some true := by
  unfold F_lw_FnCrashes T_lw_FnCrashes F_lw_vBig T_lw_vBig
  by_cases hb : (65536 : Int) < ((code.length : Nat) : Int)
  · simp (disch := omega) only [EV, hb]
  · have hB : ∀ x ∈ code, 0 ≤ x ∧ x ≤ 255 := fun x hx => fitB (hf.2 x hx)
    have hl : code.length ≤ 70000 := by omega
    have c0 : CK 0 code 0 := ⟨hB, by omega, by omega, by omega⟩
    obtain ⟨a, b, n, k, torn, e1, a1, b1⟩ := drawCrash_ok c0
    obtain ⟨m1, v1, w1⟩ := vCut_ok hB hl 1 (by omega) (by omega)
    obtain ⟨t, e2, t1⟩ := drawRecover_ok w1
    have sa : SLow a := low100 (by omega)
    have sb : SLow b := low100 (by omega)
    obtain ⟨x, x1, x2, x3⟩ := crash_both sa sb n k torn
    obtain ⟨y, y1, y2⟩ := recover_both t1
    obtain ⟨z, z2, z3, z4⟩ := records_im sa sb n
    simp (disch := omega) only [EV, hb, e1, v1, e2, x1, x2, y1, y2, beq_self_eq_true, bne_self_eq_false]
    cases hx : x.2 with
    | false => rfl
    | true =>
      obtain ⟨⟨recs, hv⟩, k0, k1, hs⟩ := x3 hx
      obtain ⟨e, rs, r1, r2, r3, r4, ⟨m, r5⟩, r6⟩ := crs_read hv (k := k.toNat) (by omega) torn
      rw [← hs] at r1 r3
      have hvl := hv.len
      rw [List.length_append] at hvl
      have hxl : (x.1.length : Int) ≤ 30000 := by
        rw [hs]
        unfold crs
        rw [List.length_append]
        split
        next ht =>
          simp only [Bool.and_eq_true, decide_eq_true_eq] at ht
          rw [List.length_append, List.length_take, List.length_cons, List.length_nil]
          omega
        · rw [List.length_take]
          omega
      have hrec := recover_of hxl r1 (by omega) r3
      have hpart := rd_part r1
      have htl : (x.1.take e.toNat).length = e.toNat := by rw [List.length_take]; omega
      have hval : Val (x.1.take e.toNat) [] (rs.length : Int) rs := by
        refine ⟨?_, ⟨rs, ?_⟩, rfl⟩
        · rw [List.append_nil, hpart, htl]
          congr 2
          omega
        · rw [hpart, htl]
          congr 2
          omega
      have s1 : SLow (x.1.take e.toNat) := low100 (by omega)
      have s2 : SLow ([] : List UInt8) := low100 (by simp)
      obtain ⟨g, g1, g2, g3⟩ := valid_iff s1 s2 (rs.length : Int)
      have hg : g = true := g3.2 ⟨_, hval⟩
      subst hg
      obtain ⟨u, u2, _, u4⟩ := records_im s1 s2 (rs.length : Int)
      have hu : u = (true, rs) := u4 rs hval
      have hz : z = (true, recs) := z4 recs hv
      subst hu; subst hz
      have i1 : ¬ e < ((a.length : Nat) : Int) := by omega
      have i2 : (((List.length (x.1.take e.toNat) : Nat) : Int) != e) = false := by rw [htl, bne_eq_false_iff_eq]; omega
      have i3 : ((rs.length : Nat) : Int) ≤ ((recs.length : Nat) : Int) := by rw [r5, List.length_append]; omega
      have i4 : List.take rs.length recs = rs := by rw [r5]; exact List.take_left' rfl
      have i5 : (0 : Int) ≤ ((rs.length : Nat) : Int) := by omega
      simp (disch := omega) only [EV, hrec, g2, i1, i2, z2, u2, i3, i5, i4, List.drop_zero, vRecords_self rs (by omega)]
      cases torn with
      | true => rfl
      | false =>
        by_cases hk : k < ((b.length : Nat) : Int)
        · simp (disch := omega) only [EV, hk]
        · have := r6 rfl (by omega)
          subst this
          simp (disch := omega) only [EV, hk, beq_self_eq_true]
end Go.Proofs.YtakbhfnndcnopaaDoor
