/-
  The law of logs.
-/
import Derived.Test.YtakbhfnndcnopaaDoorP18
namespace Go.Proofs.YtakbhfnndcnopaaDoor

theorem vRecords_self (l : List (List UInt8 × List UInt8)) (hl : l.length ≤ 1000) : F_lw_vRecords l l = some true := by
  obtain ⟨r, h1, h2⟩ := iter_inv (f := fun v => (S_lw_vRecords_0 (l, l) v).ev) (n := l.length) (fun i (_ : Unit) => (i : Int)) (fun _ _ => True) (fun r => r = .inl ()) (s0 := ()) trivial
    (fun i _ hi _ => by
      left
      refine ⟨(), ?_, trivial⟩
      simp (disch := omega) only [EV, S_lw_vRecords_0, hi, beq_self_eq_true]
      rfl)
    (fun _ _ => ⟨.inl (), by simp (disch := omega) only [EV, S_lw_vRecords_0, Nat.lt_irrefl], rfl⟩)
  subst h2
  have h1' : L_lw_vRecords_0 (l, l) (0 : Int) = some (.inl ()) := h1
  unfold F_lw_vRecords T_lw_vRecords
  simp (disch := omega) only [EV, h1', bne_self_eq_false]
theorem law_FnLogs (code : List Int) (hf : Fit (.slice (.int .u8)) code) : F_lw_FnLogs code = some true := by
  unfold F_lw_FnLogs T_lw_FnLogs F_lw_vBig T_lw_vBig
  by_cases hb : (65536 : Int) < ((code.length : Nat) : Int)
  · simp (disch := omega) only [EV, hb]
  · have hB : ∀ x ∈ code, 0 ≤ x ∧ x ≤ 255 := fun x hx => fitB (hf.2 x hx)
    have hl : code.length ≤ 70000 := by omega
    have c0 : CK 0 code 0 := ⟨hB, by omega, by omega, by omega⟩
    obtain ⟨ea, eb, e1, ea1, eb1⟩ := drawRecord_ok c0
    obtain ⟨m1, v1, w1⟩ := vCut_ok hB hl 1 (by omega) (by omega)
    obtain ⟨m2, v2, w2⟩ := vCut_ok hB hl 2 (by omega) (by omega)
    obtain ⟨m3, v3, w3⟩ := vCut_ok hB hl 3 (by omega) (by omega)
    obtain ⟨k, fa, fb, e2, fa1, fb1⟩ := drawEncode_ok w1
    obtain ⟨la, lb, ln, e3, la1, lb1⟩ := drawLog_ok w2
    obtain ⟨a, b, n, c, r, e4, a1, b1, c1, r1⟩ := drawAppend_ok w3
    have sa : SLow a := low100 (by omega)
    have sb : SLow b := low100 (by omega)
    have sc : SLow c := low100 (by omega)
    have sr : SLow r := low100 (by omega)
    have e5 := im_EncodeRecord_eq (k := k) (c := fa) (r := fb) (low100 (by omega)) (low100 (by omega))
    have e6 := sp_EncodeRecord_eq (k := k) (c := fa) (r := fb) (low100 (by omega)) (low100 (by omega))
    have e7 := im_IsValidRecord_eq (c := ea) (r := eb) (low100 (by omega)) (low100 (by omega))
    have e8 := l12Record_eq (c := ea) (r := eb) (low100 (by omega)) (low100 (by omega))
    obtain ⟨vl, f1, f2, _⟩ := valid_iff (a := la) (b := lb) (low100 (by omega)) (low100 (by omega)) ln
    obtain ⟨p, p1, p2, p3, p4, p5⟩ := append_of sa sb sc sr n
    obtain ⟨y, y1, y2, y3, y4, y5⟩ := sync_of sa sb n
    obtain ⟨z, z1, z2, z3, z4⟩ := records_of sa sb n
    obtain ⟨u, u1, u2, u3, u4⟩ := records_of (a := y.1) (b := y.2.1) (low100 (by omega)) (low100 (by rw [y4]; simp)) y.2.2.1
    simp (disch := omega) only [EV, hb, e1, v1, v2, v3, e2, e3, e4, e5, e6, e7, F_sp_IsValidRecord, T_sp_IsValidRecord, e8, f1, f2, F_sp_IsValidLog, T_sp_IsValidLog, p1, p2, y1, y2, z1, z2, u2, beq_self_eq_true, bne_self_eq_false, vRecords_self z.2 (by omega)]
    -- what is read behind a sync is what was read before
    have hu : y.2.2.2 = true → u = z := fun h => by
      obtain ⟨q1, recs, q2⟩ := y5 h
      rw [z4 recs q2, u4 recs (by rw [q1]; exact q2.sync)]
    rcases p5 with ⟨p6, p7, p8⟩ | ⟨p6, ⟨recs, p7⟩, p8, p9⟩
    · have hne : (p.2.2.2 != (0 : Int)) = true := by simpa using p6
      have hp : p.1 = a := p3
      cases hy : y.2.2.2 with
      | true =>
        have := hu hy
        subst this
        simp (disch := omega) only [EV, vRecords_self u.2 (by omega), hne, p3, p7, p8, beq_self_eq_true]
      | false => simp (disch := omega) only [EV, hne, p3, p7, p8, beq_self_eq_true]
    · subst p6
      have hz : z = (true, recs) := z4 recs p7
      have hlen := p7.len
      have hcn := p7.cnt
      have hv' := p7.line p8 p9
      have ll := line_len p8 p9
      have sb' : SLow (b ++ line n c r) := low100 (by rw [List.length_append]; omega)
      obtain ⟨x, x1, x2, x3, x4⟩ := records_of sa sb' (n + 1)
      obtain ⟨w, g1, g2, g3⟩ := valid_iff sa sb' (n + 1)
      have hw : w = true := g3.2 ⟨_, hv'⟩
      have hx : x = (true, recs ++ [(c, r)]) := x4 _ hv'
      subst hz; subst hx; subst hw
      have i1 : List.take recs.length (recs ++ [(c, r)]) = recs := List.take_left' rfl
      have i2 : List.getD (recs ++ [(c, r)]) recs.length (([] : List UInt8), ([] : List UInt8)) = (c, r) := by simp [List.getD_eq_getElem?_getD]
      have i3 : ((List.length (recs ++ [(c, r)]) : Nat) : Int) = ((recs.length : Nat) : Int) + 1 := by simp
      have i4 : ((recs.length : Nat) : Int) ≤ ((recs.length : Nat) : Int) + 1 := by omega
      have i5 : (0 : Int) ≤ ((recs.length : Nat) : Int) := by omega
      have i6 : recs.length < (recs ++ [(c, r)]).length := by simp
      cases hy : y.2.2.2 with
      | true =>
        have := hu hy
        subst this
        simp (disch := omega) only [EV, vRecords_self recs (by omega), x2, g2, i3, i4, i5, i1, i2, i6, List.drop_zero, beq_self_eq_true, bne_self_eq_false]
      | false => simp (disch := omega) only [EV, vRecords_self recs (by omega), x2, g2, i3, i4, i5, i1, i2, i6, List.drop_zero, beq_self_eq_true, bne_self_eq_false]
end Go.Proofs.YtakbhfnndcnopaaDoor
