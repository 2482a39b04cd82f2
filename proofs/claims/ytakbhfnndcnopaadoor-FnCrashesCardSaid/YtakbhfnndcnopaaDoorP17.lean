/-
  Plain laws: what a log reads as when a line is appended.
-/
import Derived.Test.YtakbhfnndcnopaaDoorP14
namespace Go.Proofs.YtakbhfnndcnopaaDoor
open Go

/-! ### Reading, as one function -/
noncomputable def rd (s : List UInt8) (v : RS) : Option RS := iter (fun v => some (readStep s v)) v
theorem rd_inl {s : List UInt8} {v v' : RS} (h : readStep s v = .inl v') : rd s v = rd s v' := by
  unfold rd
  rw [iter_eq]
  simp only [h]
theorem rd_inr {s : List UInt8} {v r : RS} (h : readStep s v = .inr r) : rd s v = some r := by
  unfold rd
  rw [iter_eq]
  simp only [h]
theorem readStep_inr {s : List UInt8} {v r : RS} (h : readStep s v = .inr r) : r = v := by
  unfold readStep at h
  split at h
  · split at h
    · cases h
    · cases h; rfl
  · cases h; rfl

/-- Induction along the reading. -/
theorem rd_ind {s : List UInt8} {Q : RS → RS → Prop} (h1 : ∀ v, RI s v → readStep s v = .inr v → Q v v) (h2 : ∀ v v' r, RI s v → readStep s v = .inl v' → RI s v' → RI s r → Q v' r → Q v r) : ∀ v, RI s v → ∃ r, rd s v = some r ∧ RI s r ∧ Q v r := by
  have key : ∀ n (v : RS), s.length - v.1.toNat = n → RI s v → ∃ r, rd s v = some r ∧ RI s r ∧ Q v r := by
    intro n
    induction n using Nat.strongRecOn with
    | _ n ih =>
      intro v hn hv
      have h3 := readStep_ok hv
      cases hr : readStep s v with
      | inl v' =>
        rw [hr] at h3
        simp only at h3
        obtain ⟨r, k1, k2, k3⟩ := ih _ (by omega) v' rfl h3.1
        exact ⟨r, by rw [rd_inl hr]; exact k1, k2, h2 v v' r hv hr h3.1 k2 k3⟩
      | inr r =>
        obtain rfl := readStep_inr hr
        exact ⟨_, rd_inr hr, hv, h1 _ hv hr⟩
  exact fun v hv => key _ v rfl hv
theorem RI0 (s : List UInt8) : RI s ((0 : Int), []) := ⟨by simp, by simp, by simp⟩

theorem open_rd {s : List UInt8} (hs : SLow s) : F_sp_l12Open s = rd s ((0 : Int), []) ∧ F_im_readRecords s = rd s ((0 : Int), []) := by
  obtain ⟨r, k1, _, k2, k3⟩ := rd_ind (s := s) (Q := fun v r => iter (fun v => (S_sp_l12Open_0 s v).ev) v = some r ∧ iter (fun v => (S_im_readRecords_0 s v).ev) v = some r)
    (fun v hv hr => by
      have e1 := l12Open_step hs hv
      have e2 := readRecords_step hs hv
      rw [iter_eq, iter_eq (fun v => (S_im_readRecords_0 s v).ev)]
      simp only [e1, e2, hr]
      exact ⟨trivial, trivial⟩)
    (fun v v' r hv hr _ _ hq => by
      have e1 := l12Open_step hs hv
      have e2 := readRecords_step hs hv
      rw [iter_eq, iter_eq (fun v => (S_im_readRecords_0 s v).ev)]
      simp only [e1, e2, hr]
      exact hq) _ (RI0 s)
  have h1' : L_sp_l12Open_0 s ((0 : Int), []) = some r := k2
  have h2' : L_im_readRecords_0 s ((0 : Int), []) = some r := k3
  rw [k1]
  constructor
  · unfold F_sp_l12Open T_sp_l12Open
    simp (disch := omega) only [EV, h1']
  · unfold F_im_readRecords T_im_readRecords
    simp (disch := omega) only [EV, h2']

/-! ### Lines and what follows them -/
theorem bef_more {b : Nat} {a : List UInt8} (t : List UInt8) (h : hasB a b = true) : bef b (a ++ t) = bef b a := by
  obtain ⟨c, h1, h2, h3⟩ := bef_split h
  have : a ++ t = bef b a ++ c :: (aft b a ++ t) := by
    conv => lhs; rw [h2]
    simp
  rw [this, bef_app h3 h1]
theorem drop_more {s t : List UInt8} {n : Nat} (h : n ≤ s.length) : (s ++ t).drop n = s.drop n ++ t := by
  rw [List.drop_append, show n - s.length = 0 by omega, List.drop_zero]
theorem readStep_more {s : List UInt8} (t : List UInt8) {v v' : RS} (hv : RI s v) (h : readStep s v = .inl v') : readStep (s ++ t) v = .inl v' := by
  have hle : v.1.toNat ≤ s.length := by have := hv.2.1; omega
  unfold readStep at h ⊢
  rw [drop_more hle]
  cases hb : hasB (s.drop v.1.toNat) 10 with
  | false => rw [hb] at h; cases h
  | true =>
    rw [hb] at h
    have hb' : hasB (s.drop v.1.toNat ++ t) 10 = true := by rw [hasB_app, hb]; rfl
    rw [hb', bef_more t hb]
    exact h
/-- What is read of a text is read first of the text and more. -/
theorem rd_more {s : List UInt8} (t : List UInt8) : ∀ v, RI s v → ∃ r, rd s v = some r ∧ RI s r ∧ rd (s ++ t) v = rd (s ++ t) r := by
  intro v hv
  exact rd_ind (s := s) (Q := fun v r => rd (s ++ t) v = rd (s ++ t) r) (fun _ _ _ => rfl) (fun v v' r hv hr _ _ hq => by rw [rd_inl (readStep_more t hv hr)]; exact hq) v hv

/-- A line is no longer than this. -/
theorem line_len {k : Int} {c r : List UInt8} (hk : isIn k 0 59 = true) (h : recordB c r = true) : (line k c r).length ≤ 378 := by
  obtain ⟨_, _, _, _, _, a, b⟩ := rec_parts h
  have hl := text_len (c := c) (r := r) hk
  have hs := sealT_len (text k c r)
  unfold line
  rw [List.length_append, List.length_cons, List.length_nil]
  omega
theorem rd_len {s : List UInt8} : ∀ v, RI s v → v.1 ≤ 378 * (v.2.length : Int) → ∃ r, rd s v = some r ∧ RI s r ∧ r.1 ≤ 378 * (r.2.length : Int) := by
  intro v hv h0
  obtain ⟨r, h1, h2, h3⟩ := rd_ind (s := s) (Q := fun v r => v.1 ≤ 378 * (v.2.length : Int) → r.1 ≤ 378 * (r.2.length : Int)) (fun _ _ _ h => h) (fun v v' r hv hr _ _ hq h => hq (by
    unfold readStep at hr
    split at hr
    next hb =>
      split at hr
      next p hp =>
        cases hr
        obtain ⟨d1, d2, d3⟩ := dec_of (c := p.1) (r := p.2) hp
        have hl := line_len d1 d2
        rw [d3] at hl
        simp only [List.length_append, List.length_cons, List.length_nil] at hl ⊢
        omega
      next => cases hr
    next => cases hr)) v hv
  exact ⟨r, h1, h2, h3 h0⟩
theorem seal_has10 {k : Int} {c r : List UInt8} (h : recordB c r = true) : hasB (sealT (text k c r)) 10 = false := by
  obtain ⟨_, _, _, h1, h2, _⟩ := rec_parts h
  unfold sealT text
  simp only [hasB_app, h1, h2, dig_has (b := 10) (by omega), Bool.or_false, Bool.false_or]
  rfl
/-- A line more is a record more. -/
theorem rd_line {s c r : List UInt8} {recs : List (List UInt8 × List UInt8)} (hs : rd s ((0 : Int), []) = some ((s.length : Int), recs)) (hk : isIn (recs.length : Int) 0 59 = true) (hr : recordB c r = true) :
    rd (s ++ line (recs.length : Int) c r) ((0 : Int), []) = some (((s ++ line (recs.length : Int) c r).length : Int), recs ++ [(c, r)]) := by
  obtain ⟨v, h1, h2, h3⟩ := rd_more (line (recs.length : Int) c r) ((0 : Int), []) (RI0 s)
  rw [hs] at h1
  obtain rfl := Option.some.inj h1
  rw [h3]
  have h10 := seal_has10 (k := (recs.length : Int)) hr
  have hd : Dec (recs.length : Int) (sealT (text (recs.length : Int) c r)) c r := ⟨hk, hr, rfl⟩
  have e1 : bef 10 (line (recs.length : Int) c r) = sealT (text (recs.length : Int) c r) := bef_app h10 rfl
  have e2 : hasB (line (recs.length : Int) c r) 10 = true := by unfold line; rw [hasB_app]; simp [hasB]
  have e3 : ((s ++ line (recs.length : Int) c r).drop ((s.length : Int).toNat)) = line (recs.length : Int) c r := by rw [Int.toNat_natCast]; exact List.drop_left' rfl
  have e4 : readStep (s ++ line (recs.length : Int) c r) ((s.length : Int), recs) = .inl (((s ++ line (recs.length : Int) c r).length : Int), recs ++ [(c, r)]) := by
    unfold readStep
    simp only [e3, e2, e1, dec_some hd, if_true]
    congr 2
    rw [List.length_append]
    unfold line
    rw [List.length_append, List.length_cons, List.length_nil]
    omega
  rw [rd_inl e4]
  apply rd_inr
  unfold readStep
  have e5 : (s ++ line (recs.length : Int) c r).drop ((((s ++ line (recs.length : Int) c r).length : Nat) : Int).toNat) = [] := by
    rw [Int.toNat_natCast]
    exact List.drop_eq_nil_of_le (Nat.le_refl _)
  simp only [e5]
  rfl

/-! ### Valid logs -/
/-- A valid log: all is read, and what is durable is read to its end. -/
structure Val (a b : List UInt8) (n : Int) (recs : List (List UInt8 × List UInt8)) : Prop where
  all : rd (a ++ b) ((0 : Int), []) = some (((a ++ b).length : Int), recs)
  dur : ∃ rs, rd a ((0 : Int), []) = some ((a.length : Int), rs)
  cnt : n = (recs.length : Int)
theorem Val.len {a b : List UInt8} {n : Int} {recs : List (List UInt8 × List UInt8)} (h : Val a b n recs) : recs.length ≤ 60 ∧ ((a ++ b).length : Int) ≤ 378 * (recs.length : Int) := by
  obtain ⟨r, h1, h2, h3⟩ := rd_len (s := a ++ b) ((0 : Int), []) (RI0 _) (by simp)
  rw [h.all] at h1
  obtain rfl := Option.some.inj h1
  exact ⟨h2.2.2, h3⟩
theorem valid_iff {a b : List UInt8} (ha : SLow a) (hb : SLow b) (n : Int) : ∃ v, F_sp_l12Valid a b n = some v ∧ F_im_IsValidLog a b n = some v ∧ (v = true ↔ ∃ recs, Val a b n recs) := by
  have ha' := ha
  have hb' := hb
  unfold SLow at ha hb
  have e0 : a.length + b.length ≤ 9223372036854775807 := by omega
  unfold F_sp_l12Valid T_sp_l12Valid F_im_IsValidLog T_im_IsValidLog
  have el : ((List.length (a ++ b) : Nat) : Int) = (a.length : Int) + (b.length : Int) := by simp
  have ew : IntKind.wrap .i64 ((a.length : Int) + (b.length : Int)) = (a.length : Int) + (b.length : Int) := wrap64 (by omega) (by omega)
  by_cases h : (30000 : Int) < (a.length : Int) + (b.length : Int)
  · refine ⟨false, ?_, ?_, fun h => (by cases h), fun ⟨recs, hv⟩ => ?_⟩
    · simp (disch := omega) only [EV, ew, h]
    · simp (disch := omega) only [EV, e0, el, h]
    · have := hv.len
      omega
  · have hs1 : SLow (a ++ b) := by unfold SLow; omega
    obtain ⟨v, v1, v3, _⟩ := rd_more (s := a ++ b) [] ((0 : Int), []) (RI0 _)
    obtain ⟨u, u1, u3, _⟩ := rd_more (s := a) [] ((0 : Int), []) (RI0 _)
    obtain ⟨w1, w2⟩ := open_rd hs1
    obtain ⟨w3, w4⟩ := open_rd ha'
    rw [v1] at w1 w2
    rw [u1] at w3 w4
    have e1 : ¬ (30000 : Int) < ((List.length (a ++ b) : Nat) : Int) := by omega
    refine ⟨(v.1 == (a.length : Int) + (b.length : Int)) && ((u.1 == (a.length : Int)) && (((v.2.length : Nat) : Int) == n)), ?_, ?_, ?_⟩
    · simp (disch := omega) only [EV, ew, h, e0, w1, w3]
      cases (v.1 == (a.length : Int) + (b.length : Int)) <;> cases (u.1 == (a.length : Int)) <;> rfl
    · simp (disch := omega) only [EV, e0, e1, w2, w4]
      rw [el, show (n == ((v.2.length : Nat) : Int)) = (((v.2.length : Nat) : Int) == n) from Bool.beq_comm ..]
      cases (v.1 == (a.length : Int) + (b.length : Int)) <;> cases (u.1 == (a.length : Int)) <;> rfl
    · obtain ⟨vo, vr⟩ := v
      obtain ⟨uo, ur⟩ := u
      simp only [Bool.and_eq_true, beq_iff_eq]
      constructor
      · rintro ⟨q1, q2, q3⟩
        exact ⟨vr, by rw [v1, el, q1], ⟨ur, by rw [u1, q2]⟩, q3.symm⟩
      · rintro ⟨recs, hv⟩
        have k1 := hv.all
        obtain ⟨rs, k2⟩ := hv.dur
        rw [v1] at k1
        rw [u1] at k2
        have k3 := Option.some.inj k1
        have k4 := Option.some.inj k2
        simp only [Prod.mk.injEq] at k3 k4
        obtain ⟨k5, k6⟩ := k3
        obtain ⟨k7, k8⟩ := k4
        subst k6
        exact ⟨by omega, k7, hv.cnt.symm⟩
/-- A line more in a valid log. -/
theorem Val.line {a b c r : List UInt8} {n : Int} {recs : List (List UInt8 × List UInt8)} (h : Val a b n recs) (hk : isIn n 0 59 = true) (hr : recordB c r = true) : Val a (b ++ line n c r) (n + 1) (recs ++ [(c, r)]) := by
  have hc := h.cnt
  subst hc
  have := rd_line (c := c) (r := r) h.all hk hr
  rw [List.append_assoc] at this
  exact ⟨this, h.dur, by simp⟩
theorem Val.sync {a b : List UInt8} {n : Int} {recs : List (List UInt8 × List UInt8)} (h : Val a b n recs) : Val (a ++ b) [] n recs :=
  ⟨by rw [List.append_nil]; exact h.all, ⟨recs, h.all⟩, h.cnt⟩
theorem Val.uniq {a b : List UInt8} {n : Int} {r1 r2 : List (List UInt8 × List UInt8)} (h : Val a b n r1) (k : Val a b n r2) : r1 = r2 := by
  have := h.all.symm.trans k.all
  simp only [Option.some.injEq, Prod.mk.injEq, true_and] at this
  exact this
theorem sync_sp {a b : List UInt8} (ha : SLow a) (hb : SLow b) (n : Int) : ∃ v, F_sp_SyncLog a b n = some v ∧ (v.1.length ≤ a.length + b.length) ∧ v.2.1 = [] := by
  obtain ⟨v, v1, _, _⟩ := valid_iff ha hb n
  unfold SLow at ha hb
  have e0 : a.length + b.length ≤ 9223372036854775807 := by omega
  refine ⟨if v then (a ++ b, ([], (n, true))) else ([], ([], (0, false))), ?_, ?_, ?_⟩
  · unfold F_sp_SyncLog T_sp_SyncLog
    simp (disch := omega) only [EV, v1, e0]
    cases v <;> rfl
  · cases v <;> simp
  · cases v <;> rfl
theorem append_sp {a b c r : List UInt8} (ha : SLow a) (hb : SLow b) (hc : SLow c) (hr : SLow r) (n : Int) : ∃ v, F_sp_AppendRecord a b n c r = some v ∧ v.1 = a ∧ v.2.1.length ≤ b.length + 378 := by
  obtain ⟨v, v1, _, v3⟩ := valid_iff ha hb n
  unfold F_sp_AppendRecord T_sp_AppendRecord
  simp (disch := omega) only [EV, v1, l12Record_eq hc hr]
  cases v with
  | false => exact ⟨_, rfl, rfl, by simp⟩
  | true =>
    obtain ⟨recs, hv⟩ := v3.1 rfl
    have hl := hv.len
    have hcn := hv.cnt
    cases hrec : recordB c r with
    | false => exact ⟨_, rfl, rfl, by simp⟩
    | true =>
      cases h60 : (n == (60 : Int)) with
      | true => exact ⟨_, rfl, rfl, by simp⟩
      | false =>
        have hne : n ≠ 60 := by simpa using h60
        have hk : isIn n 0 59 = true := isIn_iff.2 ⟨by omega, by omega⟩
        obtain ⟨_, _, _, _, _, ra, rb⟩ := rec_parts hrec
        have hll := line_len hk hrec
        have e0 : b.length + (line n c r).length ≤ 9223372036854775807 := by unfold SLow at hb; omega
        simp (disch := omega) only [EV, l12Line_eq (c := c) (r := r) hk (by omega) (by omega), e0]
        exact ⟨_, rfl, rfl, by simp only [List.length_append]; omega⟩
theorem records_im {a b : List UInt8} (ha : SLow a) (hb : SLow b) (n : Int) : ∃ v, F_im_LogRecords a b n = some v ∧ v.2.length ≤ 60 ∧ (∀ recs, Val a b n recs → v = (true, recs)) := by
  obtain ⟨v, _, v2, v3⟩ := valid_iff ha hb n
  unfold F_im_LogRecords T_im_LogRecords
  simp (disch := omega) only [EV, v2]
  cases v with
  | false => exact ⟨_, rfl, by simp, fun recs h => by have := v3.2 ⟨recs, h⟩; cases this⟩
  | true =>
    obtain ⟨recs, hv⟩ := v3.1 rfl
    have hl := hv.len
    have e0 : a.length + b.length ≤ 9223372036854775807 := by rw [List.length_append] at hl; omega
    obtain ⟨_, w2⟩ := open_rd (s := a ++ b) (by unfold SLow; omega)
    rw [hv.all] at w2
    simp (disch := omega) only [EV, e0, w2]
    exact ⟨_, rfl, hl.1, fun r2 h2 => by rw [hv.uniq h2]⟩
end Go.Proofs.YtakbhfnndcnopaaDoor
