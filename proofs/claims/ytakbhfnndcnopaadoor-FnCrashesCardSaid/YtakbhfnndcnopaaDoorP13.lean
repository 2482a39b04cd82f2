/-
  Plain laws: the log is read alike by both readers.
-/
import Derived.Test.YtakbhfnndcnopaaDoorP12
namespace Go.Proofs.YtakbhfnndcnopaaDoor
open Go

theorem getD_get {α : Type} {l : List α} {d : α} {i : Nat} (h : i < l.length) : l.getD i d = l[i] := by rw [List.getD_eq_getElem?_getD, List.getElem?_eq_getElem h, Option.getD_some]
theorem getD_app {α : Type} {l : List α} (r : List α) {d : α} {i : Nat} (h : i < l.length) : (l ++ r).getD i d = l.getD i d := by rw [List.getD_eq_getElem?_getD, List.getD_eq_getElem?_getD, List.getElem?_append_left h]

theorem l1Split_eq {s : List UInt8} (hs : SLow s) (b : Nat) : ∃ ps, F_sp_l1Split s (b : Int) = some ps ∧ 0 < ps.length ∧ ps.getD 0 [] = bef b s ∧ (ps.length < 2 ↔ hasB s b = false) := by
  unfold SLow at hs
  have pre : ∀ (n : Nat) (hn : n ≤ s.length), (∀ j, j < n → ((s.getD j 0).toNat == b) = false) → hasB (s.take n) b = false := by
    intro n hn h
    unfold hasB
    rw [List.any_eq_false]
    intro x hx
    obtain ⟨j, hj, rfl⟩ := List.mem_iff_getElem.1 hx
    rw [List.length_take] at hj
    have := h j (by omega)
    rw [getD_get (by omega)] at this
    rw [List.getElem_take]
    simp [this]
  obtain ⟨r, hr, hQ⟩ := iter_inv (f := fun v => (S_sp_l1Split_0 (s, (b : Int)) v).ev) (n := s.length) (fun i (q : Int × List (List UInt8)) => (q.1, ((i : Int), q.2)))
    (fun i q => 0 ≤ q.1 ∧ q.1 ≤ i ∧ q.2.length ≤ i ∧ ((q.2 = [] ∧ q.1 = 0 ∧ ∀ j, j < i → ((s.getD j 0).toNat == b) = false) ∨ (0 < q.2.length ∧ q.2.getD 0 [] = bef b s ∧ hasB s b = true)))
    (fun q => 0 ≤ q.1 ∧ q.1 ≤ s.length ∧ q.2.length ≤ s.length ∧ ((q.2 = [] ∧ q.1 = 0 ∧ hasB s b = false) ∨ (0 < q.2.length ∧ q.2.getD 0 [] = bef b s ∧ hasB s b = true)))
    (s0 := ((0 : Int), ([] : List (List UInt8)))) ⟨by simp, by simp, by simp, .inl ⟨rfl, rfl, fun j h => absurd h (by omega)⟩⟩
    (fun i q hi ⟨h1, h2, h3, h4⟩ => by
      obtain ⟨st, ps⟩ := q
      simp only at h1 h2 h3 h4
      have g1 : st ≤ (i : Int) := h2
      have g2 : (i : Int) ≤ (s.length : Int) := by omega
      left
      cases hb : ((s.getD i 0).toNat == b) with
      | false =>
        refine ⟨(st, ps), ?_, h1, by simp only; omega, by simp only; omega, ?_⟩
        · simp (disch := omega) only [EV, S_sp_l1Split_0, hi, castB, hb]
          rfl
        · rcases h4 with ⟨a, c, d⟩ | h4
          · refine .inl ⟨a, c, fun j hj => ?_⟩
            rcases Nat.lt_or_ge j i with h | h
            · exact d j h
            · obtain rfl : j = i := by omega
              exact hb
          · exact .inr h4
      | true =>
        have g3 : (ps.length + List.length ([(List.drop st.toNat (List.take i s))] : List (List UInt8))) * 16 ≤ 140737488355328 := by
          simp only [List.length_cons, List.length_nil]; omega
        refine ⟨((i : Int) + 1, ps ++ [List.drop st.toNat (List.take i s)]), ?_, by simp only; omega, by simp only; omega, by simp only [List.length_append, List.length_cons, List.length_nil]; omega, .inr ?_⟩
        · simp (disch := omega) only [EV, S_sp_l1Split_0, hi, castB, hb, h1, g1, g2, g3]
          rfl
        · have hbs : hasB s b = true := by
            unfold hasB
            rw [List.any_eq_true]
            exact ⟨s.getD i 0, by rw [getD_get hi]; exact List.getElem_mem hi, hb⟩
          refine ⟨by simp, ?_, hbs⟩
          rcases h4 with ⟨a, c, d⟩ | ⟨a, c, d⟩
          · subst a; subst c
            have hp := pre i (by omega) d
            have e : s = s.take i ++ s.getD i 0 :: s.drop (i + 1) := by
              rw [getD_get hi, ← List.drop_eq_getElem_cons hi, List.take_append_drop]
            have h3 : bef b s = s.take i := by
              have := bef_app (r := s.drop (i + 1)) hp (by simpa using hb : (s.getD i 0).toNat = b)
              rwa [← e] at this
            rw [h3]
            simp
          · rw [getD_app _ a]
            exact c)
    (fun q ⟨h1, h2, h3, h4⟩ => ⟨q, by simp (disch := omega) only [EV, S_sp_l1Split_0, Nat.lt_irrefl], h1, h2, h3, by
      rcases h4 with ⟨a, c, d⟩ | h4
      · refine .inl ⟨a, c, ?_⟩
        have := pre s.length (Nat.le_refl _) d
        rwa [List.take_length] at this
      · exact .inr h4⟩)
  have h0 : L_sp_l1Split_0 (s, (b : Int)) ((0 : Int), ((0 : Int), ([] : List (List UInt8)))) = some r := hr
  obtain ⟨st, ps⟩ := r
  obtain ⟨h1, h2, h3, h4⟩ := hQ
  simp only at h1 h2 h3 h4
  have g3 : (ps.length + List.length ([(List.drop st.toNat (List.take s.length s))] : List (List UInt8))) * 16 ≤ 140737488355328 := by
    simp only [List.length_cons, List.length_nil]; omega
  refine ⟨ps ++ [List.drop st.toNat (List.take s.length s)], ?_, by simp, ?_, ?_⟩
  · unfold F_sp_l1Split T_sp_l1Split
    simp (disch := omega) only [EV, h0, h1, h2, g3]
  · rcases h4 with ⟨rfl, rfl, h⟩ | ⟨a, c, d⟩
    · simp [bef_no h]
    · rw [getD_app _ a]
      exact c
  · rcases h4 with ⟨rfl, rfl, h⟩ | ⟨a, c, d⟩
    · simp [h]
    · simp only [List.length_append, List.length_cons, List.length_nil, d]
      constructor
      · intro h; omega
      · intro h; cases h

/-! ### What a line says -/
def Dec (k : Int) (t c r : List UInt8) : Prop := isIn k 0 59 = true ∧ recordB c r = true ∧ line k c r = t ++ [10]
def decR (t : List UInt8) (k : Int) : List UInt8 × (List UInt8 × Bool) :=
  if (bef 35 t).length < (Lib.decDigits k.toNat ++ [32]).length then ([], ([], false))
  else if (bef 35 t).take (Lib.decDigits k.toNat ++ [32]).length == Lib.decDigits k.toNat ++ [32] then
    if hasB ((bef 35 t).drop (Lib.decDigits k.toNat ++ [32]).length) 64 then
      if recordB (bef 64 ((bef 35 t).drop (Lib.decDigits k.toNat ++ [32]).length)) (aft 64 ((bef 35 t).drop (Lib.decDigits k.toNat ++ [32]).length)) then
        (bef 64 ((bef 35 t).drop (Lib.decDigits k.toNat ++ [32]).length), (aft 64 ((bef 35 t).drop (Lib.decDigits k.toNat ++ [32]).length),
          line k (bef 64 ((bef 35 t).drop (Lib.decDigits k.toNat ++ [32]).length)) (aft 64 ((bef 35 t).drop (Lib.decDigits k.toNat ++ [32]).length)) == t ++ [10]))
      else (bef 64 ((bef 35 t).drop (Lib.decDigits k.toNat ++ [32]).length), (aft 64 ((bef 35 t).drop (Lib.decDigits k.toNat ++ [32]).length), false))
    else ([], ([], false))
  else ([], ([], false))
def decF (k : Int) (t : List UInt8) : Option (List UInt8 × List UInt8) :=
  if isIn k 0 59 then if (decR t k).2.2 then some ((decR t k).1, (decR t k).2.1) else none else none

theorem line_seal {k : Int} {t c r : List UInt8} (h : line k c r = t ++ [10]) : t = sealT (text k c r) := (List.append_cancel_right h).symm
theorem dec_some {k : Int} {t c r : List UInt8} (h : Dec k t c r) : decF k t = some (c, r) := by
  obtain ⟨h1, h2, h3⟩ := h
  have ht := line_seal h3
  have hb : bef 35 t = text k c r := by rw [ht]; exact seal_bef (text_has35 h2)
  have h64 := (rec_parts h2).2.2.1
  obtain ⟨e1, e2, e3⟩ := cr_bef64 (r := r) h64
  have et : text k c r = (Lib.decDigits k.toNat ++ [32]) ++ (c ++ 64 :: r) := by simp [text]
  unfold decF
  have e4 : (bef 35 t).drop (Lib.decDigits k.toNat ++ [32]).length = c ++ 64 :: r := by rw [hb, et]; exact List.drop_left' rfl
  have e5 : (bef 35 t).take (Lib.decDigits k.toNat ++ [32]).length = Lib.decDigits k.toNat ++ [32] := by rw [hb, et]; exact List.take_left' rfl
  have e6 : ¬ (bef 35 t).length < (Lib.decDigits k.toNat ++ [32]).length := by rw [hb, et, List.length_append]; omega
  have e7 : decR t k = (c, (r, true)) := by
    unfold decR
    rw [e4, e5, e1, e2, e3, if_neg e6]
    simp [h2, h3]
  rw [e7]
  simp [h1]
theorem dec_of {k : Int} {t c r : List UInt8} (h : decF k t = some (c, r)) : Dec k t c r := by
  unfold decF at h
  split at h
  next h1 =>
    split at h
    next h2 =>
      unfold decR at h h2
      split at h2
      · cases h2
      · next h3 =>
        rw [if_neg h3] at h
        split at h2
        next h4 =>
          rw [if_pos h4] at h
          split at h2
          next h5 =>
            rw [if_pos h5] at h
            split at h2
            next h6 =>
              rw [if_pos h6] at h
              simp only [Option.some.injEq, Prod.mk.injEq] at h
              obtain ⟨rfl, rfl⟩ := h
              exact ⟨h1, h6, by simpa using h2⟩
            next => cases h2
          next => cases h2
        next => cases h2
    next => cases h
  next => cases h

theorem l12Decode_eq {t : List UInt8} {k : Int} (ht : SLow t) (hk : isIn k 0 59 = true) : F_sp_l12Decode t k = some (decR t k) := by
  have hk' := hk
  unfold isIn at hk'
  simp only [Bool.and_eq_true, decide_eq_true_eq] at hk'
  have hd := dig_len (u := k.toNat) (by omega)
  have ht' := ht
  unfold SLow at ht'
  have hn := l1Num_eq hk'.1 (by omega)
  obtain ⟨ps, p1, p2, p3, p4⟩ := l1Split_eq ht 35
  have p1' : F_sp_l1Split t (35 : Int) = some ps := p1
  have hbl := bef_le 35 t
  have e1 : List.length (Lib.decDigits k.toNat) + List.length ([32] : List UInt8) ≤ 9223372036854775807 := by simp; omega
  have z : Int.toNat (0 : Int) = 0 := rfl
  have p2' : (0 : Int) < (ps.length : Int) := by omega
  unfold F_sp_l12Decode T_sp_l12Decode decR
  generalize hpre : Lib.decDigits k.toNat ++ [32] = pre at *
  simp (disch := omega) only [EV, hn, e1, hpre, p1', z, p2, p3]
  generalize hbody : bef 35 t = body at *
  by_cases h1 : body.length < pre.length
  · simp (disch := omega) only [EV, h1]
  · have g1 : (0 : Int) ≤ (pre.length : Int) := by omega
    have g2 : (pre.length : Int) ≤ (body.length : Int) := by omega
    simp (disch := omega) only [EV, h1, g1, g2, List.drop_zero]
    cases h2 : (List.take pre.length body == pre) with
    | false =>
      simp (disch := omega) only [EV]
      rfl
    | true =>
      simp (disch := omega) only [EV, List.take_length]
      have hrl : (body.drop pre.length).length ≤ body.length := by rw [List.length_drop]; omega
      generalize hrest : body.drop pre.length = rest at *
      have hrs : SLow rest := by unfold SLow; omega
      obtain ⟨qs, q1, q2, q3, q4⟩ := l1Split_eq hrs 64
      have q1' : F_sp_l1Split rest (64 : Int) = some qs := q1
      have q2' : (0 : Int) < (qs.length : Int) := by omega
      simp (disch := omega) only [EV, q1', q2, q3, castB]
      cases h3 : hasB rest 64 with
      | false =>
        rw [bef_no h3]
        simp (disch := omega) only [EV, beq_self_eq_true]
        rfl
      | true =>
        have hl := bef_lt h3
        have g3 : ((bef 64 rest).length == rest.length) = false := by rw [beq_eq_false_iff_ne]; omega
        have g4 : (0 : Int) ≤ ((bef 64 rest).length : Int) + 1 := by omega
        have g5 : ((bef 64 rest).length : Int) + 1 ≤ (rest.length : Int) := by omega
        have g6 : Int.toNat (((bef 64 rest).length : Int) + 1) = (bef 64 rest).length + 1 := by omega
        have hal : (aft 64 rest).length ≤ rest.length := by unfold aft; rw [List.length_drop]; omega
        have e7 : List.drop ((bef 64 rest).length + 1) rest = aft 64 rest := rfl
        have s1 : SLow (bef 64 rest) := by unfold SLow; omega
        have s2 : SLow (aft 64 rest) := by unfold SLow; omega
        simp (disch := omega) only [EV, g3, g4, g5, g6, e7, l12Record_eq s1 s2]
        cases h4 : recordB (bef 64 rest) (aft 64 rest) with
        | false =>
          simp (disch := omega) only [EV]
          rfl
        | true =>
          obtain ⟨_, _, _, _, _, a, b⟩ := rec_parts h4
          have e8 : List.length t + List.length ([10] : List UInt8) ≤ 9223372036854775807 := by simp; omega
          simp (disch := omega) only [EV, l12Line_eq (c := bef 64 rest) (r := aft 64 rest) hk (by omega) (by omega), e8]

/-! ### The readers -/
abbrev RS := Int × List (List UInt8 × List UInt8)
def readStep (s : List UInt8) (v : RS) : RS ⊕ RS :=
  if hasB (s.drop v.1.toNat) 10 then
    match decF (v.2.length : Int) (bef 10 (s.drop v.1.toNat)) with
    | some p => .inl (v.1 + ((bef 10 (s.drop v.1.toNat)).length : Int) + 1, v.2 ++ [p])
    | none => .inr v
  else .inr v
def RI (s : List UInt8) (v : RS) : Prop := 0 ≤ v.1 ∧ v.1 ≤ (s.length : Int) ∧ v.2.length ≤ 60
theorem decF_in {k : Int} {t : List UInt8} {p : List UInt8 × List UInt8} (h : decF k t = some p) : isIn k 0 59 = true := by
  unfold decF at h
  split at h
  next h1 => exact h1
  next => cases h
theorem readStep_ok {s : List UInt8} {v : RS} (h : RI s v) : match readStep s v with
    | .inl v' => RI s v' ∧ (s.length - v'.1.toNat) < (s.length - v.1.toNat)
    | .inr r => RI s r := by
  obtain ⟨h1, h2, h3⟩ := h
  unfold readStep
  cases hb : hasB (s.drop v.1.toNat) 10 with
  | true =>
    simp only [if_true]
    have hl := bef_lt hb
    rw [List.length_drop] at hl
    cases hd : decF (v.2.length : Int) (bef 10 (s.drop v.1.toNat)) with
    | some p =>
      have := isIn_iff.1 (decF_in hd)
      refine ⟨⟨by simp only; omega, by simp only; omega, by simp only [List.length_append, List.length_cons, List.length_nil]; omega⟩, ?_⟩
      simp only
      omega
    | none => exact ⟨h1, h2, h3⟩
  | false => exact ⟨h1, h2, h3⟩

theorem l12Open_step {s : List UInt8} (hs : SLow s) {v : RS} (h : RI s v) : (S_sp_l12Open_0 s v).ev = some (readStep s v) := by
  obtain ⟨h1, h2, h3⟩ := h
  have hs' := hs
  unfold SLow at hs'
  obtain ⟨off, recs⟩ := v
  simp only at h1 h2 h3
  unfold S_sp_l12Open_0 readStep
  by_cases g1 : off < (s.length : Int)
  · by_cases g2 : ((recs.length : Nat) : Int) < (60 : Int)
    · have g3 : off ≤ (s.length : Int) := h2
      simp (disch := omega) only [EV, g1, g2, g3, h1, List.take_length]
      have hrl : (s.drop off.toNat).length + off.toNat = s.length := by rw [List.length_drop]; omega
      generalize hrest : s.drop off.toNat = rest at *
      have hrs : SLow rest := by unfold SLow; omega
      obtain ⟨ps, p1, p2, p3, p4⟩ := l1Split_eq hrs 10
      have p1' : F_sp_l1Split rest (10 : Int) = some ps := p1
      have p2' : (0 : Int) < (ps.length : Int) := by omega
      have hbl := bef_le 10 rest
      have hk : isIn ((recs.length : Nat) : Int) 0 59 = true := isIn_iff.2 ⟨by omega, by omega⟩
      have z : Int.toNat (0 : Int) = 0 := rfl
      simp (disch := omega) only [EV, p1', p2, p3, z, l12Decode_eq (t := bef 10 rest) (by unfold SLow; omega) hk]
      cases hb : hasB rest 10 with
      | false =>
        have e : ((ps.length : Nat) : Int) < 2 := by have := p4.2 hb; omega
        simp (disch := omega) only [EV, e]
        rfl
      | true =>
        have e : ¬ ((ps.length : Nat) : Int) < 2 := by
          intro h
          have := p4.1 (by omega)
          rw [hb] at this
          cases this
        have hl := bef_lt hb
        unfold decF
        simp (disch := omega) only [EV, e, hk]
        cases hd : (decR (bef 10 rest) ((recs.length : Nat) : Int)).2.2 with
        | false =>
          simp (disch := omega) only [EV]
          rfl
        | true =>
          have g4 : (recs.length + List.length ([((decR (bef 10 rest) ((recs.length : Nat) : Int)).1, (decR (bef 10 rest) ((recs.length : Nat) : Int)).2.1)] : List (List UInt8 × List UInt8))) * 32 ≤ 140737488355328 := by
            simp only [List.length_cons, List.length_nil]; omega
          simp (disch := omega) only [EV, g4]
    · have e : decF ((recs.length : Nat) : Int) (bef 10 (s.drop off.toNat)) = none := by
        unfold decF
        rw [if_neg]
        intro h
        have := isIn_iff.1 h
        omega
      rw [e]
      simp (disch := omega) only [EV, g1, g2]
      split <;> rfl
  · have e : s.drop off.toNat = [] := List.drop_eq_nil_of_le (by omega)
    rw [e]
    simp (disch := omega) only [EV, g1]
    rfl
theorem Cut_one {s : List UInt8} (hs : SLow s) (c : UInt8) : ∃ y b, F_strings_Cut s [c] = some (bef c.toNat s, (y, b)) ∧ SLow y ∧ (hasB s c.toNat = true → y = aft c.toNat s) := by
  have h := Cut_eq hs c
  have hs' := hs
  unfold SLow at hs'
  cases hb : hasB s c.toNat with
  | true =>
    rw [hb] at h
    refine ⟨_, _, h, ?_, fun _ => rfl⟩
    unfold SLow aft
    rw [List.length_drop]
    omega
  | false =>
    rw [hb] at h
    rw [bef_no hb]
    exact ⟨_, _, h, by unfold SLow; simp, fun h => by cases h⟩
theorem readRecords_step {s : List UInt8} (hs : SLow s) {v : RS} (h : RI s v) : (S_im_readRecords_0 s v).ev = some (readStep s v) := by
  obtain ⟨h1, h2, h3⟩ := h
  have hs' := hs
  unfold SLow at hs'
  obtain ⟨off, recs⟩ := v
  simp only at h1 h2 h3
  unfold S_im_readRecords_0 readStep
  have e10 : F_strings_IndexByte (s.drop off.toNat) (10 : Int) = some (if hasB (s.drop off.toNat) 10 then ((bef 10 (s.drop off.toNat)).length : Int) else -1) := IndexByte_eq (s.drop off.toNat) 10
  have hrl : (s.drop off.toNat).length + off.toNat = s.length := by rw [List.length_drop]; omega
  simp (disch := omega) only [EV, h1, h2, List.take_length, e10]
  cases hb : hasB (s.drop off.toNat) 10 with
  | false =>
    have : (-1 : Int) < 0 := by omega
    simp only [Bool.false_eq_true, if_false]
    simp (disch := omega) only [EV, this]
  | true =>
    simp only [if_true]
    have hl := bef_lt hb
    have g1 : ¬ ((bef 10 (s.drop off.toNat)).length : Int) < 0 := by omega
    have g2 : off ≤ off + ((bef 10 (s.drop off.toNat)).length : Int) + 1 := by omega
    have g3 : off + ((bef 10 (s.drop off.toNat)).length : Int) + 1 ≤ (s.length : Int) := by omega
    have g4 : (0 : Int) ≤ ((bef 10 (s.drop off.toNat)).length : Int) := by omega
    have e1 : List.drop off.toNat (List.take (off + ((bef 10 (s.drop off.toNat)).length : Int) + 1).toNat s) = bef 10 (s.drop off.toNat) ++ [10] := by
      rw [List.drop_take, show (off + ((bef 10 (s.drop off.toNat)).length : Int) + 1).toNat - off.toNat = (bef 10 (s.drop off.toNat)).length + 1 by omega]
      exact take_bef1 hb rfl
    simp (disch := omega) only [EV, g1, g2, g3, g4, h1, e1]
    generalize ht : bef 10 (s.drop off.toNat) = t at *
    have hts : SLow t := by unfold SLow; omega
    have g5 : ((t.length : Nat) : Int) ≤ ((List.length (t ++ [10]) : Nat) : Int) := by simp; omega
    have e2 : List.take t.length (t ++ [10]) = t := List.take_left' rfl
    have hc := bef_le 35 t
    obtain ⟨y0, b0, c0, _, _⟩ := Cut_one hts 35
    have c0' : F_strings_Cut t ([35] : List UInt8) = some (bef 35 t, (y0, b0)) := c0
    obtain ⟨x, hx⟩ := AppendChecksum_any (s := bef 35 t) (by unfold SLow at *; omega)
    have hv : F_im_VerifyChecksum t = some (if x.2 && x.1 == t then (bef 35 t, true) else ([], false)) := by
      unfold F_im_VerifyChecksum T_im_VerifyChecksum
      simp (disch := omega) only [EV, c0', hx]
      cases x.2 <;> cases x.1 == t <;> rfl
    simp (disch := omega) only [EV, g5, e2, List.drop_zero, hv]
    generalize hy : (if x.2 && x.1 == t then (bef 35 t, true) else (([] : List UInt8), false)) = y
    have hys : SLow y.1 := by
      subst hy
      unfold SLow at *
      split <;> simp only [List.length_nil] <;> omega
    obtain ⟨y1, b1, c1, s1, a1⟩ := Cut_one hys 32
    have c1' : F_strings_Cut y.1 ([32] : List UInt8) = some (bef 32 y.1, (y1, b1)) := c1
    obtain ⟨y2, b2, c2, s2, a2⟩ := Cut_one s1 64
    have c2' : F_strings_Cut y1 ([64] : List UInt8) = some (bef 64 y1, (y2, b2)) := c2
    have hcl := bef_le 64 y1
    have s3 : SLow (bef 64 y1) := by unfold SLow at *; omega
    simp (disch := omega) only [EV, c1', c2', im_EncodeRecord_eq (k := ((recs.length : Nat) : Int)) s3 s2]
    have g6 : ∀ p : List UInt8 × List UInt8, (recs.length + List.length ([p] : List (List UInt8 × List UInt8))) * 32 ≤ 140737488355328 := by
      intro p; simp only [List.length_cons, List.length_nil]; omega
    cases hd : decF ((recs.length : Nat) : Int) t with
    | some p =>
      obtain ⟨c, r⟩ := p
      obtain ⟨d1, d2, d3⟩ := dec_of hd
      have hseal := line_seal d3
      have hb35 : bef 35 t = text ((recs.length : Nat) : Int) c r := by rw [hseal]; exact seal_bef (text_has35 d2)
      obtain ⟨_, _, r64, _, _, ra, rb⟩ := rec_parts d2
      have htl := text_len (c := c) (r := r) d1
      have hx2 : x = (t, true) := by
        have := AppendChecksum_eq (s := text ((recs.length : Nat) : Int) c r) (by omega) (text_has35 d2)
        rw [hb35, this, ← hseal] at hx
        exact (Option.some.inj hx).symm
      have hy2 : y = (text ((recs.length : Nat) : Int) c r, true) := by
        rw [← hy, hx2, hb35]
        simp
      obtain ⟨t1, t2, t3⟩ := text_bef32 ((recs.length : Nat) : Int) c r
      have hy1 : y1 = c ++ 64 :: r := by
        rw [a1 (by rw [hy2]; exact t3), hy2]
        exact t2
      obtain ⟨q1, q2, q3⟩ := cr_bef64 (r := r) r64
      have hy3 : bef 64 y1 = c := by rw [hy1]; exact q1
      have hy4 : y2 = r := by
        rw [a2 (by rw [hy1]; exact q3), hy1]
        exact q2
      have he : encF ((recs.length : Nat) : Int) c r = (t ++ [10], true) := by
        unfold encF encB
        rw [d1, d2, d3]
        rfl
      rw [hy3, hy4, he]
      simp (disch := omega) only [EV, beq_self_eq_true, g6]
    | none =>
      unfold encF
      cases he : encB ((recs.length : Nat) : Int) (bef 64 y1) y2 with
      | false =>
        simp (disch := omega) only [EV, Bool.false_eq_true]
      | true =>
        simp only [if_true]
        have hne : (line ((recs.length : Nat) : Int) (bef 64 y1) y2 == t ++ [10]) = false := by
          rw [beq_eq_false_iff_ne]
          intro heq
          unfold encB at he
          simp only [Bool.and_eq_true] at he
          have := dec_some ⟨he.1, he.2, heq⟩
          rw [hd] at this
          cases this
        simp (disch := omega) only [EV, hne]
/-- Both readers read the same. -/
theorem read_both {s : List UInt8} (hs : SLow s) : ∃ v, F_sp_l12Open s = some v ∧ F_im_readRecords s = some v ∧ RI s v := by
  have key : ∀ n (v : RS), s.length - v.1.toNat = n → RI s v → ∃ r, iter (fun v => (S_sp_l12Open_0 s v).ev) v = some r ∧ iter (fun v => (S_im_readRecords_0 s v).ev) v = some r ∧ RI s r := by
    intro n
    induction n using Nat.strongRecOn with
    | _ n ih =>
      intro v hn hv
      have h1 := l12Open_step hs hv
      have h2 := readRecords_step hs hv
      have h3 := readStep_ok hv
      rw [iter_eq, iter_eq (fun v => (S_im_readRecords_0 s v).ev)]
      simp only [h1, h2]
      cases hr : readStep s v with
      | inl v' =>
        rw [hr] at h3
        simp only at h3 ⊢
        exact ih _ (by omega) v' rfl h3.1
      | inr r =>
        rw [hr] at h3
        exact ⟨r, rfl, rfl, h3⟩
  obtain ⟨r, h1, h2, h3⟩ := key _ ((0 : Int), []) rfl ⟨by simp, by simp, by simp⟩
  have h1' : L_sp_l12Open_0 s ((0 : Int), []) = some r := h1
  have h2' : L_im_readRecords_0 s ((0 : Int), []) = some r := h2
  refine ⟨r, ?_, ?_, h3⟩
  · unfold F_sp_l12Open T_sp_l12Open
    simp (disch := omega) only [EV, h1']
  · unfold F_im_readRecords T_im_readRecords
    simp (disch := omega) only [EV, h2']
end Go.Proofs.YtakbhfnndcnopaaDoor
