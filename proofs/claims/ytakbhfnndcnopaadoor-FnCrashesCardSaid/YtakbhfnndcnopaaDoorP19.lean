/-
  Plain laws: what a log reads as behind a crash.
-/
import Derived.Test.YtakbhfnndcnopaaDoorP17
namespace Go.Proofs.YtakbhfnndcnopaaDoor
open Go

/-- Reading goes on, and keeps what it has. -/
theorem rd_mono {s : List UInt8} : ∀ v, RI s v → ∃ r, rd s v = some r ∧ RI s r ∧ v.1 ≤ r.1 ∧ (∃ t, r.2 = v.2 ++ t) ∧ readStep s r = .inr r := by
  intro v hv
  exact rd_ind (s := s) (Q := fun v r => v.1 ≤ r.1 ∧ (∃ t, r.2 = v.2 ++ t) ∧ readStep s r = .inr r) (fun v _ h => ⟨Int.le_refl _, ⟨[], by simp⟩, h⟩) (fun v v' r hv hr _ _ ⟨h1, ⟨t, h2⟩, h3⟩ => by
    unfold readStep at hr
    split at hr
    next hb =>
      split at hr
      next p hp =>
        cases hr
        simp only at h1 h2
        exact ⟨by omega, ⟨[p] ++ t, by rw [h2]; simp⟩, h3⟩
      next => cases hr
    next => cases hr) v hv

theorem readStep_part {s : List UInt8} {v v' : RS} {n : Nat} (hv : RI s v) (h : readStep s v = .inl v') (hn : v'.1 ≤ (n : Int)) : readStep (s.take n) v = .inl v' := by
  have h0 := hv.1
  unfold readStep at h ⊢
  cases hb : hasB (s.drop v.1.toNat) 10 with
  | false => rw [hb] at h; cases h
  | true =>
    rw [hb] at h
    simp only [if_true] at h
    obtain ⟨c, k1, k2, k3⟩ := bef_split hb
    have hlen : v.1 + ((bef 10 (s.drop v.1.toNat)).length : Int) + 1 ≤ (n : Int) := by
      split at h
      · cases h
        exact hn
      · cases h
    have e1 : (s.take n).drop v.1.toNat = bef 10 (s.drop v.1.toNat) ++ c :: (aft 10 (s.drop v.1.toNat)).take (n - v.1.toNat - (bef 10 (s.drop v.1.toNat)).length - 1) := by
      rw [List.drop_take]
      conv => lhs; rw [k2]
      rw [List.take_append, List.take_of_length_le (by omega)]
      congr 1
      rw [show n - v.1.toNat - (bef 10 (s.drop v.1.toNat)).length = (n - v.1.toNat - (bef 10 (s.drop v.1.toNat)).length - 1) + 1 by omega, List.take_succ_cons]
      rfl
    have e2 : bef 10 ((s.take n).drop v.1.toNat) = bef 10 (s.drop v.1.toNat) := by rw [e1]; exact bef_app k3 k1
    have e3 : hasB ((s.take n).drop v.1.toNat) 10 = true := by rw [e1, hasB_app]; simp [hasB, k1]
    rw [e2, e3]
    exact h
/-- What was read reads as before. -/
theorem rd_part {s : List UInt8} {r : RS} (h : rd s ((0 : Int), []) = some r) : rd (s.take r.1.toNat) ((0 : Int), []) = some r := by
  obtain ⟨r', k1, k2, _, k3⟩ := rd_ind (s := s) (Q := fun v r => v.1 ≤ r.1 ∧ rd (s.take r.1.toNat) v = some r)
    (fun v hv h => ⟨Int.le_refl _, rd_inr (by
      unfold readStep
      have : (s.take v.1.toNat).drop v.1.toNat = [] := List.drop_eq_nil_of_le (by rw [List.length_take]; omega)
      rw [this]
      rfl)⟩)
    (fun v v' r hv hr hv' hr' ⟨h1, h2⟩ => by
      have h3 := readStep_ok hv
      rw [hr] at h3
      simp only at h3
      have h0 := hv'.1
      have hlt : v.1 ≤ v'.1 := by have := hv.1; have := hv.2.1; omega
      exact ⟨by omega, by rw [rd_inl (readStep_part hv hr (by omega))]; exact h2⟩) _ (RI0 s)
  rw [h] at k1
  obtain rfl := Option.some.inj k1
  exact k3

/-- The bytes of a line. -/
theorem seal_bytes {k : Int} {c r : List UInt8} (h : recordB c r = true) : ∀ x ∈ sealT (text k c r), 32 ≤ x.toNat ∧ x.toNat ≤ 126 := by
  unfold recordB bytesB at h
  simp only [Bool.and_eq_true, Bool.not_eq_true', decide_eq_true_eq, List.all_eq_true] at h
  obtain ⟨_, ⟨h1, _⟩, _, h2, _⟩ := h
  have ok : ∀ x : UInt8, byOK x = true → 32 ≤ x.toNat ∧ x.toNat ≤ 126 := fun x hx => by
    unfold byOK at hx
    simp only [Bool.and_eq_true, decide_eq_true_eq] at hx
    exact ⟨hx.1, hx.2.1⟩
  have dg : ∀ u, ∀ x ∈ Lib.decDigits u, 32 ≤ x.toNat ∧ x.toNat ≤ 126 := fun u x hx => by have := dig_mem hx; omega
  intro x hx
  unfold sealT text at hx
  simp only [List.mem_append, List.mem_singleton] at hx
  rcases hx with ((((((hx | hx) | hx) | hx) | hx) | hx) | hx)
  · exact dg _ x hx
  · subst hx; decide
  · exact ok x (h1 x hx)
  · subst hx; decide
  · exact ok x (h2 x hx)
  · subst hx; decide
  · exact dg _ x hx

def inv (c : UInt8) : UInt8 := UInt8.ofNat (255 - c.toNat)
theorem inv_nat (c : UInt8) : (inv c).toNat = 255 - c.toNat := by
  have := c.toNat_lt
  unfold inv
  rw [UInt8.toNat_ofNat']
  omega

/-- What a beginning of a text that is read to its end reads as. -/
theorem rd_begin {q t : List UInt8} {recs : List (List UInt8 × List UInt8)} (h : rd (q ++ t) ((0 : Int), []) = some (((q ++ t).length : Int), recs)) : ∃ e rs, rd q ((0 : Int), []) = some (e, rs) ∧ ∃ m, recs = rs ++ m := by
  obtain ⟨v, h1, h2, h3⟩ := rd_more t ((0 : Int), []) (RI0 q)
  obtain ⟨hv1, hv2, hv3⟩ := h2
  have hri : RI (q ++ t) v := ⟨hv1, by rw [List.length_append]; omega, hv3⟩
  obtain ⟨r, k1, _, _, ⟨m, k2⟩, _⟩ := rd_mono v hri
  rw [h3, k1] at h
  obtain rfl := Option.some.inj h
  exact ⟨v.1, v.2, h1, m, k2⟩

/-- And with its next byte turned. -/
theorem rd_torn {q t : List UInt8} {z : UInt8} {recs : List (List UInt8 × List UInt8)} (h : rd (q ++ z :: t) ((0 : Int), []) = some (((q ++ z :: t).length : Int), recs)) : ∃ e rs, rd (q ++ [inv z]) ((0 : Int), []) = some (e, rs) ∧ ∃ m, recs = rs ++ m := by
  obtain ⟨v, h1, h2, h3⟩ := rd_more (z :: t) ((0 : Int), []) (RI0 q)
  obtain ⟨v', h1', h2', h3'⟩ := rd_more [inv z] ((0 : Int), []) (RI0 q)
  rw [h1] at h1'
  obtain rfl := Option.some.inj h1'
  obtain ⟨hv1, hv2, hv3⟩ := h2
  have hri : RI (q ++ z :: t) v := ⟨hv1, by rw [List.length_append]; omega, hv3⟩
  obtain ⟨r, k1, _, _, ⟨m, k2⟩, _⟩ := rd_mono v hri
  have hfull := h
  rw [h3, k1] at h
  obtain rfl := Option.some.inj h
  refine ⟨v.1, v.2, ?_, m, k2⟩
  rw [h3']
  apply rd_inr
  -- where reading of q stopped
  obtain ⟨w, w1, _, _, _, w2⟩ := rd_mono ((0 : Int), []) (RI0 q)
  rw [h1] at w1
  obtain rfl := Option.some.inj w1
  have hle : v.1.toNat ≤ q.length := by omega
  unfold readStep at w2 ⊢
  rw [drop_more hle]
  cases hb : hasB (q.drop v.1.toNat) 10 with
  | true =>
    rw [hb] at w2
    have hb' : hasB (q.drop v.1.toNat ++ [inv z]) 10 = true := by rw [hasB_app, hb]; rfl
    rw [hb', bef_more _ hb]
    exact w2
  | false =>
    -- the byte that is turned is none that turns into the line's end
    have hz : (inv z).toNat ≠ 10 := by
      rw [inv_nat]
      have hstep : ∃ v2, readStep (q ++ z :: t) v = .inl v2 := by
        cases hs : readStep (q ++ z :: t) v with
        | inl v2 => exact ⟨v2, rfl⟩
        | inr r =>
          have hr := readStep_inr hs
          subst hr
          rw [rd_inr hs] at k1
          have := congrArg Prod.fst (Option.some.inj k1)
          simp only [List.length_append, List.length_cons] at this
          omega
      obtain ⟨v2, hs⟩ := hstep
      unfold readStep at hs
      rw [drop_more hle] at hs
      cases hb2 : hasB (q.drop v.1.toNat ++ z :: t) 10 with
      | false => rw [hb2] at hs; cases hs
      | true =>
        rw [hb2] at hs
        simp only [if_true] at hs
        split at hs
        next p hp =>
          obtain ⟨d1, d2, d3⟩ := dec_of (c := p.1) (r := p.2) hp
          have hseal := line_seal d3
          have hby := seal_bytes (k := (v.2.length : Int)) d2
          rw [← hseal] at hby
          intro he
          have hlt := z.toNat_lt
          have hz10 : z.toNat ≠ 10 := by omega
          obtain ⟨c, c1, c2, c3⟩ := bef_split hb2
          -- z lies in the line
          have hmem : z ∈ bef 10 (q.drop v.1.toNat ++ z :: t) := by
            unfold bef
            have hall : ∀ x ∈ q.drop v.1.toNat, (!(x.toNat == 10)) = true := fun x hx => by
              unfold hasB at hb
              rw [List.any_eq_false] at hb
              simpa using hb x hx
            rw [List.takeWhile_append_of_pos hall]
            apply List.mem_append_right
            rw [List.takeWhile_cons]
            simp [hz10]
          have := hby z hmem
          omega
        next => cases hs
    have hb' : hasB (q.drop v.1.toNat ++ [inv z]) 10 = false := by
      rw [hasB_app, hb]
      simp [hasB, hz]
    rw [hb']
    rfl

/-! ### The crash -/
/-- The bytes that survive. -/
def crs (a b : List UInt8) (k : Nat) (torn : Bool) : List UInt8 := a ++ if torn && decide (0 < k) then b.take (k - 1) ++ [inv (b.getD (k - 1) 0)] else b.take k
theorem bytesOf_nat : ∀ s : List UInt8, bytesOf (List.map (fun c => ((UInt8.toNat c : Nat) : Int)) s) = s
  | [] => rfl
  | c :: s => by
    have := bytesOf_nat s
    unfold bytesOf at this ⊢
    rw [List.map_cons, List.map_cons, this]
    congr 1
    rw [Int.toNat_natCast]
    exact UInt8.ofNat_toNat
theorem bytesOf_set (s : List UInt8) (j : Nat) (x : Int) : bytesOf (List.set (List.map (fun c => ((UInt8.toNat c : Nat) : Int)) s) j x) = s.set j (UInt8.ofNat x.toNat) := by
  have h := bytesOf_nat s
  unfold bytesOf at h ⊢
  rw [List.map_set, h]
theorem turn_u8 (c : UInt8) : UInt8.ofNat (IntKind.wrap .u8 (255 - ((c.toNat : Nat) : Int))).toNat = inv c := by
  have hc := c.toNat_lt
  have h : IntKind.wrap .u8 (255 - ((c.toNat : Nat) : Int)) = (255 - ((c.toNat : Nat) : Int)) % 256 := by
    unfold IntKind.wrap
    simp [IntKind.bits, IntKind.signed]
  have h2 : IntKind.wrap .u8 (255 - ((c.toNat : Nat) : Int)) = ((255 - c.toNat : Nat) : Int) := by rw [h]; omega
  rw [h2, Int.toNat_natCast]
  rfl
theorem getD_nat (s : List UInt8) {j : Nat} (hj : j < s.length) : (List.map (fun c => ((UInt8.toNat c : Nat) : Int)) s).getD j 0 = (((s.getD j 0).toNat : Nat) : Int) := by
  rw [List.getD_eq_getElem?_getD, List.getElem?_map, List.getD_eq_getElem?_getD, List.getElem?_eq_getElem hj]
  rfl
theorem set_last {s : List UInt8} {k : Nat} (hk : 0 < k) (hl : s.length = k) (y : UInt8) : s.set (k - 1) y = s.take (k - 1) ++ [y] := by
  rw [List.set_eq_take_append_cons_drop, if_pos (by omega), List.drop_eq_nil_of_le (by omega)]
theorem crash_both {a b : List UInt8} (ha : SLow a) (hb : SLow b) (n k : Int) (torn : Bool) : ∃ v, F_sp_CrashLog a b n k torn = some v ∧ F_im_CrashLog a b n k torn = some v ∧ (v.2 = true → (∃ recs, Val a b n recs) ∧ 0 ≤ k ∧ k ≤ (b.length : Int) ∧ v.1 = crs a b k.toNat torn) := by
  obtain ⟨v, v1, v2, v3⟩ := valid_iff ha hb n
  unfold SLow at ha hb
  unfold F_sp_CrashLog T_sp_CrashLog F_im_CrashLog T_im_CrashLog
  simp (disch := omega) only [EV, v1, v2, l1In_eq, between_eq]
  cases v with
  | false => exact ⟨_, rfl, rfl, fun h => by cases h⟩
  | true =>
    obtain ⟨recs, hv⟩ := v3.1 rfl
    cases hk : isIn k 0 (b.length : Int) with
    | false => exact ⟨_, rfl, rfl, fun h => by cases h⟩
    | true =>
      obtain ⟨k0, k1⟩ := isIn_iff.1 hk
      obtain ⟨j, rfl⟩ : ∃ j : Nat, k = (j : Int) := ⟨k.toNat, by omega⟩
      have hj : j ≤ b.length := by omega
      have hbl : (b.take j).length = j := by rw [List.length_take]; omega
      have g1 : a.length + (b.take j).length ≤ 9223372036854775807 := by omega
      have z : List.drop 0 (List.take j b) = b.take j := List.drop_zero
      simp (disch := omega) only [EV, k0, k1, z, bytesOf_nat, g1]
      cases torn with
      | false => exact ⟨_, rfl, rfl, fun _ => ⟨⟨recs, hv⟩, trivial, trivial, by unfold crs; simp⟩⟩
      | true =>
        by_cases hp : 0 < j
        · have hp' : (0 : Int) < (j : Int) := by omega
          have l1 : ((List.length (List.map (fun c => ((UInt8.toNat c : Nat) : Int)) (b.take j)) : Nat) : Int) = (j : Int) := by rw [List.length_map, hbl]
          have l1' : List.length (List.map (fun c => ((UInt8.toNat c : Nat) : Int)) (b.take j)) = j := by rw [List.length_map, hbl]
          have l2 : ((List.length (List.map (fun c => ((UInt8.toNat c : Nat) : Int)) (a ++ b.take j)) : Nat) : Int) = ((a.length + j : Nat) : Int) := by rw [List.length_map, List.length_append, hbl]
          have l2' : List.length (List.map (fun c => ((UInt8.toNat c : Nat) : Int)) (a ++ b.take j)) = a.length + j := by rw [List.length_map, List.length_append, hbl]
          have t1 : Int.toNat ((j : Int) - 1) = j - 1 := by omega
          have t2 : Int.toNat (((a.length + j : Nat) : Int) - 1) = a.length + j - 1 := by omega
          have q1 : (List.map (fun c => ((UInt8.toNat c : Nat) : Int)) (b.take j)).getD (j - 1) 0 = (((b.getD (j - 1) 0).toNat : Nat) : Int) := by
            rw [getD_nat _ (by omega)]
            rw [List.getD_eq_getElem?_getD, List.getElem?_take, if_pos (by omega), ← List.getD_eq_getElem?_getD]
          have q2 : (List.map (fun c => ((UInt8.toNat c : Nat) : Int)) (a ++ b.take j)).getD (a.length + j - 1) 0 = (((b.getD (j - 1) 0).toNat : Nat) : Int) := by
            rw [getD_nat _ (by rw [List.length_append]; omega)]
            rw [List.getD_eq_getElem?_getD, List.getElem?_append_right (by omega), show a.length + j - 1 - a.length = j - 1 by omega, List.getElem?_take, if_pos (by omega), ← List.getD_eq_getElem?_getD]
          have s1 : (b.take j).set (j - 1) (inv (b.getD (j - 1) 0)) = b.take (j - 1) ++ [inv (b.getD (j - 1) 0)] := by
            rw [set_last hp hbl, List.take_take, Nat.min_eq_left (by omega)]
          have s2 : (a ++ b.take j).set (a.length + j - 1) (inv (b.getD (j - 1) 0)) = a ++ (b.take (j - 1) ++ [inv (b.getD (j - 1) 0)]) := by
            rw [List.set_append_right _ _ (by omega), show a.length + j - 1 - a.length = j - 1 by omega, s1]
          have i1 : inR ((j : Int) - 1) (List.length (List.map (fun c => ((UInt8.toNat c : Nat) : Int)) (b.take j))) = true := by unfold inR; rw [l1']; simp only [Bool.and_eq_true, decide_eq_true_eq]; omega
          have i2 : inR (((a.length + j : Nat) : Int) - 1) (List.length (List.map (fun c => ((UInt8.toNat c : Nat) : Int)) (a ++ b.take j))) = true := by unfold inR; rw [l2']; simp only [Bool.and_eq_true, decide_eq_true_eq]; omega
          have j1 : j - 1 < j := by omega
          have j2 : a.length + j - 1 < a.length + j := by omega
          have g2 : a.length + (b.take (j - 1) ++ [inv (b.getD (j - 1) 0)]).length ≤ 9223372036854775807 := by rw [List.length_append, List.length_take, List.length_cons, List.length_nil]; omega
          have hn1 : -9223372036854775808 ≤ (j : Int) - 1 := by omega
          rw [l2]
          simp (disch := omega) only [EV, hp', l1, t1, t2, i1, i2, l1', l2', j1, j2, q1, q2, bytesOf_set, turn_u8, s1, s2, g2, hp]
          exact ⟨_, rfl, rfl, fun _ => ⟨⟨recs, hv⟩, trivial, trivial, by unfold crs; simp [hp]⟩⟩
        · have hp' : ¬ (0 : Int) < (j : Int) := by omega
          simp (disch := omega) only [EV, hp', hp]
          exact ⟨_, rfl, rfl, fun _ => ⟨⟨recs, hv⟩, trivial, trivial, by unfold crs; simp [hp]⟩⟩
/-- What a crash leaves reads as a beginning of the records. -/
theorem crs_read {a b : List UInt8} {n : Int} {recs : List (List UInt8 × List UInt8)} (h : Val a b n recs) {k : Nat} (hk : k ≤ b.length) (torn : Bool) : ∃ e rs, rd (crs a b k torn) ((0 : Int), []) = some (e, rs) ∧ (a.length : Int) ≤ e ∧ e ≤ ((crs a b k torn).length : Int) ∧ rs.length ≤ 60 ∧ (∃ m, recs = rs ++ m) ∧ (torn = false → k = b.length → rs = recs) := by
  have hmain : ∃ e rs, rd (crs a b k torn) ((0 : Int), []) = some (e, rs) ∧ (∃ m, recs = rs ++ m) ∧ (torn = false → k = b.length → rs = recs) := by
    unfold crs
    cases ht : torn && decide (0 < k) with
    | false =>
      simp only [Bool.false_eq_true, if_false]
      have e1 : a ++ b = (a ++ b.take k) ++ b.drop k := by rw [List.append_assoc, List.take_append_drop]
      have h2 := h.all
      rw [e1] at h2
      obtain ⟨e, rs, k1, k2⟩ := rd_begin h2
      refine ⟨e, rs, k1, k2, fun _ hkl => ?_⟩
      rw [hkl, List.take_length, h.all] at k1
      have := congrArg Prod.snd (Option.some.inj k1)
      exact this.symm
    | true =>
      simp only [Bool.and_eq_true, decide_eq_true_eq] at ht
      simp only [if_true]
      have e1 : a ++ b = (a ++ b.take (k - 1)) ++ b.getD (k - 1) 0 :: b.drop k := by
        rw [List.append_assoc]
        congr 1
        have hlt : k - 1 < b.length := by omega
        have h3 : b.drop (k - 1) = b[k - 1] :: b.drop (k - 1 + 1) := List.drop_eq_getElem_cons hlt
        rw [show k - 1 + 1 = k by omega] at h3
        rw [getD_get hlt, ← h3, List.take_append_drop]
      have h2 := h.all
      rw [e1] at h2
      obtain ⟨e, rs, k1, k2⟩ := rd_torn h2
      rw [List.append_assoc] at k1
      exact ⟨e, rs, k1, k2, fun hf => by rw [hf] at ht; cases ht.1⟩
  obtain ⟨e, rs, h1, h2, h3⟩ := hmain
  obtain ⟨rs0, hd⟩ := h.dur
  have hx : ∃ x, crs a b k torn = a ++ x := ⟨_, rfl⟩
  obtain ⟨x, hx⟩ := hx
  obtain ⟨v, w1, w2, w3⟩ := rd_more x ((0 : Int), []) (RI0 a)
  rw [hd] at w1
  obtain rfl := Option.some.inj w1
  have hri : RI (a ++ x) ((a.length : Int), rs0) := ⟨w2.1, by rw [List.length_append]; simp only; omega, w2.2.2⟩
  obtain ⟨r, y1, y2, y3, _, _⟩ := rd_mono _ hri
  have h1' := h1
  rw [hx, w3, y1] at h1'
  obtain rfl := Option.some.inj h1'
  exact ⟨e, rs, h1, y3, by rw [hx]; exact y2.2.1, y2.2.2, h2, h3⟩
end Go.Proofs.YtakbhfnndcnopaaDoor
