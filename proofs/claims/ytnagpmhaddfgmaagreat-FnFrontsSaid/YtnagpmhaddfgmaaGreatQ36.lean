/-
 The law of fronts: no point dominates another one, each set is met by a point, the best set under a limit is told by the front.
-/
import Derived.Test.YtnagpmhaddfgmaaGreatP69
import Derived.Test.YtnagpmhaddfgmaaGreatPR
import Derived.Test.YtnagpmhaddfgmaaGreatP36
namespace Go.Proofs.YtnagpmhaddfgmaaGreat
theorem wah {B : Int} {l : List Int} {i : Int} (c : Int) (h : CK B l i) (hB : B ≤ 900000) : ∃ x i' c', wia l i c = some (x, (l, (i', c'))) ∧ CK (B + 10) l i' := by
 obtain ⟨b, i1, c1, e1, h1⟩ := one_ok 24 c h (by omega) (by omega)
 unfold wia wacu
 cases b with
 | true =>
  obtain ⟨x, i2, c2, e2, _, h2⟩ := among_ok [(0 : Int), (6 : Int), (-1 : Int)] c1 h1 (by omega) (by decide)
  simp (disch := omega) only [EV, e1, e2]
  exact ⟨_, _, _, rfl, h2.mono (by omega)⟩
 | false =>
  obtain ⟨x, i2, c2, e2, _, _, h2⟩ := pick_ok 5 c1 h1 (by omega) (by omega)
  simp (disch := omega) only [EV, e1, e2]
  exact ⟨_, _, _, rfl, h2.mono (by omega)⟩
theorem wjc {l : List Int} (h : CK 0 l 0) : ∃ a b o d, wuy l = some (a, (b, (o, d))) ∧ DrF o d := by
 obtain ⟨x, i1, c1, e1, hx, h1⟩ := among_ok [(5 : Int), (5 : Int), (6 : Int), (7 : Int)] 0 h (by omega) (by decide)
 obtain ⟨M, rfl, hM⟩ : ∃ M : Nat, x = (M : Int) ∧ 1 ≤ M ∧ M ≤ 7 := by
  simp only [List.mem_cons, List.not_mem_nil, or_false] at hx
  exact ⟨x.toNat, by omega, by omega, by omega⟩
 obtain ⟨o, d, i2, c2, e2, hd, h2⟩ := fieldMost_ok hM c1 h1 (by omega)
 obtain ⟨a, i3, c3, e3, h3⟩ := wah c2 h2 (by omega)
 obtain ⟨b, i4, c4, e4, _⟩ := wah c3 h3 (by omega)
 unfold wuy wacv
 simp (disch := omega) only [EV, e1, e2, e3, e4]
 exact ⟨_, _, _, _, rfl, hd⟩
theorem wjd {l : List Int} (h : CK 0 l 0) : ∃ a b lim o d, wxx l = some (a, (b, (lim, (o, d)))) ∧ DrF o d := by
 obtain ⟨o, d, i2, c2, e2, hd, h2⟩ := field_ok 0 h (by omega)
 obtain ⟨a, i3, c3, e3, h3⟩ := wah c2 h2 (by omega)
 obtain ⟨b, i4, c4, e4, h4⟩ := wah c3 h3 (by omega)
 obtain ⟨x, i1, c1, e1, hx, h1⟩ := among_ok [(0 : Int), (1 : Int), (2 : Int), (3 : Int), (5 : Int), (8 : Int), (13 : Int), (21 : Int), (999 : Int), (-1 : Int), (4611686018427387904 : Int), (-9223372036854775808 : Int)] c4 h4 (by omega) (by decide)
 unfold wxx wahx
 simp (disch := omega) only [EV, e2, e3, e4, e1]
 exact ⟨_, _, _, _, _, rfl, hd⟩
theorem wpd {l : List Int} (h : CK 0 l 0) : ∃ o d k s, wye l = some (o, (d, (k, s))) ∧ DrF o d ∧ s.length ≤ 8 := by
 obtain ⟨o, d, i2, c2, e2, hd, h2⟩ := field_ok 0 h (by omega)
 obtain ⟨s, i3, c3, e3, hs, h3⟩ := wzy (o := o) (d := d) hd.lo c2 h2 (by omega)
 obtain ⟨k, i4, c4, e4, _⟩ := wah c3 h3 (by omega)
 unfold wye waip
 simp (disch := omega) only [EV, e2, e3, e4]
 exact ⟨_, _, _, _, rfl, hd, hs⟩
theorem waru (c : List Int) (a b : Int) (ok : Bool) (o : List Int) (ds : List (List Int)) (P : List (Int × Int)) (hP : P.length ≤ 1000) : wsf (c, (a, (b, (ok, (P, (o, (ds, P))))))) 0 = some (.inl ()) := by
 have h := iter_allR (f := fun v => (wee (c, (a, (b, (ok, (P, (o, (ds, P))))))) v).ev) (n := P.length) (mk := fun i => (i : Int)) (p := fun _ => true) (yes := .inl ()) (no := .inr ())
  (fun i hi _ => by
   simp (disch := omega) only [EV, wee, hi, beq_self_eq_true]
   rfl)
  (by simp (disch := omega) only [EV, wee, Nat.lt_irrefl])
 have e : ((List.range P.length).all fun _ => true) = true := by simp
 rw [e] at h
 exact h
theorem warv (P : List (Int × Int)) (lim p : Int) (hP : P.length ≤ 1000) (hex : ∃ q ∈ P, q.2 ≤ lim) (hp : ∀ i, i < P.length → (P.getD i (0, 0)).2 ≤ lim → (∀ j, j < i → ¬ (P.getD j (0, 0)).2 ≤ lim) → (P.getD i (0, 0)).1 = p)
  (a b q : Int) (k1 k2 k3 k4 : Bool) (o : List Int) (ds ss : List (List Int)) (F : List (Int × Int)) :
  wgg (a, (b, (k1, (lim, (k2, (p, (k3, (q, (k4, (o, (ds, (F, (ss, P))))))))))))) (false, 0) = some (.inl true) := by
 obtain ⟨i0, h0⟩ : ∃ i0, P.findIdx? (fun q => decide (q.2 ≤ lim)) = some i0 := by
  cases hf : P.findIdx? (fun q => decide (q.2 ≤ lim)) with
  | some i0 => exact ⟨i0, rfl⟩
  | none =>
   obtain ⟨q, hq, hl⟩ := hex
   have := List.findIdx?_eq_none_iff.1 hf q hq
   simp [hl] at this
 obtain ⟨hi0, hq0, hbef⟩ := List.findIdx?_eq_some_iff_getElem.1 h0
 have hget : ∀ j (hj : j < P.length), P.getD j (0, 0) = P[j] := fun j hj => by rw [List.getD_eq_getElem?_getD, List.getElem?_eq_getElem hj]; rfl
 have hq0' : (P.getD i0 (0, 0)).2 ≤ lim := by rw [hget i0 hi0]; simpa using hq0
 have hno : ∀ j, j < i0 → ¬ (P.getD j (0, 0)).2 ≤ lim := fun j hj => by
  rw [hget j (by omega)]
  have := hbef j hj
  simpa using this
 have hpi := hp i0 hi0 hq0' hno
 unfold wgg
 have key : ∀ k i, i + k = i0 → iter (fun v => (wap (a, (b, (k1, (lim, (k2, (p, (k3, (q, (k4, (o, (ds, (F, (ss, P))))))))))))) v).ev) (false, (i : Int)) = some (.inl true) := by
  intro k
  induction k with
  | zero =>
   intro i hi
   have : i = i0 := by omega
   subst this
   rw [iter_eq]
   have e : (wap (a, (b, (k1, (lim, (k2, (p, (k3, (q, (k4, (o, (ds, (F, (ss, P))))))))))))) (false, (i : Int))).ev = some (.inl (true, ((i + 1 : Nat) : Int))) := by
    simp (disch := omega) only [EV, wap, hi0, hq0', hpi, beq_self_eq_true]
    rfl
   rw [e]
   simp only
   rw [iter_eq]
   have e2 : (wap (a, (b, (k1, (lim, (k2, (p, (k3, (q, (k4, (o, (ds, (F, (ss, P))))))))))))) (true, ((i + 1 : Nat) : Int))).ev = some (.inr (.inl true)) := by
    by_cases h : i + 1 < P.length
    ·simp (disch := omega) only [EV, wap, h]
    ·simp (disch := omega) only [EV, wap, h]
   rw [e2]
  | succ k ih =>
   intro i hi
   rw [iter_eq]
   have e : (wap (a, (b, (k1, (lim, (k2, (p, (k3, (q, (k4, (o, (ds, (F, (ss, P))))))))))))) (false, (i : Int))).ev = some (.inl (false, ((i + 1 : Nat) : Int))) := by
    simp (disch := omega) only [EV, wap, show i < P.length by omega, hno i (by omega)]
    rfl
   rw [e]
   exact ih (i + 1) (by omega)
 exact key i0 0 (by omega)
theorem wzz {o : List Int} {ds : List (List Int)} (hf : Fld o ds) {s : List Int} (hs : s ∈ setsOf o.length) : openB o ds s = true := by
 obtain ⟨h1, h7⟩ := wfc hf
 obtain ⟨b1, b2, _⟩ := (setsP h1 h7).rising s hs
 unfold openB
 rw [fieldB_iff.2 hf, b1, decide_eq_true b2]
 rfl
theorem wcl {o : List Int} {ds : List (List Int)} (ho : Low1 o) (hd : Low2 ds) (hf : Fld o ds) {s : List Int} (hs : s ∈ setsOf o.length) {k : Int} (hk : isIn k 1 5 = true) : wow o ds s k = some (valueOf o ds s k, true) := by
 obtain ⟨h1, h7⟩ := wfc hf
 obtain ⟨_, _, hl⟩ := setP_places h7 (setsP h1 h7) hs
 rw [war ho hd hl]
 unfold objOf
 rw [wzz hf hs, hk]
 rfl
theorem warw {o : List Int} {ds : List (List Int)} (ho : Low1 o) (hd : Low2 ds) {a b : Int} (hb : ww o ds a b = true) :
  wgh (a, (b, (o, (ds, ((waa o ds a b).map (·.1), (waa o ds a b).map (·.2)))))) 0 = some (.inl ()) := by
 have hf := wac hb
 have hab : isIn a 1 5 = true ∧ isIn b 1 5 = true := by
  unfold ww at hb
  simp only [Bool.and_eq_true] at hb
  exact hb.2
 have hF := waw hf a b
 have hpw := wfi o ds a b
 have hmem := fun q h => wbl (o := o) (ds := ds) (a := a) (b := b) (q := q) h
 generalize waa o ds a b = F at hF hpw hmem
 have hl1 : (F.map (·.1)).length = F.length := List.length_map _
 have hl2 : (F.map (·.2)).length = F.length := List.length_map _
 have h := iter_allR (f := fun v => (wcf (a, (b, (o, (ds, (F.map (·.1), F.map (·.2)))))) v).ev) (n := F.length) (mk := fun i => (i : Int)) (p := fun _ => true) (yes := .inl ()) (no := .inr ())
  (fun i hi _ => by
   have hg1 := wcj F hi
   have hg2 := wui F hi
   obtain ⟨hm1, hm2⟩ := hmem _ (getD_mem (d := mk0) hi)
   have e1 := wcl ho hd hf hm1 hab.1
   have e2 := wcl ho hd hf hm1 hab.2
   by_cases h0 : 0 < i
   ·have hi' : i - 1 < F.length := by omega
    have hg3 := wcj F hi'
    have hp : (F.getD (i - 1) mk0).1.1 < (F.getD i mk0).1.1 ∧ (F.getD i mk0).1.2 < (F.getD (i - 1) mk0).1.2 := by
     rw [List.getD_eq_getElem?_getD, List.getD_eq_getElem?_getD, List.getElem?_eq_getElem hi, List.getElem?_eq_getElem hi']
     exact List.pairwise_iff_getElem.1 hpw (i - 1) i hi' hi (by omega)
    generalize F.getD i mk0 = q at *
    generalize F.getD (i - 1) mk0 = r at *
    have hw : ((i : Int) - 1) = ((i - 1 : Nat) : Int) := by omega
    have hz : (0 : Int) < (i : Int) := by omega
    have n1 : ¬ q.1.1 ≤ r.1.1 := by omega
    have n2 : ¬ r.1.2 ≤ q.1.2 := by omega
    rw [hm2] at n1 n2 hg1
    simp (disch := omega) only [EV, wcf, hl1, hl2, hi, hi', hg1, hg2, hg3, e1, e2, beq_self_eq_true, hw, hz, n1, n2]
    rfl
   ·have hz : ¬ (0 : Int) < (i : Int) := by omega
    generalize F.getD i mk0 = q at *
    rw [hm2] at hg1
    simp (disch := omega) only [EV, wcf, hl1, hl2, hi, hg1, hg2, e1, e2, beq_self_eq_true, hz]
    rfl)
  (by simp (disch := omega) only [EV, wcf, hl1, Nat.lt_irrefl])
 have e : ((List.range F.length).all fun _ => true) = true := by simp
 rw [e] at h
 exact h
def bitB (x s : Nat) : Bool := intB (IntKind.wrap .i64 (BitVec.toNat ((BitVec.ofInt (IntKind.bits .i64) (Int.fdiv (x : Int) (2 ^ (min s (IntKind.bits .i64))))) &&& (BitVec.ofInt (IntKind.bits .i64) (1 : Int))))) 1
def wkx (n x : Nat) : List Int := (List.range n).foldl (fun acc s => bif bitB x s then acc ++ [(s : Int)] else acc) []
def chkB (n : Nat) : Bool := (List.range (2 ^ n)).all fun x => Nat.beq x 0 || (setsOf n).any fun t => lstB (wkx n x) t
theorem waaa : ∀ n : Nat, 1 ≤ n → n ≤ 7 → chkB n = true
 | 0, h, _ => by omega
 | 1, _, _ => by kernel_rfl
 | 2, _, _ => by kernel_rfl
 | 3, _, _ => by kernel_rfl
 | 4, _, _ => by kernel_rfl
 | 5, _, _ => by kernel_rfl
 | 6, _, _ => by kernel_rfl
 | 7, _, _ => by kernel_rfl
 | n + 8, _, h => by omega
theorem wun {n : Nat} (h1 : 1 ≤ n) (h7 : n ≤ 7) {x : Nat} (hx : 1 ≤ x) (hx2 : x < 2 ^ n) : wkx n x ∈ setsOf n := by
 have h := List.all_eq_true.1 (waaa n h1 h7) x (List.mem_range.2 hx2)
 rw [Bool.or_eq_true] at h
 rcases h with h | h
 ·have := Nat.eq_of_beq_eq_true h
  omega
 ·obtain ⟨t, ht, e⟩ := List.any_eq_true.1 h
  rw [wuk e]
  exact ht
theorem wane {a : Int} : (a == 1) = intB a 1 := by
 cases a with
 | ofNat n =>
  show (Int.ofNat n == Int.ofNat 1) = Nat.beq n 1
  cases h : Nat.beq n 1 with
  | true => rw [Nat.eq_of_beq_eq_true h]; rfl
  | false =>
   rw [beq_eq_false_iff_ne]
   intro e
   rw [Int.ofNat.inj e] at h
   cases h
 | negSucc n => rfl
theorem warx (a b : Int) (x : Nat) (o : List Int) (ds : List (List Int)) (F : List (Int × Int)) (hn : o.length ≤ 7) : wsg (a, (b, ((x : Int), (o, (ds, F))))) ((0 : Int), ([] : List Int)) = some (wkx o.length x) := by
 have h := iter_fold (f := fun v => (wbe (a, (b, ((x : Int), (o, (ds, F))))) v).ev) (n := o.length) (mk := fun i (acc : List Int) => ((i : Int), acc)) (I := fun i acc => acc.length ≤ i)
  (g := fun acc s => bif bitB x s then acc ++ [(s : Int)] else acc) (fin := fun acc => acc) (s0 := []) (Nat.le_refl _)
  (fun i acc hi hI => by
   have hb : (acc.length + List.length [(i : Int)]) * 8 ≤ 140737488355328 := by simp only [List.length_singleton]; omega
   have hz : (0 : Int) ≤ (i : Int) := by omega
   have hbit : (IntKind.wrap .i64 (BitVec.toNat ((BitVec.ofInt (IntKind.bits .i64) (Int.fdiv (x : Int) (2 ^ (min i (IntKind.bits .i64))))) &&& (BitVec.ofInt (IntKind.bits .i64) (1 : Int)))) == 1) = bitB x i := wane
   cases hc : bitB x i with
   | true =>
    rw [hc] at hbit
    refine ⟨?_, by simp only [cond_true, List.length_append, List.length_singleton]; omega⟩
    have hs : (wbe (a, (b, ((x : Int), (o, (ds, F))))) ((i : Int), acc)).ev = some (.inl (IntKind.wrap .i64 ((i : Int) + 1), acc ++ [(i : Int)])) := by
     unfold wbe
     rw [Tr.ev_t, decide_eq_true (show ((i : Nat) : Int) < ((List.length o : Nat) : Int) by omega), cond_true, Tr.ev_g, decide_eq_true hz, cond_true, Tr.ev_t]
     simp only [Int.toNat_natCast]
     rw [hbit, cond_true, Tr.ev_g, decide_eq_true hb, cond_true]
     rfl
    rw [hs, wrapN (by omega)]
    rfl
   | false =>
    rw [hc] at hbit
    refine ⟨?_, by simp only [cond_false]; omega⟩
    have hs : (wbe (a, (b, ((x : Int), (o, (ds, F))))) ((i : Int), acc)).ev = some (.inl (IntKind.wrap .i64 ((i : Int) + 1), acc)) := by
     unfold wbe
     rw [Tr.ev_t, decide_eq_true (show ((i : Nat) : Int) < ((List.length o : Nat) : Int) by omega), cond_true, Tr.ev_g, decide_eq_true hz, cond_true, Tr.ev_t]
     simp only [Int.toNat_natCast]
     rw [hbit, cond_false]
     rfl
    rw [hs, wrapN (by omega)]
    rfl)
  (fun acc _ => by simp (disch := omega) only [EV, wbe, Nat.lt_irrefl])
 exact h.1
theorem wanf (a b x p q : Int) (k1 k2 : Bool) (o : List Int) (ds : List (List Int)) (F : List (Int × Int)) (hF : F.length ≤ 1000) : wgi (a, (b, (x, (p, (k1, (q, (k2, (o, (ds, F))))))))) (false, (0 : Int)) = some (F.any fun r => decide (r.1 ≤ p) && decide (r.2 ≤ q)) := by
 have h := iter_foldl (f := fun v => (wat (a, (b, (x, (p, (k1, (q, (k2, (o, (ds, F))))))))) v).ev) F (0, 0) (mk := fun i (s : Bool) => (s, (i : Int))) (I := fun _ _ => True)
  (g := fun s r => s || (decide (r.1 ≤ p) && decide (r.2 ≤ q))) (fin := fun s => s) (s0 := false) trivial
  (fun i s hi _ => by
   refine ⟨?_, trivial⟩
   cases s with
   | true =>
    simp (disch := omega) only [EV, wat, hi]
    rfl
   | false =>
    by_cases h1 : (F.getD i (0, 0)).1 ≤ p
    ·simp (disch := omega) only [EV, wat, hi, h1]
     rfl
    ·simp (disch := omega) only [EV, wat, hi, h1]
     rfl)
  (fun s _ => by simp (disch := omega) only [EV, wat, Nat.lt_irrefl])
 have e : wgi (a, (b, (x, (p, (k1, (q, (k2, (o, (ds, F))))))))) (false, (0 : Int)) = _ := h.1
 rw [e]
 have key : ∀ (F : List (Int × Int)) (s : Bool), F.foldl (fun s r => s || (decide (r.1 ≤ p) && decide (r.2 ≤ q))) s = (s || F.any fun r => decide (r.1 ≤ p) && decide (r.2 ≤ q)) := by
  intro F
  induction F with
  | nil => intro s; simp
  | cons r F ih => intro s; rw [List.foldl_cons, ih, List.any_cons, Bool.or_assoc]
 rw [key, Bool.false_or]
theorem wary : ∀ n : Nat, n ≤ 7 → IntKind.wrap .i64 ((1 : Int) * 2 ^ (min n (IntKind.bits .i64))) = ((2 ^ n : Nat) : Int)
 | 0, _ => rfl
 | 1, _ => rfl
 | 2, _ => rfl
 | 3, _ => rfl
 | 4, _ => rfl
 | 5, _ => rfl
 | 6, _ => rfl
 | 7, _ => rfl
 | n + 8, h => by omega
theorem warz {o : List Int} {ds : List (List Int)} (ho : Low1 o) (hd : Low2 ds) {a b : Int} (hb : ww o ds a b = true) :
  wgj (a, (b, (o, (ds, (waa o ds a b).map (·.1))))) 1 = some (.inl ()) := by
 have hf := wac hb
 obtain ⟨h1, h7⟩ := wfc hf
 have hab : isIn a 1 5 = true ∧ isIn b 1 5 = true := by
  unfold ww at hb
  simp only [Bool.and_eq_true] at hb
  exact hb.2
 have hF := waw hf a b
 have hP : ((waa o ds a b).map (·.1)).length ≤ 1000 := by rw [List.length_map]; omega
 have hpow := pow2_le h7
 have hpow2 : 2 ^ 7 ≤ 128 := by decide
 have hpos : 1 ≤ 2 ^ o.length := Nat.one_le_two_pow
 have hsh := wary o.length h7
 have hz : (0 : Int) ≤ ((o.length : Nat) : Int) := by omega
 have h := iter_allR (f := fun v => (wef (a, (b, (o, (ds, (waa o ds a b).map (·.1))))) v).ev) (n := 2 ^ o.length - 1) (mk := fun i => ((i + 1 : Nat) : Int)) (p := fun _ => true) (yes := .inl ()) (no := .inr ())
  (fun i hi _ => by
   have hm := wun h1 h7 (x := i + 1) (by omega) (by omega)
   have e8 := warx a b (i + 1) o ds ((waa o ds a b).map (·.1)) h7
   have e1 := wcl ho hd hf hm hab.1
   have e2 := wcl ho hd hf hm hab.2
   have e10 := wanf a b ((i + 1 : Nat) : Int) (valueOf o ds (wkx o.length (i + 1)) a) (valueOf o ds (wkx o.length (i + 1)) b) true true o ds _ hP
   have hany : (((waa o ds a b).map (·.1)).any fun r => decide (r.1 ≤ valueOf o ds (wkx o.length (i + 1)) a) && decide (r.2 ≤ valueOf o ds (wkx o.length (i + 1)) b)) = true := by
    obtain ⟨q, hq, q1, q2⟩ := wey (ds := ds) (a := a) (b := b) hm
    exact List.any_eq_true.2 ⟨q.1, List.mem_map.2 ⟨q, hq, rfl⟩, by simp [q1, q2]⟩
   rw [hany] at e10
   have hlt : i + 1 < 2 ^ o.length := by omega
   have hb2 : i + 1 < 129 := by omega
   generalize 2 ^ o.length = N at *
   simp (disch := omega) only [EV, wef, hz, hsh, hlt, e8, e1, e2, e10]
   rfl)
  (by
   have e : 2 ^ o.length - 1 + 1 = 2 ^ o.length := by omega
   rw [e]
   generalize 2 ^ o.length = N at *
   simp (disch := omega) only [EV, wef, hz, hsh, Nat.lt_irrefl])
 have e : ((List.range (2 ^ o.length - 1)).all fun _ => true) = true := by simp
 rw [e] at h
 exact h
theorem wang {l : List Int} (h : l.length ≤ 1000) : Low1 l := by unfold Low1; omega
set_option maxHeartbeats 4000000 in
theorem wje (code : List Int) (hfit : Fit (.slice (.int .u8)) code) : wajl code = some true := by
 unfold wajl wajk wabr wabq
 by_cases hbig : (65536 : Int) < (code.length : Int)
 ·simp (disch := omega) only [EV, hbig]
 ·have hck : CK 0 code 0 := ⟨fun x hx => fitB (hfit.2 x hx), by omega, by omega, by omega⟩
  obtain ⟨a, b, o, ds, eA, hA⟩ := wjc hck
  obtain ⟨x, y, lim, o2, ds2, eB, hB⟩ := wjd hck
  obtain ⟨o3, ds3, k3, s3, eC, hC, hs3⟩ := wpd hck
  have a1 := hA.o1
  have a2 := hA.d2
  have b1 := hB.o1
  have b2 := hB.d2
  have c1 := hC.o1
  have c2 := hC.d2
  have c3 : Low1 s3 := wang (by omega)
  have f1 := wbn a1 a2 a b
  have f2 := whw a1 a2 a b
  have f3 := wev a1 a2 a b
  have f4 := weu a1 a2 a b
  have f5 := wew b1 b2 x y lim
  obtain ⟨f6, hul⟩ := wex b1 b2 x y lim
  have f7 := wbn b1 b2 x y
  have g1 := war c1 c2 c3 k3
  have g2 := wcg c1 c2 c3 k3
  have hlen := wpb (o := o) (ds := ds) (a := a) (b := b)
  have hP : ((wz o ds a b).map (·.1)).length ≤ 1000 := by rw [List.length_map]; omega
  have l0 := waru code a b (ww o ds a b) o ds ((wz o ds a b).map (·.1)) hP
  have hlow : Low2 ((wz o ds a b).map (·.2)) := ⟨by rw [List.length_map]; omega, fun r hr => by
   obtain ⟨q, hq, rfl⟩ := List.mem_map.1 hr
   unfold wz at hq
   cases hb : ww o ds a b with
   | false => rw [hb] at hq; cases hq
   | true =>
    rw [hb] at hq
    obtain ⟨h1, h7⟩ := wfc (wac hb)
    exact (setP_places h7 (setsP h1 h7) (wbl hq).1).2.2⟩
  have t1 := wum (b := (wz o ds a b).map (·.2)) hlow
  have t2 := wod (b := (wab o2 ds2 x y lim).1) hul
  have hend : ww o ds a b = true → wgh (a, (b, (o, (ds, ((wz o ds a b).map (·.1), (wz o ds a b).map (·.2)))))) 0 = some (.inl ()) ∧ wgj (a, (b, (o, (ds, (wz o ds a b).map (·.1))))) 1 = some (.inl ()) := fun h => by
   have e : wz o ds a b = waa o ds a b := by unfold wz; rw [h]; rfl
   rw [e]
   exact ⟨warw a1 a2 h, warz a1 a2 h⟩
  have hund : (wab o2 ds2 x y lim).2 = true → ww o2 ds2 x y = true ∧ wow o2 ds2 (wab o2 ds2 x y lim).1 x = some (valueOf o2 ds2 (wab o2 ds2 x y lim).1 x, true) ∧ wow o2 ds2 (wab o2 ds2 x y lim).1 y = some (valueOf o2 ds2 (wab o2 ds2 x y lim).1 y, true) ∧ ¬ lim < valueOf o2 ds2 (wab o2 ds2 x y lim).1 y ∧
    wgg (a, (b, (ww o ds a b, (lim, (ww o2 ds2 x y, (valueOf o2 ds2 (wab o2 ds2 x y lim).1 x, (true, (valueOf o2 ds2 (wab o2 ds2 x y lim).1 y, (true, (o, (ds, ((wz o ds a b).map (·.1), ((wz o ds a b).map (·.2), (wz o2 ds2 x y).map (·.1)))))))))))))) (false, 0) = some (.inl true) := fun h => by
   obtain ⟨u1, u2, u3, u4⟩ := wpc h
   have hf := wac u1
   have hxy : isIn x 1 5 = true ∧ isIn y 1 5 = true := by
    have u1' := u1
    unfold ww at u1'
    simp only [Bool.and_eq_true] at u1'
    exact u1'.2
   refine ⟨u1, wcl b1 b2 hf u2 hxy.1, wcl b1 b2 hf u2 hxy.2, by omega, ?_⟩
   have e : wz o2 ds2 x y = waa o2 ds2 x y := by unfold wz; rw [u1]; rfl
   rw [e]
   have hF := waw hf x y
   have hpw := wfi o2 ds2 x y
   obtain ⟨q, hq, q1, q2⟩ := wey (ds := ds2) (a := x) (b := y) u2
   have hmem := fun r h => wbl (o := o2) (ds := ds2) (a := x) (b := y) (q := r) h
   generalize waa o2 ds2 x y = G at *
   refine warv (G.map (·.1)) lim _ (by rw [List.length_map]; omega) ⟨q.1, List.mem_map.2 ⟨q, hq, rfl⟩, by omega⟩ (fun i hi hl hno => ?_) _ _ _ _ _ _ _ _ _ _ _
   rw [List.length_map] at hi
   rw [wcj G hi] at hl ⊢
   obtain ⟨m1, m2⟩ := hmem _ (getD_mem (d := mk0) hi)
   have hge : valueOf o2 ds2 (wab o2 ds2 x y lim).1 x ≤ (G.getD i mk0).1.1 := by
    rw [m2] at hl ⊢
    exact u4 _ m1 hl
   obtain ⟨j, hj, rfl⟩ := List.mem_iff_getElem.1 hq
   have hji : i ≤ j := by
    rcases Nat.lt_or_ge j i with h | h
    ·have := hno j h
     rw [wcj G hj, List.getD_eq_getElem?_getD, List.getElem?_eq_getElem hj] at this
     exact absurd (Int.le_trans q2 u3) this
    ·exact h
   have hle : (G.getD i mk0).1.1 ≤ G[j].1.1 := by
    rw [List.getD_eq_getElem?_getD, List.getElem?_eq_getElem hi]
    rcases Nat.eq_or_lt_of_le hji with e | hlt
    ·subst e; exact Int.le_refl _
    ·have := (List.pairwise_iff_getElem.1 hpw i j hi hj hlt).1
     exact Int.le_of_lt this
   omega
  cases hu : (wab o2 ds2 x y lim).2 with
  | true =>
   obtain ⟨u1, u2, u3, u4, u5⟩ := hund hu
   generalize (wz o2 ds2 x y).map (·.1) = P2 at *
   generalize wab o2 ds2 x y lim = U at *
   cases hb : ww o ds a b with
   | true =>
    obtain ⟨v1, v2⟩ := hend hb
    rw [hb] at f1 f2 f3 f4 l0 u5
    rw [u1] at f7 u5
    generalize (wz o ds a b).map (·.1) = P at *
    generalize (wz o ds a b).map (·.2) = S at *
    simp (disch := omega) only [EV, hbig, eA, eB, eC, f1, f2, f3, f4, f5, f6, f7, g1, g2, l0, t1, t2, beq_self_eq_true, bne_self_eq_false, hu, u2, u3, u4, u5, v1, v2]
   | false =>
    rw [hb] at f1 f2 f3 f4 l0 u5
    rw [u1] at f7 u5
    generalize (wz o ds a b).map (·.1) = P at *
    generalize (wz o ds a b).map (·.2) = S at *
    simp (disch := omega) only [EV, hbig, eA, eB, eC, f1, f2, f3, f4, f5, f6, f7, g1, g2, l0, t1, t2, beq_self_eq_true, bne_self_eq_false, hu, u2, u3, u4, u5]
  | false =>
   generalize wab o2 ds2 x y lim = U at *
   cases hb : ww o ds a b with
   | true =>
    obtain ⟨v1, v2⟩ := hend hb
    rw [hb] at f1 f2 f3 f4 l0
    generalize (wz o ds a b).map (·.1) = P at *
    generalize (wz o ds a b).map (·.2) = S at *
    simp (disch := omega) only [EV, hbig, eA, eB, eC, f1, f2, f3, f4, f5, f6, g1, g2, l0, t1, t2, beq_self_eq_true, bne_self_eq_false, hu, v1, v2]
   | false =>
    rw [hb] at f1 f2 f3 f4 l0
    generalize (wz o ds a b).map (·.1) = P at *
    generalize (wz o ds a b).map (·.2) = S at *
    simp (disch := omega) only [EV, hbig, eA, eB, eC, f1, f2, f3, f4, f5, f6, g1, g2, l0, t1, t2, beq_self_eq_true, bne_self_eq_false, hu]
end Go.Proofs.YtnagpmhaddfgmaaGreat
