/-
  The law of the worst first sites of an order.
-/
import Derived.Test.YtbofjefpngpegaaP41
namespace Go.Proofs.Ytbofjefpngpegaa
def quo (x : Int × Int) : Int × Int := if 0 < x.2 then x else if x.1 = 0 then (1, 1) else (1, 0)
def worse (a b : Int × Int) : Bool := decide ((quo b).1 * (quo a).2 < (quo a).1 * (quo b).2)
def InP (x : Int × Int) : Prop := 0 ≤ x.1 ∧ x.1 ≤ 693 ∧ 0 ≤ x.2 ∧ x.2 ≤ 693
theorem quo_in {x : Int × Int} (h : InP x) : InP (quo x) := by
  obtain ⟨a, b, c, d⟩ := h
  unfold quo
  split
  · exact ⟨a, b, c, d⟩
  · split <;> exact ⟨by decide, by decide, by decide, by decide⟩
theorem mul_693 {a b : Int} (h1 : 0 ≤ a ∧ a ≤ 693) (h2 : 0 ≤ b ∧ b ≤ 693) : 0 ≤ a * b ∧ a * b ≤ 480249 :=
  ⟨Int.mul_nonneg h1.1 h2.1, by have := Int.mul_le_mul h1.2 h2.2 h2.1 (by omega); omega⟩
theorem quotient_eq (x : Int × Int) : F_zo x.1 x.2 = some (quo x) := by
  obtain ⟨a, b⟩ := x
  unfold F_zo T_zo quo
  have g0 : inR 0 2 = true := rfl
  have g1 : inR 1 2 = true := rfl
  by_cases h : 0 < b
  · simp (disch := omega) only [EV, g0, g1, h]
    try rfl
  · by_cases h2 : a = 0
    · simp (disch := omega) only [EV, g0, g1, h, h2]
      try rfl
    · have e : (a == 0) = false := beq_eq_false_iff_ne.2 h2
      simp (disch := omega) only [EV, g0, g1, h, e]
      rw [if_neg h2]
theorem l10Worse_eq {a b : Int × Int} (ha : InP a) (hb : InP b) : F_zbs a.1 a.2 b.1 b.2 = some (worse a b) := by
  obtain ⟨a1, a2⟩ := a
  obtain ⟨b1, b2⟩ := b
  obtain ⟨p1, p2, p3, p4⟩ := ha
  obtain ⟨q1, q2, q3, q4⟩ := hb
  simp only at p1 p2 p3 p4 q1 q2 q3 q4
  have g0 : inR 0 2 = true := rfl
  have g1 : inR 1 2 = true := rfl
  have z1 : ((1 : Int) == 0) = false := rfl
  have z0 : ((0 : Int) == 0) = true := rfl
  have m1 := mul_693 ⟨q1, q2⟩ ⟨p3, p4⟩
  have m2 := mul_693 ⟨p1, p2⟩ ⟨q3, q4⟩
  unfold F_zbs T_zbs worse quo
  by_cases ha2 : a2 = 0 <;> by_cases hb2 : b2 = 0
  · subst ha2 hb2
    by_cases ha1 : a1 = 0 <;> by_cases hb1 : b1 = 0
    · subst ha1 hb1
      rfl
    · subst ha1
      have e : (b1 == 0) = false := beq_eq_false_iff_ne.2 hb1
      simp (disch := omega) only [EV, g0, g1, z0, z1, e, hb1]
      simp [hb1]
    · subst hb1
      have e : (a1 == 0) = false := beq_eq_false_iff_ne.2 ha1
      simp (disch := omega) only [EV, g0, g1, z0, z1, e, ha1]
      simp [ha1]
    · have e : (b1 == 0) = false := beq_eq_false_iff_ne.2 hb1
      have e2 : (a1 == 0) = false := beq_eq_false_iff_ne.2 ha1
      simp (disch := omega) only [EV, g0, g1, z0, z1, e, e2]
      simp [ha1, hb1]
  · subst ha2
    have eb : (b2 == 0) = false := beq_eq_false_iff_ne.2 hb2
    have hpb : 0 < b2 := by omega
    by_cases ha1 : a1 = 0
    · subst ha1
      simp (disch := omega) only [EV, g0, g1, z0, z1, eb]
      simp [hpb]
    · have e2 : (a1 == 0) = false := beq_eq_false_iff_ne.2 ha1
      simp (disch := omega) only [EV, g0, g1, z0, z1, eb, e2]
      simp [hpb, ha1]
  · subst hb2
    have ea : (a2 == 0) = false := beq_eq_false_iff_ne.2 ha2
    have hpa : 0 < a2 := by omega
    by_cases hb1 : b1 = 0
    · subst hb1
      simp (disch := omega) only [EV, g0, g1, z0, z1, ea]
      simp [hpa]
    · have e2 : (b1 == 0) = false := beq_eq_false_iff_ne.2 hb1
      simp (disch := omega) only [EV, g0, g1, z0, z1, ea, e2]
      simp [hpa, hb1]
      try omega
  · have ea : (a2 == 0) = false := beq_eq_false_iff_ne.2 ha2
    have eb : (b2 == 0) = false := beq_eq_false_iff_ne.2 hb2
    have hpa : 0 < a2 := by omega
    have hpb : 0 < b2 := by omega
    simp (disch := omega) only [EV, g0, g1, z0, z1, ea, eb]
    rw [if_pos hpa, if_pos hpb]
theorem take_places {l : List Int} {n : Nat} (h : ordOK l n = true) (hn : n ≤ 7) {k : Nat} (h1 : 1 ≤ k) (h2 : k ≤ n) : Places (sortI (l.take k)) n ∧ (sortI (l.take k)).length = k ∧ Low1 (sortI (l.take k)) := by
  obtain ⟨a, b, _⟩ := ordOK_iff.1 h
  have hl : (sortI (l.take k)).length = k := by rw [(sortI_inv _).2.1, List.length_take]; omega
  have hlow : Low1 (sortI (l.take k)) := by unfold Low1; omega
  refine ⟨⟨hlow, fun i hi => ?_⟩, hl, hlow⟩
  have hm : (sortI (l.take k)).getD i 0 ∈ sortI (l.take k) := getD_mem hi
  exact b _ (List.mem_of_mem_take (((sortI_inv _).2.2 _).1 hm))
theorem take_next {l : List Int} {n : Nat} (h : ordOK l n = true) {k : Nat} (h2 : k < n) : l.getD k 0 ∉ sortI (l.take k) ∧ ins (l.getD k 0) (sortI (l.take k)) = sortI (l.take (k + 1)) := by
  obtain ⟨a, _, c⟩ := ordOK_iff.1 h
  have e := take_snocD (l := l) (i := k) 0 (by omega)
  refine ⟨fun hm => ?_, by rw [e, sortI_snoc]⟩
  have hm := ((sortI_inv _).2.2 _).1 hm
  have hc : (l.take (k + 1)).Nodup := c.sublist (List.take_sublist _ _)
  rw [e, List.nodup_append] at hc
  exact hc.2.2 _ hm _ (List.mem_singleton.2 rfl) rfl
def ownP (ds : List (List Int)) (order : List Int) (n i : Nat) : Int × Int := (serve ds (sortI (order.take (i + 1))), medV ds n ((i + 1 : Nat) : Int))
theorem ownP_in {o : List Int} {ds : List (List Int)} {order : List Int} (hf : Fld o ds) (h : ordOK order o.length = true) {i : Nat} (hi : i < o.length) : InP (ownP ds order o.length i) := by
  obtain ⟨p1, p2, _⟩ := take_places h hf.len (k := i + 1) (by omega) (by omega)
  have h1 := serve_in hf p1 (by omega)
  have h2 := medV_in hf (k := ((i + 1 : Nat) : Int)) (by omega)
  exact ⟨h1.1, h1.2, h2.1, h2.2⟩
def nstep (ds : List (List Int)) (order : List Int) (n : Nat) (s : Int × (Int × Int)) (i : Nat) : Int × (Int × Int) :=
  bif decide (i = 0) || worse (ownP ds order n i) s.2 then (((i + 1 : Nat) : Int), ownP ds order n i) else s
def nestF (ds : List (List Int)) (order : List Int) (n : Nat) : Int × (Int × Int) := (List.range n).foldl (nstep ds order n) (0, (0, 0))
def NI (i : Nat) (s : Int × (Int × Int)) : Prop := (s.1 == 0) = decide (i = 0) ∧ InP s.2
theorem NI_step {o : List Int} {ds : List (List Int)} {order : List Int} (hf : Fld o ds) (h : ordOK order o.length = true) {i : Nat} (hi : i < o.length) {s : Int × (Int × Int)} (hs : NI i s) : NI (i + 1) (nstep ds order o.length s i) := by
  unfold nstep
  obtain ⟨h1, h2⟩ := hs
  have e : decide (i + 1 = 0) = false := decide_eq_false (by omega)
  by_cases hz : i = 0
  · rw [decide_eq_true hz, Bool.true_or, cond_true]
    exact ⟨by rw [e]; exact beq_eq_false_iff_ne.2 (show ((i + 1 : Nat) : Int) ≠ 0 by omega), ownP_in hf h hi⟩
  · rw [decide_eq_false hz, Bool.false_or]
    cases worse (ownP ds order o.length i) s.2 with
    | true => exact ⟨by rw [e]; exact beq_eq_false_iff_ne.2 (show ((i + 1 : Nat) : Int) ≠ 0 by omega), ownP_in hf h hi⟩
    | false =>
      refine ⟨?_, h2⟩
      rw [cond_false, h1, e, decide_eq_false hz]
theorem values_eq {o : List Int} {ds : List (List Int)} (hf : Fld o ds) : F_zk o ds = some ((List.range o.length).map fun i => medV ds o.length ((i + 1 : Nat) : Int)) := by
  have h7 := hf.len
  have h := iter_app (f := fun v => (S_zk_0 ((o.length : Int), (o, ds)) v).ev) (n := o.length) (fun i l => ((i : Int), l)) (fun i => medV ds o.length ((i + 1 : Nat) : Int)) (fun l => l)
    (fun i l hi hl => by
      have hk : (1 : Int) ≤ ((i : Int) + 1) ∧ ((i : Int) + 1) ≤ (o.length : Int) := by omega
      have e1 := median_eq hf hk
      obtain ⟨p1, _, p2, _⟩ := nsize_places hf.pos h7 (medSet_mem (ds := ds) h7 hk)
      have e2 := service_eq hf p1 p2
      simp (disch := omega) only [EV, S_zk_0, hi, e1, e2, List.length_cons, List.length_nil, hl]
      rw [if_pos (by omega)]
      rfl)
    (fun l _ => by simp (disch := omega) only [EV, S_zk_0, Nat.lt_irrefl])
  have h0 : L_zk_0 ((o.length : Int), (o, ds)) (0, []) = _ := h
  unfold F_zk T_zk
  simp (disch := omega) only [EV, h0]
theorem im_nest_loop {o : List Int} {ds : List (List Int)} {order : List Int} (hf : Fld o ds) (h : ordOK order o.length = true) (z1 z2 : Int) :
    L_zn_0 (order, (o, (ds, (z1, (z2, (List.range o.length).map fun i => medV ds o.length ((i + 1 : Nat) : Int)))))) (0, (1, (0, 0))) = some (nestF ds order o.length) := by
  have h7 := hf.len
  have hol : order.length = o.length := (ordOK_iff.1 h).1
  have key := (iter_fold (f := fun v => (S_zn_0 (order, (o, (ds, (z1, (z2, (List.range o.length).map fun i => medV ds o.length ((i + 1 : Nat) : Int)))))) v).ev) (n := o.length) (mk := fun i s => (s.1, (((i + 1 : Nat) : Int), (s.2.1, s.2.2)))) (I := NI) (g := nstep ds order o.length) (fin := fun s => (s.1, (s.2.1, s.2.2))) (s0 := (0, (0, 0))) ⟨rfl, by exact ⟨by decide, by decide, by decide, by decide⟩⟩
    (fun i s hi hI => by
      refine ⟨?_, NI_step hf h hi hI⟩
      obtain ⟨p1, p2, _⟩ := take_places h h7 (k := i + 1) (by omega) (by omega)
      have e1 := service_eq hf p1 (by omega)
      have eq1 := quotient_eq (ownP ds order o.length i)
      have eq2 := quotient_eq s.2
      have hin1 := quo_in (ownP_in hf h hi)
      have hin2 := quo_in hI.2
      have m1 := mul_693 ⟨hin2.1, hin2.2.1⟩ ⟨hin1.2.2.1, hin1.2.2.2⟩
      have m2 := mul_693 ⟨hin1.1, hin1.2.1⟩ ⟨hin2.2.2.1, hin2.2.2.2⟩
      have es := nsorted_eq (l := order.take (i + 1)) (by rw [List.length_take]; omega)
      have w1 : IntKind.wrap .i64 (((i + 1 : Nat) : Int) - 1) = (i : Int) := by rw [wrap64 (by omega) (by omega)]; omega
      have w2 : IntKind.wrap .i64 (((i + 1 : Nat) : Int) + 1) = ((i + 1 + 1 : Nat) : Int) := by rw [wrap64 (by omega) (by omega)]; omega
      have hle : ((i + 1 : Nat) : Int) ≤ ((order.length : Nat) : Int) := by omega
      have hv : List.getD ((List.range o.length).map fun i => medV ds o.length ((i + 1 : Nat) : Int)) i 0 = medV ds o.length ((i + 1 : Nat) : Int) := by
        rw [List.getD_eq_getElem?_getD, List.getElem?_map, List.getElem?_range hi]
        rfl
      have hvl : List.length ((List.range o.length).map fun i => medV ds o.length ((i + 1 : Nat) : Int)) = o.length := by simp
      have g0 : inR 0 2 = true := rfl
      have g1 : inR 1 2 = true := rfl
      have gi : inR (i : Int) o.length = true := inR_nat hi
      have gd : (decide (0 ≤ ((i + 1 : Nat) : Int)) && true) = true := by
        rw [decide_eq_true (by omega)]; rfl
      unfold nstep worse
      rw [← hI.1]
      generalize hown : ownP ds order o.length i = own at eq1 hin1 m1 m2
      have ho1 : serve ds (sortI (order.take (i + 1))) = own.1 := by rw [← hown]; rfl
      have ho2 : medV ds o.length ((i + 1 : Nat) : Int) = own.2 := by rw [← hown]; rfl
      rw [ho1] at e1
      rw [ho2] at hv
      unfold S_zn_0
      dsimp only
      rw [Tr.ev_t, decide_eq_true hle, cond_true, Tr.ev_g, gd, cond_true, Tr.ev_c]
      unfold F_zax
      rw [Option.bind_some, Tr.ev_c, Int.toNat_natCast, List.drop_zero, es, Option.bind_some, Tr.ev_c, e1, Option.bind_some, Tr.ev_g, w1, hvl, gi, cond_true, Tr.ev_g, Int.toNat_natCast, decide_eq_true hi, cond_true, hv, Tr.ev_c, eq1, Option.bind_some, Tr.ev_c]
      show Option.bind (F_zo s.2.1 s.2.2) _ = _
      rw [eq2, Option.bind_some, Tr.ev_t]
      cases (s.1 == 0) with
      | true => rw [cond_true, Tr.ev_l, w2, Bool.true_or, cond_true]
      | false =>
        rw [cond_false, Tr.ev_g, g0, cond_true, Tr.ev_g, g1, cond_true, Tr.ev_g, cond_true, Tr.ev_g, cond_true, Tr.ev_t, wrap64 (by omega) (by omega), wrap64 (by omega) (by omega), w2, Bool.false_or]
        cases decide ((quo s.2).1 * (quo own).2 < (quo own).1 * (quo s.2).2) <;> rfl)
    (fun s _ => by
      have hle : ¬ (((o.length + 1 : Nat) : Int) ≤ ((order.length : Nat) : Int)) := by omega
      unfold S_zn_0
      dsimp only
      rw [Tr.ev_t, decide_eq_false hle, cond_false, Tr.ev_l])).1
  exact key
def nestR (o : List Int) (ds : List (List Int)) (order : List Int) : Int × (Int × (Int × Bool)) :=
  bif fieldB o ds && ordOK order o.length then ((nestF ds order o.length).1, ((nestF ds order o.length).2.1, ((nestF ds order o.length).2.2, true))) else (0, (0, (0, false)))
theorem im_NestedWorst_eq {o : List Int} {ds : List (List Int)} {order : List Int} (ho : Low1 o) (hd : Low2 ds) (hl : Low1 order) : F_zn o ds order = some (nestR o ds order) := by
  unfold F_zn T_zn nestR
  cases hfb : fieldB o ds with
  | false => simp (disch := omega) only [EV, IsField_eq ho hd, hfb]
  | true =>
    have hf := fieldB_iff.1 hfb
    have hll := hl
    unfold Low1 at hll
    have hi := nisOrder_eq (l := order) (n := o.length) (by have := hf.len; omega) (by omega)
    cases hob : ordOK order o.length with
    | false =>
      rw [hob] at hi
      simp (disch := omega) only [EV, IsField_eq ho hd, hfb, hi]
    | true =>
      rw [hob] at hi
      simp (disch := omega) only [EV, IsField_eq ho hd, hfb, hi, values_eq hf, im_nest_loop hf hob]
theorem sp_nest_loop {o : List Int} {ds : List (List Int)} {order : List Int} (hf : Fld o ds) (h : ordOK order o.length = true) (z1 z2 : Int) :
    L_zbq_0 (order, (o, (ds, (z1, z2)))) (0, ([], (1, (0, 0)))) = some (nestF ds order o.length) := by
  have h7 := hf.len
  have hol : order.length = o.length := (ordOK_iff.1 h).1
  have key := (iter_fold (f := fun v => (S_zbq_0 (order, (o, (ds, (z1, z2)))) v).ev) (n := o.length) (mk := fun i s => (s.1, (sortI (order.take i), (((i + 1 : Nat) : Int), (s.2.1, s.2.2))))) (I := NI) (g := nstep ds order o.length) (fin := fun s => (s.1, (s.2.1, s.2.2))) (s0 := (0, (0, 0))) ⟨rfl, by exact ⟨by decide, by decide, by decide, by decide⟩⟩
    (fun i s hi hI => by
      refine ⟨?_, NI_step hf h hi hI⟩
      obtain ⟨p1, p2, _⟩ := take_places h h7 (k := i + 1) (by omega) (by omega)
      have e1 := l2Serve_eq hf p1 (by omega)
      obtain ⟨n1, n2⟩ := take_next h hi
      have ep := nl1Put_eq (l := sortI (order.take i)) (x := order.getD i 0) (by rw [(sortI_inv _).2.1, List.length_take]; omega) n1
      rw [n2] at ep
      have hk : (1 : Int) ≤ ((i + 1 : Nat) : Int) ∧ ((i + 1 : Nat) : Int) ≤ (o.length : Int) := by omega
      have eb := l4Best_eq hf hk
      obtain ⟨q1, _, q2, _⟩ := nsize_places hf.pos h7 (medSet_mem (ds := ds) h7 hk)
      have e2 := l2Serve_eq hf q1 q2
      have hw := l10Worse_eq (ownP_in hf h hi) hI.2
      have w1 : IntKind.wrap .i64 (((i + 1 : Nat) : Int) - 1) = (i : Int) := by rw [wrap64 (by omega) (by omega)]; omega
      have w2 : IntKind.wrap .i64 (((i + 1 : Nat) : Int) + 1) = ((i + 1 + 1 : Nat) : Int) := by rw [wrap64 (by omega) (by omega)]; omega
      have hle : ((i + 1 : Nat) : Int) ≤ ((order.length : Nat) : Int) := by omega
      have gi : inR (i : Int) order.length = true := inR_nat (by omega)
      have hz : (((i + 1 : Nat) : Int) == 1) = decide (i = 0) := by
        rw [Bool.eq_iff_iff, beq_iff_eq, decide_eq_true_eq]
        omega
      unfold nstep
      generalize hown : ownP ds order o.length i = own at hw
      have ho1 : serve ds (sortI (order.take (i + 1))) = own.1 := by rw [← hown]; rfl
      have ho2 : serve ds (medSet ds o.length ((i + 1 : Nat) : Int)) = own.2 := by rw [← hown]; rfl
      rw [ho1] at e1
      rw [ho2] at e2
      unfold S_zbq_0
      dsimp only
      rw [Tr.ev_t, decide_eq_true hle, cond_true, Tr.ev_g, w1, gi, cond_true, Tr.ev_c, Int.toNat_natCast, ep, Option.bind_some, Tr.ev_c, e1, Option.bind_some, Tr.ev_c, eb, Option.bind_some, Tr.ev_c, e2, Option.bind_some, Tr.ev_t, hz]
      by_cases h0 : i = 0
      · rw [decide_eq_true h0, cond_true, Tr.ev_l, w2, Bool.true_or, cond_true]
      · rw [decide_eq_false h0, cond_false, Tr.ev_c]
        show Option.bind (F_zbs own.1 own.2 s.2.1 s.2.2) _ = _
        rw [hw, Option.bind_some, Tr.ev_t, w2, Bool.false_or]
        cases worse own s.2 <;> rfl)
    (fun s _ => by
      have hle : ¬ (((o.length + 1 : Nat) : Int) ≤ ((order.length : Nat) : Int)) := by omega
      unfold S_zbq_0
      dsimp only
      rw [Tr.ev_t, decide_eq_false hle, cond_false, Tr.ev_l])).1
  exact key
theorem sp_NestedWorst_eq {o : List Int} {ds : List (List Int)} {order : List Int} (ho : Low1 o) (hd : Low2 ds) (hl : Low1 order) : F_zbq o ds order = some (nestR o ds order) := by
  unfold F_zbq T_zbq nestR
  have hll := hl
  unfold Low1 at hll
  cases hfb : fieldB o ds with
  | false => simp (disch := omega) only [EV, l2Good_eq ho hd, hfb]
  | true =>
    have hf := fieldB_iff.1 hfb
    have hi := l10Order_eq (l := order) ho (by omega) ds
    cases hob : ordOK order o.length with
    | false =>
      rw [hob] at hi
      simp (disch := omega) only [EV, l2Good_eq ho hd, hfb, hi]
    | true =>
      rw [hob] at hi
      simp (disch := omega) only [EV, l2Good_eq ho hd, hfb, hi, sp_nest_loop hf hob]
theorem law_NestedWorst (o : List Int) (ds : List (List Int)) (order : List Int) (ho : Fit tL o) (hd : Fit tLL ds) (_ : Fit tL order) : F_zaa o ds order = some true := by
  unfold F_zaa T_zaa
  obtain ⟨r, e1, _, k2⟩ := szField_sz (fit1 ho) (fit2 hd) (b := 1048576) (by omega) (by omega)
  by_cases hw : (1048576 : Int) < (order.length : Int)
  · simp (disch := omega) only [EV, hw]
  simp (disch := omega) only [EV, hw, e1]
  by_cases hr : r < 0
  · simp (disch := omega) only [EV, hr]
  · obtain ⟨h1, h2⟩ := k2 (by omega)
    have h4 : Low1 order := by unfold Low1; omega
    have es := sp_NestedWorst_eq h1 h2 h4
    have ei := im_NestedWorst_eq h1 h2 h4
    generalize nestR o ds order = p at es ei
    have ea : F_zac p.2.1 p.2.2.1 p.2.1 p.2.2.1 = some true := by
      unfold F_zac
      rw [beq_self_eq_true, beq_self_eq_true]
      rfl
    simp (disch := omega) only [EV, hr, toField_eq h1 h2, toIntS_eq h4, es, ei, ea, eqField_eq h1 h2, eqIntS_eq h4, beq_self_eq_true, bne_self_eq_false]
end Go.Proofs.Ytbofjefpngpegaa
