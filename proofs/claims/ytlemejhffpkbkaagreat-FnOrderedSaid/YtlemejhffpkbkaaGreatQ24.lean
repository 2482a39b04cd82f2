/-
  The law of ordered values: with weights of 1 the service, with the last weight alone the reach.
-/
import Derived.Test.YtlemejhffpkbkaaGreatQ23
import Derived.Test.YtlemejhffpkbkaaGreatP36
import Derived.Test.YtlemejhffpkbkaaGreatPR
namespace Go.Proofs.YtlemejhffpkbkaaGreat
theorem foldl_add (l : List Int) : ∀ a : Int, l.foldl (fun a x => a + x) a = a + l.sum := by
  induction l with
  | nil => intro a; simp
  | cons x l ih => intro a; rw [List.foldl_cons, ih, List.sum_cons]; omega
theorem ins_sum (x : Int) : ∀ l : List Int, (ins x l).sum = x + l.sum
  | [] => by simp [ins]
  | a :: l => by
    simp only [ins]
    split
    · rw [List.sum_cons, ins_sum x l, List.sum_cons]; omega
    · rw [List.sum_cons]
theorem sortI_sum (l : List Int) : (sortI l).sum = l.sum := by
  have key : ∀ (l acc : List Int), (l.foldl (fun acc x => ins x acc) acc).sum = acc.sum + l.sum := by
    intro l
    induction l with
    | nil => intro acc; simp
    | cons x l ih => intro acc; rw [List.foldl_cons, ih, ins_sum, List.sum_cons]; omega
  have := key l []
  simpa [sortI] using this
theorem ordVal_ones {l w : List Int} (hw : ∀ i, i < l.length → w.getD i 0 = 1) : ordVal l w = l.sum := by
  have key : ∀ n, n ≤ l.length → (List.range n).foldl (fun a i => a + l.getD i 0 * w.getD i 0) 0 = (l.take n).sum := by
    intro n
    induction n with
    | zero => intro _; simp
    | succ n ih =>
      intro hn
      rw [foldl_range_succ, ih (by omega), hw n (by omega), Int.mul_one, List.take_succ_eq_append_getElem (by omega), List.sum_append, List.getD_eq_getElem?_getD, List.getElem?_eq_getElem (by omega)]
      simp
  unfold ordVal
  rw [key _ (Nat.le_refl _), List.take_length]
theorem ordVal_last {l w : List Int} {n : Nat} (hl : l.length = n + 1) (hw : ∀ i, i < n → w.getD i 0 = 0) (hn : w.getD n 0 = 1) : ordVal l w = l.getD n 0 := by
  have key : ∀ k, k ≤ n → (List.range k).foldl (fun a i => a + l.getD i 0 * w.getD i 0) 0 = 0 := by
    intro k
    induction k with
    | zero => intro _; rfl
    | succ k ih => intro hk; rw [foldl_range_succ, ih (by omega), hw k (by omega), Int.mul_zero]; rfl
  unfold ordVal
  rw [hl, foldl_range_succ, key n (Nat.le_refl _), hn]
  omega
theorem foldl_max_spec : ∀ (l : List Int) (a : Int), a ≤ l.foldl (fun a x => max a x) a ∧ (∀ x ∈ l, x ≤ l.foldl (fun a x => max a x) a) ∧ (l.foldl (fun a x => max a x) a = a ∨ l.foldl (fun a x => max a x) a ∈ l)
  | [], a => ⟨Int.le_refl _, (fun x h => nomatch h), .inl rfl⟩
  | y :: l, a => by
    obtain ⟨h1, h2, h3⟩ := foldl_max_spec l (max a y)
    rw [List.foldl_cons]
    refine ⟨by omega, fun x hx => ?_, ?_⟩
    · rcases List.mem_cons.1 hx with rfl | hx
      · omega
      · exact h2 x hx
    · rcases h3 with h3 | h3
      · rcases Int.le_total a y with h | h
        · exact .inr (by rw [h3, Int.max_eq_right h]; exact List.mem_cons_self)
        · exact .inl (by rw [h3, Int.max_eq_left h])
      · exact .inr (List.mem_cons_of_mem _ h3)
theorem sorted_last {l : List Int} {n : Nat} (hl : (sortI l).length = n + 1) (h0 : ∀ x ∈ l, 0 ≤ x) : (sortI l).getD n 0 = l.foldl (fun a x => max a x) 0 := by
  obtain ⟨h1, h2, h3⟩ := sortI_inv l
  obtain ⟨k1, k2, k3⟩ := foldl_max_spec l 0
  have e : (sortI l).getD n 0 = (sortI l)[n]'(by omega) := by rw [List.getD_eq_getElem?_getD, List.getElem?_eq_getElem (by omega)]; rfl
  have hm : (sortI l).getD n 0 ∈ l := by rw [e]; exact (h3 _).1 (List.getElem_mem _)
  have h4 := k2 _ hm
  have h5 : ∀ x ∈ l, x ≤ (sortI l).getD n 0 := fun x hx => by
    obtain ⟨i, hi, rfl⟩ := List.getElem_of_mem ((h3 x).2 hx)
    rw [e]
    by_cases hin : i = n
    · subst hin; exact Int.le_refl _
    · exact List.pairwise_iff_getElem.1 h1 i n hi (by omega) (by omega)
  rcases k3 with k3 | k3
  · have := h0 _ hm
    omega
  · have := h5 _ k3
    omega
theorem serve_sum (ds : List (List Int)) (s : List Int) : serve ds s = (lensOf ds s).sum := by
  have : (lensOf ds s).foldl (fun a x => a + x) 0 = serve ds s := by unfold lensOf serve; rw [List.foldl_map]
  rw [← this, foldl_add, Int.zero_add]
theorem far_max (ds : List (List Int)) (s : List Int) : far ds s = (lensOf ds s).foldl (fun a x => max a x) 0 := by
  unfold lensOf far
  rw [List.foldl_map]
def medOf (o : List Int) (ds : List (List Int)) (k : Int) : Bool × List Int := bif medB o ds k then (true, firstMin (serve ds) (ofSz o.length k)) else (false, [])
theorem im_MedianOf_eq {o : List Int} {ds : List (List Int)} (ho : Low1 o) (hd : Low2 ds) (k : Int) : F_zq o ds k = some (medOf o ds k) := by
  unfold F_zq T_zq medOf
  simp (disch := omega) only [EV, isMedianCase_eq ho hd]
  cases hm : medB o ds k with
  | false => rfl
  | true =>
    obtain ⟨hf, ⟨hn1, h7⟩, hk⟩ := medB_iff hm
    have hS := setsP hn1 h7
    obtain ⟨x, e1, e2, e3⟩ := hS.im
    have hl128 := setsP_len hS h7
    have hxl : x.1.length = (setsOf o.length).length := by rw [← e3, permL_len]
    obtain ⟨y, k1, k2, k3⟩ := deleteFunc_eq (x := x) e2 (by omega) (p := fun h2_ => Option.bind (F_zi h2_.1 k) fun y3_ => some y3_) (q := fun s => !decide ((s.length : Int) = k)) fun s hs => by
      rw [e3] at hs
      obtain ⟨p1, p2, p3⟩ := setP_places h7 hS hs
      unfold Low1 at p3
      show Option.bind (F_zi s k) _ = _
      unfold F_zi T_zi
      simp (disch := omega) only [EV]
      by_cases h : (s.length : Int) = k <;> simp [h]
    have hk' : permL y.1 y.2 = ofSz o.length k := by
      rw [k3, e3]
      unfold ofSz
      congr 1
      funext s
      simp
    have hyl : y.1.length = (ofSz o.length k).length := by rw [← hk', permL_len]
    have hle' : (ofSz o.length k).length ≤ (setsOf o.length).length := List.length_filter_le _ _
    have hpos := List.length_pos_iff.2 (ofSz_ne h7 (k := k) hk.1 hk.2)
    have hle := leastP_eq (x := y) k2 (by omega) (by omega) (p := fun h5_ => Option.bind (F_zn o ds h5_.1) fun y6_ => some y6_) (g := serve ds) fun s hs => by
      rw [hk'] at hs
      obtain ⟨p1, _, p2, _⟩ := size_places hn1 h7 hs
      show Option.bind (F_zn o ds s) _ = _
      simp (disch := omega) only [EV, service_eq hf p1 p2]
    rw [hk'] at hle
    unfold F_zh T_zh
    simp (disch := omega) only [EV, e1, k1, hle]
theorem im_ServiceOf_eq {o : List Int} {ds : List (List Int)} {s : List Int} (ho : Low1 o) (hd : Low2 ds) (hs : Low1 s) : F_zv o ds s = some (bif openB o ds s then (serve ds s, true) else (0, false)) := by
  unfold F_zv T_zv
  simp (disch := omega) only [EV, isOpened_eq ho hd hs]
  cases h : openB o ds s with
  | false => rfl
  | true =>
    obtain ⟨h1, h2, h3⟩ := openB_iff hs h
    simp (disch := omega) only [EV, service_eq h1 h2 h3]
theorem im_ReachOf_eq {o : List Int} {ds : List (List Int)} {s : List Int} (ho : Low1 o) (hd : Low2 ds) (hs : Low1 s) : F_zu o ds s = some (bif openB o ds s then (far ds s, true) else (0, false)) := by
  unfold F_zu T_zu
  simp (disch := omega) only [EV, isOpened_eq ho hd hs]
  cases h : openB o ds s with
  | false => rfl
  | true =>
    obtain ⟨h1, h2, h3⟩ := openB_iff hs h
    simp (disch := omega) only [EV, reach_eq h1 h2 h3]
theorem open_set {o : List Int} {ds : List (List Int)} {k : Int} (hf : Fld o ds) (h1 : 1 ≤ o.length) (h7 : o.length ≤ 7) {s : List Int} (hs : s ∈ ofSz o.length k) : openB o ds s = true := by
  obtain ⟨a, _⟩ := ofSz_mem.1 hs
  obtain ⟨b1, b2, _⟩ := (setsP h1 h7).rising s a
  unfold openB
  rw [fieldB_iff.2 hf, b1, decide_eq_true b2]
  rfl
theorem ord0_eq {o : List Int} {ds : List (List Int)} (s : List Int) (hd : ds.length ≤ 8) : L_zak_0 (o, (ds, s)) (0, ([], [])) = some (List.replicate ds.length 1, List.replicate ds.length 0) := by
  have h := (iter_fold (f := fun v => (S_zak_0 (o, (ds, s)) v).ev) (n := ds.length) (mk := fun i (v : List Int × List Int) => ((i : Int), v)) (I := fun i v => v = (List.replicate i 1, List.replicate i 0)) (g := fun v _ => (v.1 ++ [1], v.2 ++ [0])) (fin := fun v => v) (s0 := ([], [])) rfl
    (fun i v hi hv => by
      subst hv
      have r1 := room8 (List.replicate i (1 : Int)) 1 (by simp; omega)
      have r2 := room8 (List.replicate i (0 : Int)) 0 (by simp; omega)
      refine ⟨?_, by simp [List.replicate_succ']⟩
      simp (disch := omega) only [EV, S_zak_0, hi, r1, r2]
      rfl)
    (fun v hv => by
      subst hv
      simp (disch := omega) only [EV, S_zak_0, Nat.lt_irrefl]))
  have e : L_zak_0 (o, (ds, s)) (0, ([], [])) = _ := h.1
  rw [e, h.2]
theorem draw1_ok {l : List Int} (h : CK 0 l 0) : ∃ o d s w, F_zbr l = some (o, (d, (s, w))) ∧ DrF o d ∧ s.length ≤ 8 ∧ w.length ≤ 9 := by
  obtain ⟨o, d, i1, c1, e1, hd, h1⟩ := field_ok 0 h (by omega)
  obtain ⟨s, i2, c2, e2, hs, h2⟩ := sites_ok (o := o) (d := d) hd.lo c1 h1 (by omega)
  obtain ⟨w, i3, c3, e3, hw, _⟩ := weights_ok (o := o) (d := d) hd.lm c2 h2 (by omega)
  unfold F_zbr T_zbr
  simp (disch := omega) only [EV, e1, e2, e3]
  exact ⟨_, _, _, _, rfl, hd, hs, hw⟩
theorem draw2_ok {l : List Int} (h : CK 0 l 0) : ∃ o d k w, F_zbq l = some (o, (d, (k, w))) ∧ DrF o d ∧ w.length ≤ 9 := by
  obtain ⟨o, d, i1, c1, e1, hd, h1⟩ := field_ok 0 h (by omega)
  obtain ⟨k, i2, c2, e2, h2⟩ := count_ok (o := o) (d := d) hd.lo c1 h1 (by omega)
  obtain ⟨w, i3, c3, e3, hw, _⟩ := weights_ok (o := o) (d := d) hd.lm c2 h2 (by omega)
  unfold F_zbq T_zbq
  simp (disch := omega) only [EV, e1, e2, e3]
  exact ⟨_, _, _, _, rfl, hd, hw⟩
theorem low_of {l : List Int} (h : l.length ≤ 1000) : Low1 l := by unfold Low1; omega
theorem ordOf_some {o : List Int} {ds : List (List Int)} {s w : List Int} (h : openB o ds s = true) (hw : weightsB ds w = true) : ordOf o ds s w = (ordVal (sortI (lensOf ds s)) w, true) := by
  unfold ordOf
  rw [h, hw]
  rfl
theorem allIn_rep {n : Nat} {x : Int} (h : 0 ≤ x ∧ x ≤ 99) : allIn (List.replicate n x) 0 99 = true := allIn_iff.2 fun y hy => by rw [List.eq_of_mem_replicate hy]; exact h
set_option maxHeartbeats 4000000 in
theorem law_FnOrdered (code : List Int) (hf : Fit (.slice (.int .u8)) code) : F_zak code = some true := by
  unfold F_zak T_zak F_zal T_zal
  by_cases hbig : (65536 : Int) < (code.length : Int)
  · simp (disch := omega) only [EV, hbig]
  · have hck : CK 0 code 0 := ⟨fun x hx => fitB (hf.2 x hx), by omega, by omega, by omega⟩
    obtain ⟨o, ds, s, w, eA, hA, hs8, hw9⟩ := draw1_ok hck
    obtain ⟨o2, ds2, k, w2, eB, hB, hw92⟩ := draw2_ok hck
    have a1 := hA.o1
    have a2 := hA.d2
    have b1 := hB.o1
    have b2 := hB.d2
    have a3 : Low1 s := low_of (by omega)
    have a4 : Low1 w := low_of (by omega)
    have b4 : Low1 w2 := low_of (by omega)
    have hlow := bestO_low o2 ds2 k w2
    have e1 := im_OrderedValue_eq a1 a2 a3 a4
    have e2 := sp_OrderedValue_eq a1 a2 a3 a4
    have e3 := im_OrderedBest_eq b1 b2 b4 k
    have e4 := sp_OrderedBest_eq b1 b2 b4 k
    have e5 := rInts_eq (b := (bestO o2 ds2 k w2).2) hlow
    have hbest : (bestO o2 ds2 k w2).1 = true → ∃ m : List Int, Low1 m ∧ F_zq o2 ds2 k = some (true, m) ∧ ordOf o2 ds2 (bestO o2 ds2 k w2).2 w2 = (ordVal (sortI (lensOf ds2 (bestO o2 ds2 k w2).2)) w2, true) ∧ ordOf o2 ds2 m w2 = (ordVal (sortI (lensOf ds2 m)) w2, true) ∧
        (((bestO o2 ds2 k w2).2.length : Nat) : Int) = k ∧ ¬ ordVal (sortI (lensOf ds2 m)) w2 < ordVal (sortI (lensOf ds2 (bestO o2 ds2 k w2).2)) w2 := fun h => by
      unfold bestO at h
      cases hb : ordB o2 ds2 k w2 with
      | false => rw [hb] at h; cases h
      | true =>
        have eb : (bestO o2 ds2 k w2).2 = firstMin (fun s => ordVal (sortI (lensOf ds2 s)) w2) (ofSz o2.length k) := by unfold bestO; rw [hb]; rfl
        unfold ordB at hb
        rw [Bool.and_eq_true] at hb
        obtain ⟨hfl, ⟨hn1, h7⟩, hk⟩ := medB_iff hb.1
        have hne := ofSz_ne h7 hk.1 hk.2
        have hm1 := first_size h7 hk (serve ds2)
        have hm2 := first_size h7 hk fun s => ordVal (sortI (lensOf ds2 s)) w2
        obtain ⟨_, _, _, hl1⟩ := size_places hn1 h7 hm1
        obtain ⟨_, hk2, _, _⟩ := size_places hn1 h7 hm2
        refine ⟨firstMin (serve ds2) (ofSz o2.length k), hl1, ?_, ?_, ordOf_some (open_set hfl hn1 h7 hm1) hb.2, ?_, ?_⟩
        · rw [im_MedianOf_eq b1 b2]
          unfold medOf
          rw [hb.1]
          rfl
        · rw [eb]
          exact ordOf_some (open_set hfl hn1 h7 hm2) hb.2
        · rw [eb]; exact hk2
        · rw [eb]
          have h2 := (firstMin_spec (g := fun s => ordVal (sortI (lensOf ds2 s)) w2) hne).2
          have h3 := (lstMin_spec (l := (ofSz o2.length k).map fun s => ordVal (sortI (lensOf ds2 s)) w2) (by simpa using hne)).2 _ (List.mem_map_of_mem (f := fun s => ordVal (sortI (lensOf ds2 s)) w2) hm1)
          rw [← h2] at h3
          exact Int.not_lt.2 h3
    -- what is left behind the best one
    have hbr : (bestO o2 ds2 k w2).1 = true ∨ (bestO o2 ds2 k w2).1 = false := by cases (bestO o2 ds2 k w2).1 <;> simp
    have hend : (ordOf o ds s w).2 = true → openB o ds s = true ∧ Fld o ds ∧ Places s o.length ∧ 0 < s.length := fun h => by
      unfold ordOf at h
      cases ho : openB o ds s with
      | false => rw [ho] at h; cases h
      | true => exact ⟨rfl, openB_iff a3 ho⟩
    generalize hp : bestO o2 ds2 k w2 = p at *
    cases hv : (ordOf o ds s w).2 with
    | false =>
      rcases hbr with hb | hb
      · obtain ⟨m, m1, m2, m3, m4, m5, m6⟩ := hbest hb
        simp (disch := omega) only [EV, hbig, eA, eB, e1, e2, e3, e4, e5, hb, hv, beq_self_eq_true, bne_self_eq_false, m2, im_OrderedValue_eq b1 b2 hlow b4, im_OrderedValue_eq b1 b2 m1 b4, m3, m4, m5, m6]
      · simp (disch := omega) only [EV, hbig, eA, eB, e1, e2, e3, e4, e5, hb, hv, beq_self_eq_true, bne_self_eq_false]
    | true =>
      obtain ⟨ho, hfl, hpl, hs0⟩ := hend hv
      have hm8 := hA.lm
      have hL1 : Low1 (List.replicate ds.length (1 : Int)) := low_of (by simp; omega)
      have hL0 : Low1 (List.replicate ds.length (0 : Int)) := low_of (by simp; omega)
      have hll := lensOf_len (ds := ds) (s := s)
      have hw1 : weightsB ds (List.replicate ds.length 1) = true := by
        unfold weightsB
        rw [allIn_rep (by omega), List.length_replicate]
        simp
      have v1 : ordVal (sortI (lensOf ds s)) (List.replicate ds.length 1) = serve ds s := by
        rw [ordVal_ones fun i hi => ?_, sortI_sum, serve_sum]
        rw [hll] at hi
        simp [hi]
      have f1 := im_OrderedValue_eq a1 a2 a3 hL1
      rw [ordOf_some ho hw1, v1] at f1
      have g1 := im_ServiceOf_eq a1 a2 a3
      have g2 := im_ReachOf_eq a1 a2 a3
      rw [ho] at g1 g2
      have l0 := ord0_eq (o := o) (ds := ds) s hm8
      have hnn : ∀ x ∈ lensOf ds s, 0 ≤ x := fun x hx => by
        obtain ⟨j, hj, rfl⟩ := List.mem_map.1 hx
        exact (near_in hfl hpl hs0 (List.mem_range.1 hj)).1
      by_cases hn : 0 < ds.length
      · obtain ⟨n, hn1⟩ : ∃ n, ds.length = n + 1 := ⟨ds.length - 1, by omega⟩
        have hn' : (0 : Int) < (((List.replicate ds.length (0 : Int)).length : Nat) : Int) := by rw [List.length_replicate]; omega
        have hL2 : Low1 ((List.replicate ds.length (0 : Int)).set n 1) := low_of (by simp; omega)
        have hw2 : weightsB ds ((List.replicate ds.length 0).set n 1) = true := by
          unfold weightsB
          rw [List.length_set, List.length_replicate, decide_eq_true rfl, Bool.and_true]
          refine allIn_iff.2 fun y hy => ?_
          rcases List.mem_or_eq_of_mem_set hy with h | rfl
          · rw [List.eq_of_mem_replicate h]; omega
          · omega
        have v2 : ordVal (sortI (lensOf ds s)) ((List.replicate ds.length 0).set n 1) = far ds s := by
          have c1 : ∀ i, i < n → ((List.replicate ds.length (0 : Int)).set n 1).getD i 0 = 0 := fun i hi => by
            rw [List.getD_eq_getElem?_getD, List.getElem?_set_ne (by omega)]
            simp [show i < ds.length by omega]
          have c2 : ((List.replicate ds.length (0 : Int)).set n 1).getD n 0 = 1 := by
            rw [List.getD_eq_getElem?_getD, List.getElem?_set_self (by simp; omega)]
            rfl
          rw [ordVal_last (n := n) (by rw [hll, hn1]) c1 c2, sorted_last (by rw [hll, hn1]) hnn, far_max]
        have f2 := im_OrderedValue_eq a1 a2 a3 hL2
        rw [ordOf_some ho hw2, v2] at f2
        have hq : (((List.replicate ds.length (0 : Int)).length : Nat) : Int) - 1 = (n : Int) := by rw [List.length_replicate]; omega
        have hq2 : n < (List.replicate ds.length (0 : Int)).length := by rw [List.length_replicate]; omega
        have hq3 : (List.replicate ds.length (0 : Int)).length ≤ 8 := by rw [List.length_replicate]; exact hm8
        generalize List.replicate ds.length (0 : Int) = z at l0 f2 hn' hq hq2 hq3 hL0 hL2
        generalize List.replicate ds.length (1 : Int) = y at l0 f1 hL1
        rcases hbr with hb | hb
        · obtain ⟨m, m1, m2, m3, m4, m5, m6⟩ := hbest hb
          simp (disch := omega) only [EV, hbig, eA, eB, e1, e2, e3, e4, e5, hb, hv, beq_self_eq_true, bne_self_eq_false, m2, im_OrderedValue_eq b1 b2 hlow b4, im_OrderedValue_eq b1 b2 m1 b4, m3, m4, m5, m6, l0, hn', hq, hq2, f1, f2, g1, g2, Int.toNat_natCast]
        · simp (disch := omega) only [EV, hbig, eA, eB, e1, e2, e3, e4, e5, hb, hv, beq_self_eq_true, bne_self_eq_false, l0, hn', hq, hq2, f1, f2, g1, g2, Int.toNat_natCast]
      · have hz : ds = [] := List.eq_nil_of_length_eq_zero (by omega)
        have v2 : ordVal (sortI (lensOf ds s)) (List.replicate ds.length 0) = far ds s := by rw [hz]; rfl
        have hw2 : weightsB ds (List.replicate ds.length 0) = true := by rw [hz]; rfl
        have f2 := im_OrderedValue_eq a1 a2 a3 hL0
        rw [ordOf_some ho hw2, v2] at f2
        have hn' : ¬ (0 : Int) < (((List.replicate ds.length (0 : Int)).length : Nat) : Int) := by rw [List.length_replicate]; omega
        generalize List.replicate ds.length (0 : Int) = z at l0 f2 hn' hL0
        generalize List.replicate ds.length (1 : Int) = y at l0 f1 hL1
        rcases hbr with hb | hb
        · obtain ⟨m, m1, m2, m3, m4, m5, m6⟩ := hbest hb
          simp (disch := omega) only [EV, hbig, eA, eB, e1, e2, e3, e4, e5, hb, hv, beq_self_eq_true, bne_self_eq_false, m2, im_OrderedValue_eq b1 b2 hlow b4, im_OrderedValue_eq b1 b2 m1 b4, m3, m4, m5, m6, l0, hn', f1, f2, g1, g2]
        · simp (disch := omega) only [EV, hbig, eA, eB, e1, e2, e3, e4, e5, hb, hv, beq_self_eq_true, bne_self_eq_false, l0, hn', f1, f2, g1, g2]
end Go.Proofs.YtlemejhffpkbkaaGreat
