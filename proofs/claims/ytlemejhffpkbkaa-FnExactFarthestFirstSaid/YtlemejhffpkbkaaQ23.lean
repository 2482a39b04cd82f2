/-
  The laws of the best dispersion, the best ordered value and farthest places.
-/
import Derived.Test.YtlemejhffpkbkaaP34
import Derived.Test.YtlemejhffpkbkaaP10
import Derived.Test.YtlemejhffpkbkaaP7
import Derived.Test.YtlemejhffpkbkaaPM
namespace Go.Proofs.Ytlemejhffpkbkaa
def kB (m : List (List Int)) (k : Int) : Bool := groundB m && isIn k 2 (m.length : Int)
theorem kB_iff {m : List (List Int)} {k : Int} (h : kB m k = true) : Ground m ∧ 2 ≤ k ∧ k ≤ (m.length : Int) := by
  unfold kB at h
  rw [Bool.and_eq_true, groundB_iff, isIn_iff] at h
  exact h
theorem l11K_eq {m : List (List Int)} (hm : Low2 m) (k : Int) : F_zax m k = some (kB m k) := by
  unfold F_zax T_zax kB
  simp (disch := omega) only [EV, l11Ground_eq hm, l1In_eq]
  cases groundB m <;> rfl
theorem size_places {n : Nat} (h1 : 1 ≤ n) (h7 : n ≤ 7) {k : Int} {s : List Int} (hs : s ∈ ofSz n k) : Places s n ∧ (s.length : Int) = k ∧ 0 < s.length ∧ Low1 s := by
  obtain ⟨a, b⟩ := ofSz_mem.1 hs
  obtain ⟨c, d, e⟩ := setP_places h7 (setsP h1 h7) a
  exact ⟨c, b, d, e⟩
theorem first_size {n : Nat} (h7 : n ≤ 7) {k : Int} (hk : 1 ≤ k ∧ k ≤ (n : Int)) (g : List Int → Int) : firstMin g (ofSz n k) ∈ ofSz n k :=
  (firstMin_spec (ofSz_ne h7 hk.1 hk.2)).1
theorem contains_int {l : List Int} (hl : (l.length : Int) < 9223372036854775807) (x : Int) : F_zaf l x = some (l.contains x) := by
  have hs : L_zaj_0 (l, (x, ((l.length : Nat) : Int))) 0 = _ := iter_forE (f := fun v => (S_zaj_0 (l, (x, ((l.length : Nat) : Int))) v).ev) (l := l) 0 (fun y => x == y) (mk := fun i => (i : Int)) (yes := fun i => .inr (i : Int)) (no := .inl ()) (fun i hi => by
    simp (disch := omega) only [EV, S_zaj_0, hi]
    cases (x == l.getD i 0) <;> rfl) (by simp (disch := omega) only [EV, S_zaj_0, Nat.lt_irrefl])
  unfold F_zaf T_zaf F_zaj T_zaj
  simp (disch := omega) only [EV, hs]
  rw [List.contains_eq_any_beq]
  have h2 := findIdx_any (l := l) (q := fun y => x == y)
  cases h : l.findIdx? fun y => x == y with
  | none =>
    rw [h] at h2
    have h3 : (l.any fun y => x == y) = false := by
      rw [Bool.eq_false_iff]
      exact fun h4 => by have := h2.1 h4; simp at this
    rw [h3]
    rfl
  | some i =>
    rw [h] at h2
    rw [h2.2 rfl]
    exact congrArg some (decide_eq_true (by omega))
theorem l1Has_eq {l : List Int} (hl : (l.length : Int) < 9223372036854775807) (x : Int) : F_zaz l x = some (l.contains x) := by
  have hs : L_zaz_0 (l, x) 0 = _ := iter_forE (f := fun v => (S_zaz_0 (l, x) v).ev) (l := l) 0 (fun y => y == x) (mk := fun i => (i : Int)) (yes := fun _ => .inr ()) (no := .inl ()) (fun i hi => by
    simp (disch := omega) only [EV, S_zaz_0, hi]
    cases (l.getD i 0 == x) <;> rfl) (by simp (disch := omega) only [EV, S_zaz_0, Nat.lt_irrefl])
  unfold F_zaz T_zaz
  simp (disch := omega) only [EV, hs]
  have e : l.contains x = l.any fun y => y == x := by
    rw [List.contains_eq_any_beq]
    congr 1
    funext y
    exact Bool.beq_comm
  rw [e]
  have h2 := findIdx_any (l := l) (q := fun y => y == x)
  cases h : l.findIdx? fun y => y == x with
  | none =>
    rw [h] at h2
    have h3 : (l.any fun y => y == x) = false := by
      rw [Bool.eq_false_iff]
      exact fun h4 => by have := h2.1 h4; simp at this
    rw [h3]
    rfl
  | some i =>
    rw [h] at h2
    rw [h2.2 rfl]
    rfl
theorem nat_at {m : List (List Int)} {out : List Int} (h : ∀ x ∈ out, 0 ≤ x ∧ x < (m.length : Int)) {i : Nat} (hi : i < out.length) : ∃ b : Nat, out.getD i 0 = (b : Int) ∧ b < m.length := by
  have := h _ (getD_mem (d := 0) hi)
  exact ⟨(out.getD i 0).toNat, by omega, by omega⟩
def farR (m : List (List Int)) (k : Int) : Bool × List Int := bif kB m k then (true, farOf m (k.toNat - 2)) else (false, [])
theorem far_zero {m : List (List Int)} (hm : Ground m) (h2 : 2 ≤ m.length) : FarL m 2 (firstMin (fun s => -disp m s 100) (ofSz m.length 2)) := by
  have h7 := hm.len
  obtain ⟨p1, p2, _, _⟩ := size_places (n := m.length) (by omega) h7 (first_size h7 (k := 2) ⟨by omega, by omega⟩ fun s => -disp m s 100)
  refine ⟨by omega, fun x hx => ?_⟩
  obtain ⟨i, hi, rfl⟩ := List.getElem_of_mem hx
  have := p1.mem i hi
  rw [List.getD_eq_getElem?_getD, List.getElem?_eq_getElem hi] at this
  exact this
theorem farL_all {m : List (List Int)} (hm : Ground m) : ∀ j, 2 + j ≤ m.length → FarL m (2 + j) (farOf m j)
  | 0, h => far_zero hm (by omega)
  | j + 1, h => by
    have e : farOf m (j + 1) = farOf m j ++ [farStep m (farOf m j)] := by unfold farOf; rw [foldl_range_succ]
    rw [e]
    exact (farL_all hm j (by omega)).snoc (by omega)
theorem farR_low (m : List (List Int)) (k : Int) : Low1 (farR m k).2 := by
  unfold farR
  cases h : kB m k with
  | false => show Low1 []; unfold Low1; simp
  | true =>
    obtain ⟨hG, h1, h2⟩ := kB_iff h
    have h7 := hG.len
    have := (farL_all hG (k.toNat - 2) (by omega)).len
    show Low1 (farOf m (k.toNat - 2))
    unfold Low1
    omega
theorem far4_eq {m : List (List Int)} (hm : Ground m) {out : List Int} (ho : ∀ x ∈ out, 0 ≤ x ∧ x < (m.length : Int)) (hl : out.length ≤ 7) {a : Nat} (ha : a < m.length) (k1 k2 k3 k5 k6 : Int) :
    L_zd_4 (k1, (k2, (k3, ((a : Int), (k5, (k6, ((out.length : Int), (m, out)))))))) (99, 0) = some (farD m out a) := by
  have h7 := hm.len
  have := (iter_foldl (f := fun v => (S_zd_4 (k1, (k2, (k3, ((a : Int), (k5, (k6, ((out.length : Int), (m, out)))))))) v).ev) out 0 (mk := fun i s => (s, (i : Int))) (I := fun _ _ => True)
    (g := fun w b => min w (at2 m a b.toNat)) (fin := fun w => w) (s0 := 99) trivial
    (fun i w hi _ => by
      obtain ⟨b, e, hb⟩ := nat_at ho hi
      have e3 : (m.getD a []).getD b 0 = at2 m a b := rfl
      refine ⟨?_, trivial⟩
      simp (disch := omega) only [EV, S_zd_4, hi, ha, e, hm.rowLen ha, hb, e3, Int.toNat_natCast]
      by_cases h : at2 m a b < w
      · rw [if_pos h, Int.min_eq_right (by omega)]; rfl
      · rw [if_neg h, Int.min_eq_left (by omega)]; rfl)
    (fun w _ => by simp (disch := omega) only [EV, S_zd_4, Nat.lt_irrefl])).1
  exact this
theorem far2_eq {m : List (List Int)} (hm : Ground m) {out : List Int} (ho : ∀ x ∈ out, 0 ≤ x ∧ x < (m.length : Int)) (hl : out.length ≤ 7) (k1 : Int) :
    L_zd_2 (k1, ((m.length : Int), (m, out))) (-1, (-1, 0)) = some (farStep m out) := by
  have h7 := hm.len
  have h := iter_fold (f := fun v => (S_zd_2 (k1, ((m.length : Int), (m, out))) v).ev) (n := m.length) (mk := fun i b => (b, ((if b < 0 then -1 else farD m out b.toNat), (i : Int)))) (I := fun i b => FarI m out i b)
    (g := fun (best : Int) (a : Nat) => bif out.contains (a : Int) then best else if best < 0 ∨ farD m out best.toNat < farD m out a then (a : Int) else best) (fin := fun b => b) (s0 := -1) (farI_all m out 0)
    (fun i b hi hI => by
      refine ⟨?_, farI_step hI⟩
      have h4 := far4_eq hm ho hl hi
      have hge := farD_ge hm hi ho
      cases hc : out.contains (i : Int) with
      | true =>
        simp (disch := omega) only [EV, S_zd_2, hi, contains_int (l := out) (by omega), hc]
        rfl
      | false =>
        rcases hI with ⟨rfl, _⟩ | ⟨q, rfl, hq, _⟩
        · have e1 : (if (-1 : Int) < 0 then (-1 : Int) else farD m out (-1 : Int).toNat) = -1 := rfl
          have e2 : ((-1 : Int) < 0 ∨ farD m out (-1 : Int).toNat < farD m out i) := .inl (by omega)
          have e3 : (-1 : Int) < farD m out i := by omega
          have e4 : ¬ (i : Int) < 0 := by omega
          rw [if_pos e2, e1]
          simp (disch := omega) only [EV, S_zd_2, hi, contains_int (l := out) (by omega), hc, h4, e3, e4, Int.toNat_natCast]
          rfl
        · have e4 : ¬ (q : Int) < 0 := by omega
          have e5 : ¬ (i : Int) < 0 := by omega
          by_cases hd : farD m out q < farD m out i
          · simp (disch := omega) only [EV, S_zd_2, hi, contains_int (l := out) (by omega), hc, h4, e4, e5, hd, Int.toNat_natCast]
            rfl
          · simp (disch := omega) only [EV, S_zd_2, hi, contains_int (l := out) (by omega), hc, h4, e4, e5, hd, Int.toNat_natCast]
            rfl)
    (fun b _ => by simp (disch := omega) only [EV, S_zd_2, Nat.lt_irrefl])
  exact h.1
theorem im_FarthestFirst_eq {m : List (List Int)} (hm : Low2 m) (k : Int) : F_zd m k = some (farR m k) := by
  unfold F_zd T_zd farR kB
  simp (disch := omega) only [EV, im_IsGround_eq hm, between_eq]
  cases hg : groundB m with
  | false => rfl
  | true =>
    cases hk : isIn k 2 (m.length : Int) with
    | false => rfl
    | true =>
      have hG := (groundB_iff m).1 hg
      have hk2 := isIn_iff.1 hk
      have h7 := hG.len
      obtain ⟨y, k1, k2, k3, k4, k5⟩ := ofSize_eq (n := m.length) (by omega) h7 2
      have hpos := List.length_pos_iff.2 (ofSz_ne h7 (k := 2) (by omega) (by omega))
      have hle := leastP_eq (x := y) k2 (by omega) (by omega) (p := fun h4_ => Option.bind (F_ze h4_.1 m) fun y5_ => some y5_) (g := fun s => -disp m s 100) fun s hs => by
        rw [k3] at hs
        obtain ⟨p1, _⟩ := size_places (by omega) h7 hs
        have hb := disp_in hG p1
        show Option.bind (F_ze s m) _ = _
        unfold F_ze T_ze
        simp (disch := omega) only [EV, dispersion_eq hG p1, Int.zero_sub]
      rw [k3] at hle
      have h := iter_fold (f := fun v => (S_zd_0 (k, m) v).ev) (n := k.toNat - 2) (mk := fun _ s => s) (I := fun i s => FarL m (2 + i) s) (g := fun out _ => out ++ [farStep m out]) (fin := fun s => s)
        (far_zero hG (by omega))
        (fun i out hi hI => by
          have hl := hI.len
          have h2 := far2_eq hG hI.mem (by omega) k
          have r1 : (out.length + List.length ([farStep m out] : List Int)) * 8 ≤ 140737488355328 := by simp; omega
          have hlt : ((out.length : Nat) : Int) < k := by omega
          exact ⟨by simp (disch := omega) only [EV, S_zd_0, hlt, h2, r1], hI.snoc (by omega)⟩)
        (fun out hI => by
          have hlt : ¬ ((out.length : Nat) : Int) < k := by have := hI.len; omega
          simp (disch := omega) only [EV, S_zd_0, hlt])
      have h0 : L_zd_0 (k, m) (firstMin (fun s => -disp m s 100) (ofSz m.length 2)) = some (farOf m (k.toNat - 2)) := h.1
      simp (disch := omega) only [EV, k1, hle, h0]
theorem l11Nearest_eq {m : List (List Int)} (hm : Ground m) {out : List Int} (ho : ∀ x ∈ out, 0 ≤ x ∧ x < (m.length : Int)) (h0 : out ≠ []) (hl : out.length ≤ 7) {x : Nat} (hx : x < m.length) :
    F_zay m out (x : Int) = some (farD m out x) := by
  have h7 := hm.len
  obtain ⟨b, t, rfl⟩ := List.exists_cons_of_ne_nil h0
  obtain ⟨c, rfl, hc⟩ : ∃ c : Nat, b = (c : Int) ∧ c < m.length := by
    have := ho b List.mem_cons_self
    exact ⟨b.toNat, by omega, by omega⟩
  have ht : ∀ y ∈ t, 0 ≤ y ∧ y < (m.length : Int) := fun y hy => ho y (List.mem_cons_of_mem _ hy)
  have e1 : (m.getD c []).getD x 0 = at2 m x c := hm.sym c x hc hx
  have hl' : t.length + 1 ≤ 7 := hl
  have h := (iter_foldl (f := fun v => (S_zay_0 (m, ((c : Int) :: t, (x : Int))) v).ev) t 0 (mk := fun i s => (s, ((i + 1 : Nat) : Int))) (I := fun _ _ => True)
    (g := fun w b => min w (at2 m x b.toNat)) (fin := fun w => w) (s0 := at2 m x c) trivial
    (fun i w hi _ => by
      obtain ⟨b, e, hb⟩ := nat_at ht hi
      have e3 : (m.getD b []).getD x 0 = at2 m x b := hm.sym b x hb hx
      have hi' : i + 1 < ((c : Int) :: t).length := by simpa using hi
      have e4 : ((c : Int) :: t).getD (i + 1) 0 = (b : Int) := by rw [← e]; rfl
      refine ⟨?_, trivial⟩
      simp (disch := omega) only [EV, S_zay_0, hi', e4, e, hb, hm.rowLen hb, hx, e3, l1Least_eq, Int.toNat_natCast]
      rfl)
    (fun w _ => by
      have e5 : ((c : Int) :: t).length = t.length + 1 := rfl
      simp (disch := omega) only [EV, S_zay_0, e5, Nat.lt_irrefl])).1
  have hr : L_zay_0 (m, ((c : Int) :: t, (x : Int))) (at2 m x c, 1) = _ := h
  have z0 : Int.toNat 0 = 0 := rfl
  have e6 : ((c : Int) :: t).getD 0 0 = (c : Int) := rfl
  have e7 : inR (0 : Int) ((c : Int) :: t).length = true := inR_int (by omega) (by rw [List.length_cons]; omega)
  unfold F_zay T_zay
  simp (disch := omega) only [EV, z0, e6, e7, hc, hm.rowLen hc, hx, e1, hr]
  have h9 := hm.in hx hc
  unfold farD
  rw [List.foldl_cons, Int.toNat_natCast, Int.min_eq_right (by omega)]
theorem far6_eq {m : List (List Int)} (hm : Ground m) {out : List Int} (ho : ∀ x ∈ out, 0 ≤ x ∧ x < (m.length : Int)) (h0 : out ≠ []) (hl : out.length ≤ 7) (k1 : Int) :
    L_zav_6 (m, (k1, out)) (-1, 0) = some (farStep m out) := by
  have h7 := hm.len
  have h := iter_fold (f := fun v => (S_zav_6 (m, (k1, out)) v).ev) (n := m.length) (mk := fun i b => (b, (i : Int))) (I := fun i b => FarI m out i b)
    (g := fun (best : Int) (a : Nat) => bif out.contains (a : Int) then best else if best < 0 ∨ farD m out best.toNat < farD m out a then (a : Int) else best) (fin := fun b => b) (s0 := -1) (farI_all m out 0)
    (fun i b hi hI => by
      refine ⟨?_, farI_step hI⟩
      have e1 := l11Nearest_eq hm ho h0 hl hi
      cases hc : out.contains (i : Int) with
      | true =>
        simp (disch := omega) only [EV, S_zav_6, hi, l1Has_eq (l := out) (by omega), hc]
        rfl
      | false =>
        rcases hI with ⟨rfl, _⟩ | ⟨q, rfl, hq, _⟩
        · have e2 : ((-1 : Int) < 0 ∨ farD m out (-1 : Int).toNat < farD m out i) := .inl (by omega)
          rw [if_pos e2]
          simp (disch := omega) only [EV, S_zav_6, hi, l1Has_eq (l := out) (by omega), hc]
          rfl
        · have e4 : ¬ (q : Int) < 0 := by omega
          have e3 := l11Nearest_eq hm ho h0 hl (show q < m.length by omega)
          by_cases hd : farD m out q < farD m out i
          · simp (disch := omega) only [EV, S_zav_6, hi, l1Has_eq (l := out) (by omega), hc, e4, e1, e3, hd, Int.toNat_natCast]
            rfl
          · simp (disch := omega) only [EV, S_zav_6, hi, l1Has_eq (l := out) (by omega), hc, e4, e1, e3, hd, Int.toNat_natCast]
            rfl)
    (fun b _ => by simp (disch := omega) only [EV, S_zav_6, Nat.lt_irrefl])
  exact h.1
def PairI (m : List (List Int)) (s : List Int) : Prop := ∃ p q : Nat, s = [(p : Int), (q : Int)] ∧ p < m.length ∧ q < m.length
theorem farp2_eq {m : List (List Int)} (hm : Ground m) (k : Int) {i : Nat} (hi : i < m.length) {s : List Int} (hs : PairI m s) :
    L_zav_2 (m, (k, (i : Int))) (((i + 1 : Nat) : Int), s) = some ((List.range (m.length - (i + 1))).foldl (fun s t => if -disp m [(i : Int), ((i + 1 + t : Nat) : Int)] 100 < -disp m s 100 then [(i : Int), ((i + 1 + t : Nat) : Int)] else s) s) ∧
    PairI m ((List.range (m.length - (i + 1))).foldl (fun s t => if -disp m [(i : Int), ((i + 1 + t : Nat) : Int)] 100 < -disp m s 100 then [(i : Int), ((i + 1 + t : Nat) : Int)] else s) s) := by
  have h7 := hm.len
  have z0 : Int.toNat 0 = 0 := rfl
  have z1 : Int.toNat 1 = 1 := rfl
  exact iter_fold (f := fun v => (S_zav_2 (m, (k, (i : Int))) v).ev) (n := m.length - (i + 1)) (mk := fun t s => (((i + 1 + t : Nat) : Int), s)) (I := fun _ s => PairI m s)
    (g := fun s t => if -disp m [(i : Int), ((i + 1 + t : Nat) : Int)] 100 < -disp m s 100 then [(i : Int), ((i + 1 + t : Nat) : Int)] else s) (fin := fun s => s) hs
    (fun t s ht hs => by
      obtain ⟨p, q, rfl, hp, hq⟩ := hs
      have hj : i + 1 + t < m.length := by omega
      have d0 : List.getD [(p : Int), (q : Int)] 0 0 = (p : Int) := rfl
      have d1 : List.getD [(p : Int), (q : Int)] 1 0 = (q : Int) := rfl
      have l2 : List.length [(p : Int), (q : Int)] = 2 := rfl
      have i0 : inR (0 : Int) 2 = true := rfl
      have i1 : inR (1 : Int) 2 = true := rfl
      have e1 : (m.getD p []).getD q 0 = at2 m p q := rfl
      have e2 : (m.getD i []).getD (i + 1 + t) 0 = at2 m i (i + 1 + t) := rfl
      have n0 : (0 : Nat) < 2 := by omega
      have n1 : (1 : Nat) < 2 := by omega
      rw [disp_pair hm hi hj, disp_pair hm hp hq]
      by_cases hlt : at2 m p q < at2 m i (i + 1 + t)
      · rw [if_pos (by omega)]
        refine ⟨?_, ⟨i, i + 1 + t, rfl, hi, hj⟩⟩
        simp (disch := omega) only [EV, S_zav_2, hj, hi, hm.rowLen hi, z0, z1, d0, d1, l2, i0, i1, n0, n1, hp, hq, hm.rowLen hp, e1, e2, hlt]
        rfl
      · rw [if_neg (by omega)]
        refine ⟨?_, ⟨p, q, rfl, hp, hq⟩⟩
        simp (disch := omega) only [EV, S_zav_2, hj, hi, hm.rowLen hi, z0, z1, d0, d1, l2, i0, i1, n0, n1, hp, hq, hm.rowLen hp, e1, e2, hlt]
        rfl)
    (fun s _ => by
      have e : i + 1 + (m.length - (i + 1)) = m.length := by omega
      simp (disch := omega) only [EV, S_zav_2, e, Nat.lt_irrefl])
theorem farp0_eq {m : List (List Int)} (hm : Ground m) (h2 : 2 ≤ m.length) (k : Int) : L_zav_0 (m, k) (0, [0, 1]) = some (firstMin (fun s => -disp m s 100) (ofSz m.length 2)) := by
  have h7 := hm.len
  have h := (iter_fold (f := fun v => (S_zav_0 (m, k) v).ev) (n := m.length) (mk := fun i s => ((i : Int), s)) (I := fun _ s => PairI m s)
    (g := fun s i => (List.range (m.length - (i + 1))).foldl (fun s t => if -disp m [(i : Int), ((i + 1 + t : Nat) : Int)] 100 < -disp m s 100 then [(i : Int), ((i + 1 + t : Nat) : Int)] else s) s) (fin := fun s => s) (s0 := [0, 1])
    ⟨0, 1, rfl, by omega, by omega⟩
    (fun i s hi hs => by
      obtain ⟨e1, e2⟩ := farp2_eq hm k hi hs
      have e0 : ((i + 1 : Nat) : Int) = (i : Int) + 1 := by omega
      rw [e0] at e1
      refine ⟨?_, e2⟩
      simp (disch := omega) only [EV, S_zav_0, hi, e1]
      rfl)
    (fun s _ => by simp (disch := omega) only [EV, S_zav_0, Nat.lt_irrefl])).1
  have e : L_zav_0 (m, k) (0, [0, 1]) = _ := h
  rw [e, pairs_eq _ h7]
  obtain ⟨r, hr⟩ := pairs_head m.length h2 h7
  have h3 := foldl_head (g := fun s => -disp m s 100) hr
  rw [← h3]
  unfold pairsOf
  rw [foldl_nest]
  congr 2
  funext s i
  rw [List.foldl_map]
theorem sp_FarthestFirst_eq {m : List (List Int)} (hm : Low2 m) (k : Int) : F_zav m k = some (farR m k) := by
  unfold F_zav T_zav farR
  simp (disch := omega) only [EV, l11K_eq hm]
  cases hb : kB m k with
  | false => rfl
  | true =>
    obtain ⟨hG, hk1, hk2⟩ := kB_iff hb
    have h7 := hG.len
    have h := iter_fold (f := fun v => (S_zav_4 (m, k) v).ev) (n := k.toNat - 2) (mk := fun _ s => s) (I := fun i s => FarL m (2 + i) s) (g := fun out _ => out ++ [farStep m out]) (fin := fun s => s)
      (far_zero hG (by omega))
      (fun i out hi hI => by
        have hl := hI.len
        have h2 := far6_eq hG hI.mem (fun e => by rw [e] at hl; simp at hl; omega) (by omega) k
        have r1 : (out.length + List.length ([farStep m out] : List Int)) * 8 ≤ 140737488355328 := by simp; omega
        have hlt : ((out.length : Nat) : Int) < k := by omega
        exact ⟨by simp (disch := omega) only [EV, S_zav_4, hlt, h2, r1], hI.snoc (by omega)⟩)
      (fun out hI => by
        have hlt : ¬ ((out.length : Nat) : Int) < k := by have := hI.len; omega
        simp (disch := omega) only [EV, S_zav_4, hlt])
    have h0 : L_zav_4 (m, k) (firstMin (fun s => -disp m s 100) (ofSz m.length 2)) = some (farOf m (k.toNat - 2)) := h.1
    simp (disch := omega) only [EV, farp0_eq hG (by omega) k, h0]
theorem law_FarthestFirst (m : List (List Int)) (k : Int) (hm : Fit tLL m) (_ : Fit tI k) : F_zr m k = some true := by
  unfold F_zr T_zr
  obtain ⟨r, e1, _, k2⟩ := szIntSS_sz (fit2 hm) (b := 1048576) (by omega) (by omega)
  simp (disch := omega) only [EV, e1]
  by_cases hr : r < 0
  · simp (disch := omega) only [EV, hr]
  · have h1 := k2 (by omega)
    have hb1 := tot_take h1 (k := 1) m.length
    rw [List.take_length] at hb1
    have hn1 : ¬ tot 1 m < 0 := by omega
    have es := sp_FarthestFirst_eq h1 k
    have ei := im_FarthestFirst_eq h1 k
    have hlow := farR_low m k
    generalize farR m k = p at es ei hlow
    have hl := hlow
    unfold Low1 at hl
    have hn : ¬ 1 + (p.2.length : Int) < 0 := by omega
    simp (disch := omega) only [EV, hr, toIntSS_eq h1, es, ei, eqIntSS_eq h1, eqIntS_eq hlow, beq_self_eq_true, bne_self_eq_false, markIntSS_eq h1 (k := 1) (by omega) (by omega), hn1, markIntS_eq hlow (k := 1) (by omega) (by omega), heldIntS_eq (n := p.2.length) hl (k := 1) (by omega) (by omega), hn]
end Go.Proofs.Ytlemejhffpkbkaa
