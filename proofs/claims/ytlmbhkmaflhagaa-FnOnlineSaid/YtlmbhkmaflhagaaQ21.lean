/-
  The law of openings client by client.
-/
import Derived.Test.YtlmbhkmaflhagaaP32
import Derived.Test.YtlmbhkmaflhagaaP30
namespace Go.Proofs.Ytlmbhkmaflhagaa
theorem rInts_eq {a b : List Int} (ha : Low1 a) : F_zai a b = some (a == b) := by
  unfold Low1 at ha
  unfold F_zai T_zai
  by_cases h : a.length = b.length
  · have hs := eq_loop (f := fun v => (S_zai_0 (a, b) v).ev) (a := a) (b := b) 0 h (fun i hi => by
      have hi' : i < b.length := by omega
      simp (disch := omega) only [EV, S_zai_0, hi, hi']
      cases hq : (a.getD i 0 == b.getD i 0) <;> simp only [bne, hq] <;> rfl) (by simp (disch := omega) only [EV, S_zai_0, Nat.lt_irrefl])
    simp (disch := omega) only [EV, int_ne, h, L_zai_0, hs]
    cases (a == b) <;> rfl
  · have : (a == b) = false := by
      rw [beq_eq_false_iff_ne]
      exact fun e => h (by rw [e])
    simp (disch := omega) only [EV, int_ne, h, this]
theorem rTable_eq {a b : List (List Int)} (ha : Low2 a) : F_zak a b = some (a == b) := by
  obtain ⟨ha, hr⟩ := ha
  unfold F_zak T_zak
  by_cases h : a.length = b.length
  · have hs := eq_loop (f := fun v => (S_zak_0 (a, b) v).ev) (a := a) (b := b) [] h (fun i hi => by
      have hi' : i < b.length := by omega
      simp (disch := omega) only [EV, S_zak_0, hi, hi', rInts_eq (hr _ (getD_mem (d := []) hi))]
      cases (a.getD i [] == b.getD i []) <;> rfl) (by simp (disch := omega) only [EV, S_zak_0, Nat.lt_irrefl])
    simp (disch := omega) only [EV, int_ne, h, L_zak_0, hs]
    cases (a == b) <;> rfl
  · have : (a == b) = false := by
      rw [beq_eq_false_iff_ne]
      exact fun e => h (by rw [e])
    simp (disch := omega) only [EV, int_ne, h, this]
theorem rHas_no {l : List Int} {y : Int} (hl : l.length ≤ 1000000) (h : y ∉ l) : F_zah l y = some false := by
  obtain ⟨r, h1, h2⟩ := iter_cnt (f := fun v => (S_zah_0 (l, y) v).ev) (n := l.length) (fun k v => v = (k : Int)) (fun r => r = .inl ())
    (fun k v hk hv => by
      subst hv
      have hq : (l.getD k 0 == y) = false := by
        rw [beq_eq_false_iff_ne]
        exact fun e => h (e ▸ getD_mem hk)
      refine ⟨((k + 1 : Nat) : Int), ?_, rfl⟩
      simp (disch := omega) only [EV, S_zah_0, hk, hq]
      rfl)
    (fun v hv => by
      subst hv
      exact ⟨.inl (), by simp (disch := omega) only [EV, S_zah_0, Nat.lt_irrefl], rfl⟩)
    (v := (0 : Int)) rfl
  rw [h2] at h1
  have h1' : L_zah_0 (l, y) 0 = some (.inl ()) := h1
  unfold F_zah T_zah
  simp (disch := omega) only [EV, h1']
theorem rHas_yes {l : List Int} {y : Int} (hl : l.length ≤ 1000000) (h : y ∈ l) : F_zah l y = some true := by
  obtain ⟨r, h1, h2⟩ := iter_cntE (f := fun v => (S_zah_0 (l, y) v).ev) (n := l.length) (fun k v => v = (k : Int) ∧ ∀ j, j < k → l.getD j 0 ≠ y) (fun r => r = .inr ())
    (fun k v hk hv => by
      obtain ⟨rfl, hj⟩ := hv
      cases hq : (l.getD k 0 == y) with
      | true => exact .inr ⟨.inr (), by simp (disch := omega) only [EV, S_zah_0, hk, hq], rfl⟩
      | false =>
        refine .inl ⟨((k + 1 : Nat) : Int), by simp (disch := omega) only [EV, S_zah_0, hk, hq]; rfl, rfl, fun j hj' => ?_⟩
        by_cases e : j = k
        · rw [e]; exact beq_eq_false_iff_ne.1 hq
        · exact hj j (by omega))
    (fun v hv => by
      exfalso
      obtain ⟨i, hi, e⟩ := List.getElem_of_mem h
      exact hv.2 i hi (by rw [List.getD_eq_getElem?_getD, List.getElem?_eq_getElem hi, Option.getD_some, e]))
    (v := (0 : Int)) ⟨rfl, fun j hj => absurd hj (Nat.not_lt_zero j)⟩
  rw [h2] at h1
  have h1' : L_zah_0 (l, y) 0 = some (.inr ()) := h1
  unfold F_zah T_zah
  simp (disch := omega) only [EV, h1']
structure Sts (l : List Int) (x : Nat) : Prop where
  mem : ∀ y : Int, y ∈ l ↔ ∃ a : Nat, (a : Int) = y ∧ x.testBit a = true
  len : l.length ≤ x
theorem rep_nil : Sts [] 0 := ⟨fun y => ⟨(fun h => nomatch h), fun ⟨a, _, h⟩ => by simp at h⟩, Nat.le_refl _⟩
theorem rep_snoc {l : List Int} {x a : Nat} (h : Sts l x) (ha : x.testBit a = false) : Sts (l ++ [(a : Int)]) (x ||| 2 ^ a) := by
  refine ⟨fun y => ?_, by have := or_gt ha; have := h.len; simp; omega⟩
  rw [List.mem_append, h.mem, List.mem_singleton]
  constructor
  · rintro (⟨b, rfl, hb⟩ | rfl)
    · exact ⟨b, rfl, by rw [or_tb, hb]; rfl⟩
    · exact ⟨a, rfl, by rw [or_tb]; simp⟩
  · rintro ⟨b, rfl, hb⟩
    rw [or_tb, Bool.or_eq_true, decide_eq_true_eq] at hb
    rcases hb with hb | hb
    · exact .inl ⟨b, rfl, hb⟩
    · exact .inr (by rw [hb])
theorem rep_out {l : List Int} {x a : Nat} (h : Sts l x) (ha : x.testBit a = false) : (a : Int) ∉ l := fun hm => by
  obtain ⟨b, e, hb⟩ := (h.mem _).1 hm
  have : b = a := by omega
  rw [this, ha] at hb
  cases hb
def upTo (x k : Nat) : List Int := ((List.range k).filter x.testBit).map fun (a : Nat) => (a : Int)
theorem upTo_succ (x k : Nat) : upTo x (k + 1) = bif x.testBit k then upTo x k ++ [(k : Int)] else upTo x k := by
  unfold upTo
  rw [List.range_succ, List.filter_append]
  cases h : x.testBit k <;> simp [h]
theorem upTo_len (x k : Nat) : (upTo x k).length ≤ k := by
  have h := List.length_filter_le x.testBit (List.range k)
  simp only [List.length_range] at h
  simp only [upTo, List.length_map]
  exact h
theorem upTo_lst {x : Nat} (hx : x < 128) : ∀ d, upTo x (7 + d) = lst x
  | 0 => rfl
  | d + 1 => by
    have h1 : x.testBit (7 + d) = false := Nat.testBit_lt_two_pow (Nat.lt_of_lt_of_le hx (by
      have : 2 ^ 7 ≤ 2 ^ (7 + d) := Nat.pow_le_pow_right (by omega) (by omega)
      have h2 : 2 ^ 7 = 128 := by decide
      omega))
    show upTo x ((7 + d) + 1) = _
    rw [upTo_succ, h1]
    exact upTo_lst hx d
theorem rSorted_eq {l : List Int} {x : Nat} (hx : x < 128) (h : Sts l x) : F_zaj l = some (lst x) := by
  have hl := h.len
  obtain ⟨r, h1, h2⟩ := iter_cnt (f := fun v => (S_zaj_0 l v).ev) (n := 1001) (fun k v => v = ((k : Int), upTo x k)) (fun r => r = lst x)
    (fun k v hk hv => by
      subst hv
      have hk' : (k : Int) ≤ 1000 := by omega
      have hu := upTo_len x k
      have r1 := room8 (upTo x k) (k : Int) (by omega)
      have hs := upTo_succ x k
      cases hb : x.testBit k with
      | true =>
        rw [hb] at hs
        refine ⟨(((k + 1 : Nat) : Int), upTo x (k + 1)), ?_, rfl⟩
        rw [hs]
        simp (disch := omega) only [EV, S_zaj_0, hk', rHas_yes (l := l) (by omega) ((h.mem k).2 ⟨k, rfl, hb⟩), r1]
        rfl
      | false =>
        rw [hb] at hs
        refine ⟨(((k + 1 : Nat) : Int), upTo x (k + 1)), ?_, rfl⟩
        rw [hs]
        simp (disch := omega) only [EV, S_zaj_0, hk', rHas_no (l := l) (by omega) (rep_out h hb)]
        rfl)
    (fun v hv => by
      subst hv
      have hk' : ¬ ((1001 : Nat) : Int) ≤ 1000 := by omega
      exact ⟨upTo x 1001, by simp (disch := omega) only [EV, S_zaj_0, hk'], upTo_lst hx 994⟩)
    (v := ((0 : Int), ([] : List Int))) rfl
  rw [h2] at h1
  have hm1 : (-1 : Int) ≤ 1000 := by decide
  have hno : (-1 : Int) ∉ l := fun hm => by
    obtain ⟨b, e, _⟩ := (h.mem _).1 hm
    omega
  have h1' : L_zaj_0 l ((-1 : Int), ([] : List Int)) = some (lst x) := by
    have hst : (S_zaj_0 l ((-1 : Int), ([] : List Int))).ev = some (.inl ((0 : Int), ([] : List Int))) := by
      simp (disch := omega) only [EV, S_zaj_0, hm1, rHas_no (l := l) (by omega) hno]
      rfl
    unfold L_zaj_0
    rw [iter_eq, hst]
    exact h1
  unfold F_zaj T_zaj
  simp (disch := omega) only [EV, h1']
def isum : List Int → Int
  | [] => 0
  | x :: l => x + isum l
theorem foldl_isum (F : Int → Int) : ∀ (s : List Int) (acc : Int), (List.range s.length).foldl (fun a k => a + F (s.getD k 0)) acc = acc + isum (s.map F)
  | [], acc => by simp [isum]
  | y :: s, acc => by
    rw [List.length_cons, List.range_succ_eq_map, List.foldl_cons, List.foldl_map]
    have := foldl_isum F s (acc + F y)
    simp only [List.getD_cons_zero, List.getD_cons_succ, List.map_cons, isum] at this ⊢
    rw [this]
    omega
theorem pay_isum (o s : List Int) : pay o s = isum (s.map fun y => o.getD y.toNat 0) := by
  have := foldl_isum (fun y => o.getD y.toNat 0) s 0
  rw [Int.zero_add] at this
  exact this
theorem isum_ins (g : Nat → Int) {p : Nat → Bool} {a : Nat} (ha : p a = false) : ∀ (l : List Nat), l.Nodup → isum ((l.filter fun b => p b || decide (a = b)).map g) = isum ((l.filter p).map g) + (if a ∈ l then g a else 0)
  | [], _ => rfl
  | b :: l, h => by
    obtain ⟨h1, h2⟩ := List.nodup_cons.1 h
    have ih := isum_ins g ha l h2
    by_cases e : a = b
    · subst e
      rw [List.filter_cons_of_pos (by simp), List.filter_cons_of_neg (by simp [ha]), List.map_cons, if_pos List.mem_cons_self]
      rw [if_neg h1] at ih
      simp only [isum]
      omega
    · have hm : (a ∈ b :: l) = (a ∈ l) := by simp [e]
      cases hb : p b with
      | true =>
        rw [List.filter_cons_of_pos (by simp [hb]), List.filter_cons_of_pos hb, List.map_cons, List.map_cons]
        simp only [isum, hm]
        split at ih <;> split <;> first | omega | contradiction
      | false =>
        rw [List.filter_cons_of_neg (by simp [hb, e]), List.filter_cons_of_neg (by simp [hb])]
        simp only [hm]
        exact ih
theorem pay_or (o : List Int) {x a : Nat} (ha : x.testBit a = false) (h7 : a < 7) : pay o (lst (x ||| 2 ^ a)) = pay o (lst x) + o.getD a 0 := by
  rw [pay_isum, pay_isum]
  unfold lst
  rw [List.map_map, List.map_map]
  have e : (x ||| 2 ^ a).testBit = fun b => x.testBit b || decide (a = b) := funext fun b => or_tb x a b
  rw [e, isum_ins _ ha _ List.nodup_range, if_pos (List.mem_range.2 h7)]
  rfl
theorem adds_pay (o : List Int) {n : Nat} (hn : n ≤ 7) : ∀ (ys : List Int) {x x' : Nat}, adds n x ys x' → pay o (lst x') = pay o (lst x) + pay o ys
  | [], x, x', h => by cases h; rw [pay_isum o []]; simp [isum]
  | y :: ys, x, x', h => by
    obtain ⟨a, rfl, h2, h3, h4⟩ := h
    have h5 := adds_pay o hn ys h4
    have h6 := pay_or o h3 (by omega)
    rw [pay_isum o ((a : Int) :: ys), List.map_cons]
    simp only [isum, Int.toNat_natCast]
    rw [← pay_isum]
    omega
theorem opn_mono {o : List Int} (h : 0 < o.length) (hn : o.length ≤ 7) (ds : List (List Int)) {j : Nat} : ∀ d a, (opn o ds j).testBit a = true → (opn o ds (j + d)).testBit a = true
  | 0, a, ha => ha
  | d + 1, a, ha => adds_mono _ (client_spec h hn ds (opn_lt h hn ds (j + d)) (j + d)).1 a (opn_mono h hn ds d a ha)
theorem serve_sum {o : List Int} {ds : List (List Int)} (hf : Fld o ds) (hm : 0 < ds.length) : serve ds (lst (opn o ds ds.length)) ≤ sumTo o ds ds.length := by
  have hp : ∀ k, 0 < (opn o ds (k + 1)) := fun k => (client_spec hf.pos hf.len ds (opn_lt hf.pos hf.len ds k) k).2.1
  have key : ∀ k, k ≤ ds.length → (List.range k).foldl (fun a j => a + near ds (lst (opn o ds ds.length)) j) 0 ≤ sumTo o ds k := by
    intro k
    induction k with
    | zero => intro _; exact Int.le_refl _
    | succ k ih =>
      intro hk
      have h1 := ih (by omega)
      rw [foldl_range_succ, sumTo_succ]
      have e : ds.length = (k + 1) + (ds.length - (k + 1)) := by omega
      have h2 : near ds (lst (opn o ds ds.length)) k ≤ near ds (lst (opn o ds (k + 1))) k := by
        refine near_mono (lst_pos hf.len (opn_lt hf.pos hf.len ds _) (hp k)) (lst_pos hf.len (opn_lt hf.pos hf.len ds _) ?_) fun y hy => ?_
        · obtain ⟨m, hm'⟩ : ∃ m, ds.length = m + 1 := ⟨ds.length - 1, by omega⟩
          rw [hm']
          exact hp m
        · obtain ⟨a, h3, h4, h5⟩ := mem_lst.1 hy
          refine mem_lst.2 ⟨a, h3, ?_, h5⟩
          rw [e]
          exact opn_mono hf.pos hf.len ds _ a h4
      omega
  exact key ds.length (Nat.le_refl _)
theorem openB_lst {o : List Int} {ds : List (List Int)} (hf : Fld o ds) {x : Nat} (hx : x < 2 ^ o.length) (h0 : 0 < x) : openB o ds (lst x) = true := by
  unfold openB
  rw [fieldB_iff.2 hf, lst_rising hf.len hx]
  simpa using lst_pos hf.len hx h0
def sv (ds : List (List Int)) (x : Nat) : List Int := (List.range ds.length).map fun j => (srv ds j (lst x) : Int)
theorem sv_len (ds : List (List Int)) (x : Nat) : (sv ds x).length = ds.length := by simp [sv]
theorem sv_getD {ds : List (List Int)} {x j : Nat} (h : j < ds.length) : (sv ds x).getD j 0 = (srv ds j (lst x) : Int) := by
  rw [sv, List.getD_eq_getElem?_getD, List.getElem?_map, List.getElem?_range h]
  rfl
theorem im_ServedBy_eq {o : List Int} {ds : List (List Int)} (ho : Low1 o) (hd : Low2 ds) (hf : Fld o ds) {x : Nat} (hx : x < 2 ^ o.length) (h0 : 0 < x) : F_zs o ds (lst x) = some (true, sv ds x) := by
  unfold F_zs T_zs
  simp (disch := omega) only [EV, isOpened_eq ho hd (lst_low x), openB_lst hf hx h0, served_eq hf (lst_places hf.len hx) (lst_pos hf.len hx h0)]
  rfl
theorem sp_ServedBy_eq {o : List Int} {ds : List (List Int)} (ho : Low1 o) (hd : Low2 ds) (hf : Fld o ds) {x : Nat} (hx : x < 2 ^ o.length) (h0 : 0 < x) : F_zbh o ds (lst x) = some (true, sv ds x) := by
  have hp := lst_places hf.len hx
  have hl := lst_pos hf.len hx h0
  have hm := hf.clients
  obtain ⟨r, h1, h2⟩ := iter_cnt (f := fun v => (S_zbh_0 (lst x, (o, ds)) v).ev) (n := ds.length) (fun k v => v = ((k : Int), (List.range k).map fun j => (srv ds j (lst x) : Int))) (fun r => r = sv ds x)
    (fun k v hk hv => by
      subst hv
      have r1 := room8 ((List.range k).map fun j => (srv ds j (lst x) : Int)) (srv ds k (lst x) : Int) (by simp; omega)
      refine ⟨(((k + 1 : Nat) : Int), (List.range k).map (fun j => (srv ds j (lst x) : Int)) ++ [(srv ds k (lst x) : Int)]), by simp (disch := omega) only [EV, S_zbh_0, hk, l2Site_eq hf hp hl hk, r1]; rfl, ?_⟩
      rw [List.range_succ, List.map_append]
      rfl)
    (fun v hv => by
      subst hv
      exact ⟨sv ds x, by simp (disch := omega) only [EV, S_zbh_0, Nat.lt_irrefl]; rfl, rfl⟩)
    (v := ((0 : Int), ([] : List Int))) rfl
  rw [h2] at h1
  have h1' : L_zbh_0 (lst x, (o, ds)) ((0 : Int), ([] : List Int)) = some (sv ds x) := h1
  unfold F_zbh T_zbh
  simp (disch := omega) only [EV, l2Two_eq ho hd (lst_low x), openB_lst hf hx h0, h1']
theorem im_OnlineTotal_eq {o : List Int} {ds : List (List Int)} (ho : Low1 o) (hd : Low2 ds) (hf : Fld o ds) : F_zq o ds = some (sumTo o ds ds.length + pay o (lst (opn o ds ds.length)), true) := by
  have hm := hf.clients
  have hrl : (rowsTo o ds ds.length).length = ds.length := by simp [rowsTo]
  have hs := sumTo_in hf ds.length (Nat.le_refl _)
  obtain ⟨r, h1, h2⟩ := iter_cnt (f := fun v => (S_zq_0 ((ds.length : Int), (o, (ds, rowsTo o ds ds.length))) v).ev) (n := ds.length) (fun k v => v = (sumTo o ds ds.length + pay o (lst (opn o ds k)), (k : Int))) (fun r => r = sumTo o ds ds.length + pay o (lst (opn o ds ds.length)))
    (fun k v hk hv => by
      subst hv
      have hk' : k < (rowsTo o ds ds.length).length := by omega
      obtain ⟨c1, c2, c3, _⟩ := client_spec hf.pos hf.len ds (opn_lt hf.pos hf.len ds k) k
      have hp := adds_places c1 (lt128 hf.len c3)
      have e1 := adds_pay o hf.len _ c1
      have b1 := pay_in hf (lst_places hf.len (opn_lt hf.pos hf.len ds k))
      have b2 := pay_in hf hp
      refine ⟨(sumTo o ds ds.length + pay o (lst (opn o ds k)) + pay o (client o ds (opn o ds k) k).2, ((k + 1 : Nat) : Int)), by simp (disch := omega) only [EV, S_zq_0, hk, hk', rowsTo_getD hk, payment_eq hf hp]; rfl, ?_⟩
      rw [show opn o ds (k + 1) = (client o ds (opn o ds k) k).1 from rfl, e1, Int.add_assoc])
    (fun v hv => by
      subst hv
      exact ⟨_, by simp (disch := omega) only [EV, S_zq_0, Nat.lt_irrefl], rfl⟩)
    (v := (sumTo o ds ds.length, (0 : Int))) (by
      have : pay o (lst (opn o ds 0)) = 0 := by rw [show opn o ds 0 = 0 from rfl, lst_zero]; rfl
      rw [this, Int.add_zero]
      rfl)
  rw [h2] at h1
  have h1' : L_zq_0 ((ds.length : Int), (o, (ds, rowsTo o ds ds.length))) (sumTo o ds ds.length, (0 : Int)) = some (sumTo o ds ds.length + pay o (lst (opn o ds ds.length))) := h1
  have hsum : F_zae (lensTo o ds ds.length) = some (sumTo o ds ds.length) := im_sum_eq (B := 99) (by simp [lensTo]; omega) (by simp [lensTo]; omega) fun y hy => by
    obtain ⟨j, hj, rfl⟩ := List.mem_map.1 hy
    exact near_opn hf (List.mem_range.1 hj)
  unfold F_zq T_zq
  simp (disch := omega) only [EV, IsField_eq ho hd, fieldB_iff.2 hf, im_online_eq hf, hsum, hrl, h1']
theorem leastN {L : List (List Int)} (h0 : 0 < L.length) (hl : L.length ≤ 128) {p : HL [.slice (.int .i64)] → Option Int} {g : List Int → Int} (hp : ∀ s ∈ L, p (s, ()) = some (g s)) : ∃ s, F_zac L p = some s ∧ s ∈ L ∧ ∀ t ∈ L, g s ≤ g t := by
  obtain ⟨r, h1, h2, h3⟩ := iter_cnt (f := fun v => (S_zac_0 (p, (L, (L.length : Int))) v).ev) (n := L.length) (fun i v => ∃ s, v = (s, (i : Int)) ∧ s ∈ L ∧ ∀ j, j < i → g s ≤ g (L.getD j [])) (fun r => r ∈ L ∧ ∀ j, j < L.length → g r ≤ g (L.getD j []))
    (fun i v hi hv => by
      obtain ⟨s, rfl, hs, hj⟩ := hv
      have hm := getD_mem (d := []) hi
      by_cases hq : g (L.getD i []) < g s
      · refine ⟨(L.getD i [], ((i + 1 : Nat) : Int)), by simp (disch := omega) only [EV, S_zac_0, hi, hp _ hm, hp _ hs, hq]; rfl, _, rfl, hm, fun j hj' => ?_⟩
        by_cases e : j = i
        · rw [e]; exact Int.le_refl _
        · have := hj j (by omega); omega
      · refine ⟨(s, ((i + 1 : Nat) : Int)), by simp (disch := omega) only [EV, S_zac_0, hi, hp _ hm, hp _ hs, hq]; rfl, _, rfl, hs, fun j hj' => ?_⟩
        by_cases e : j = i
        · rw [e]; omega
        · exact hj j (by omega))
    (fun v hv => by
      obtain ⟨s, rfl, hs, hj⟩ := hv
      exact ⟨s, by simp (disch := omega) only [EV, S_zac_0, Nat.lt_irrefl], hs, hj⟩)
    (v := (L.getD 0 [], (0 : Int))) ⟨_, rfl, getD_mem h0, fun j hj => absurd hj (Nat.not_lt_zero j)⟩
  have h1' : L_zac_0 (p, (L, (L.length : Int))) (L.getD 0 [], (0 : Int)) = some r := h1
  have z : Int.toNat 0 = 0 := rfl
  refine ⟨r, ?_, h2, fun t ht => ?_⟩
  · unfold F_zac T_zac
    simp (disch := omega) only [EV, show inR (0 : Int) L.length = true from inR_int (by omega) (by omega), z, h1']
  · obtain ⟨i, hi, e⟩ := List.getElem_of_mem ht
    have := h3 i hi
    rw [List.getD_eq_getElem?_getD, List.getElem?_eq_getElem hi, Option.getD_some, e] at this
    exact this
theorem im_BestTotal_eq {o : List Int} {ds : List (List Int)} (ho : Low1 o) (hd : Low2 ds) (hf : Fld o ds) : ∃ m, F_ze o ds = some (m, true) ∧ ∀ x, 0 < x → x < 2 ^ o.length → m ≤ pay o (lst x) + serve ds (lst x) := by
  obtain ⟨L, e1, l1, l2, l3⟩ := sets_ok hf.pos hf.len
  have hpl : ∀ s ∈ L, Places s o.length ∧ 0 < s.length := fun s hs => by
    obtain ⟨k1, k2, k3⟩ := l2 s hs
    exact ⟨Places.of (by unfold Low1; omega) k1, k2⟩
  have h1 : lst 1 ∈ L := l3 1 (by omega) (Nat.lt_of_lt_of_le (by omega) (Nat.pow_le_pow_right (show 0 < 2 by omega) hf.pos))
  obtain ⟨s, e2, hs, hle⟩ := leastN (List.length_pos_of_mem h1) l1 (p := fun h3_ => Option.bind (F_zm o ds h3_.1) fun y4_ => some y4_) (g := fun s => pay o s + serve ds s) fun s hs => by
    simp only
    rw [total_eq hf (hpl s hs).1 (hpl s hs).2]
    rfl
  refine ⟨pay o s + serve ds s, ?_, fun x h0 hx => hle _ (l3 x h0 hx)⟩
  unfold F_ze T_ze F_zd T_zd
  simp (disch := omega) only [EV, IsField_eq ho hd, fieldB_iff.2 hf, e1, e2, total_eq hf (hpl s hs).1 (hpl s hs).2]
theorem on2_eq {n : Nat} {rows : List (List Int)} {i : Nat} (hi : i < rows.length) {row : List Int} (hrow : rows.getD i [] = row) {open_ : List Int} {x0 x' : Nat} (hx' : x' < 128) (ha : adds n x0 row x') (hR : Sts open_ x0) (p1 p2 : Int) (p4 : List Int) (p5 : List (List Int)) :
    L_zaf_2 (p1, (p2, ((i : Int), (p4, (p5, rows))))) ((0 : Int), open_) = some (.inl (open_ ++ row)) ∧ Sts (open_ ++ row) x' := by
  have key : ∀ (ys pre : List Int) (x : Nat), row = pre ++ ys → adds n x ys x' → Sts (open_ ++ pre) x → iter (fun v => (S_zaf_2 (p1, (p2, ((i : Int), (p4, (p5, rows))))) v).ev) ((pre.length : Int), open_ ++ pre) = some (.inl (open_ ++ row)) ∧ Sts (open_ ++ row) x' := by
    intro ys
    induction ys with
    | nil =>
      intro pre x e h1 h2
      rw [List.append_nil] at e
      subst e
      cases h1
      refine ⟨?_, h2⟩
      rw [iter_eq]
      simp (disch := omega) only [EV, S_zaf_2, hi, hrow, Nat.lt_irrefl]
    | cons y ys ih =>
      intro pre x e h1 h2
      have hl := adds_len _ h1
      obtain ⟨a, rfl, h3, h4, h5⟩ := h1
      have hlen : pre.length < row.length := by rw [e]; simp
      have hget : row.getD pre.length 0 = (a : Int) := by
        rw [e, List.getD_eq_getElem?_getD, List.getElem?_append_right (Nat.le_refl _)]
        simp
      have h6 := h2.len
      have r1 := room8 (open_ ++ pre) (a : Int) (by omega)
      obtain ⟨k1, k2⟩ := ih (pre ++ [(a : Int)]) (x ||| 2 ^ a) (by rw [e]; simp) h5 (by rw [← List.append_assoc]; exact rep_snoc h2 h4)
      refine ⟨?_, k2⟩
      have hpl : pre.length ≤ 1000 := by
        have h7 := h2.len
        rw [List.length_append] at h7
        omega
      have hst : (S_zaf_2 (p1, (p2, ((i : Int), (p4, (p5, rows))))) ((pre.length : Int), open_ ++ pre)).ev = some (.inl (((pre.length + 1 : Nat) : Int), open_ ++ pre ++ [(a : Int)])) := by
        simp (disch := omega) only [EV, S_zaf_2, hi, hrow, hlen, hget, rHas_no (l := open_ ++ pre) (by omega) (rep_out h2 h4), r1]
        rfl
      rw [iter_eq, hst]
      rw [← List.append_assoc, List.length_append] at k1
      exact k1
  have := key row [] x0 rfl ha (by rw [List.append_nil]; exact hR)
  rw [List.append_nil] at this
  exact this
theorem on6_eq {o : List Int} {ds : List (List Int)} (hf : Fld o ds) {x i a : Nat} (hx : x < 2 ^ o.length) (h0 : 0 < x) (hi : i < ds.length) (ha : a < o.length) (p1 p2 : Int) (p5 : List Int) (p7 : List (List Int)) (p8 : List Int) :
    L_zaf_6 (p1, (p2, ((i : Int), ((a : Int), (p5, (ds, (p7, (p8, sv ds x)))))))) ((0 : Int), (0 : Int)) = some (wish ds x (i + 1) a) := by
  have hp := lst_places hf.len hx
  have hl := lst_pos hf.len hx h0
  have hm := hf.clients
  have hsl := sv_len ds x
  exact (iter_fold (f := fun v => (S_zaf_6 (p1, (p2, ((i : Int), ((a : Int), (p5, (ds, (p7, (p8, sv ds x)))))))) v).ev) (n := i + 1) (mk := fun j s => (s, (j : Int))) (I := fun j s => 0 ≤ s ∧ s ≤ (j : Int) * 99)
    (g := fun s j => s + max (near ds (lst x) j - at2 ds j a) 0) (fin := fun s => s) (s0 := 0) (by simp)
    (fun j s hj hs => by
      have hjm : j < ds.length := by omega
      have h1 : 0 ≤ (ds.getD j []).getD (srv ds j (lst x)) 0 ∧ (ds.getD j []).getD (srv ds j (lst x)) 0 ≤ 99 := near_in hf hp hl hjm
      have h2 : 0 ≤ (ds.getD j []).getD a 0 ∧ (ds.getD j []).getD a 0 ≤ 99 := hf.at2 hjm ha
      have h3 := srv_lt (ds := ds) (j := j) hp hl
      have h4 := hf.rowLen j hjm
      have hji : (j : Int) ≤ (i : Int) := by omega
      have hI : 0 ≤ s + max ((ds.getD j []).getD (srv ds j (lst x)) 0 - (ds.getD j []).getD a 0) 0 ∧ s + max ((ds.getD j []).getD (srv ds j (lst x)) 0 - (ds.getD j []).getD a 0) 0 ≤ ((j + 1 : Nat) : Int) * 99 := by omega
      refine ⟨?_, hI⟩
      by_cases hq : (0 : Int) < (ds.getD j []).getD (srv ds j (lst x)) 0 - (ds.getD j []).getD a 0
      · have e : max ((ds.getD j []).getD (srv ds j (lst x)) 0 - (ds.getD j []).getD a 0) 0 = (ds.getD j []).getD (srv ds j (lst x)) 0 - (ds.getD j []).getD a 0 := by omega
        have e' : s + max (near ds (lst x) j - at2 ds j a) 0 = s + ((ds.getD j []).getD (srv ds j (lst x)) 0 - (ds.getD j []).getD a 0) := congrArg (s + ·) e
        rw [e']
        simp (disch := omega) only [EV, S_zaf_6, hji, hjm, hsl, sv_getD hjm, h3, h4, ha, hq]
        rfl
      · have e : max ((ds.getD j []).getD (srv ds j (lst x)) 0 - (ds.getD j []).getD a 0) 0 = 0 := by omega
        have e' : s + max (near ds (lst x) j - at2 ds j a) 0 = s + 0 := congrArg (s + ·) e
        rw [e', Int.add_zero]
        simp (disch := omega) only [EV, S_zaf_6, hji, hjm, hsl, sv_getD hjm, h3, h4, ha, hq]
        rfl)
    (fun s _ => by
      have hji : ¬ ((i + 1 : Nat) : Int) ≤ (i : Int) := by omega
      simp (disch := omega) only [EV, S_zaf_6, hji])).1
theorem on4_eq {o : List Int} {ds : List (List Int)} (hf : Fld o ds) {x i : Nat} (hx : x < 2 ^ o.length) (h0 : 0 < x) (hi : i < ds.length) (hw : wanted o ds x (i + 1) < 0) {open_ : List Int} (hR : Sts open_ x) (p1 p2 : Int) (p6 : List (List Int)) :
    L_zaf_4 (p1, (p2, ((i : Int), (o, (ds, (p6, (open_, sv ds x))))))) (0 : Int) = some (.inl ()) := by
  have hn := hf.len
  have hl := hR.len
  have h128 := lt128 hf.len hx
  have hws : ∀ a, a < o.length → x.testBit a = false → wish ds x (i + 1) a ≤ o.getD a 0 := by
    rcases wanted_spec o ds x (i + 1) with ⟨_, h⟩ | ⟨a, _, h, _⟩
    · exact h
    · omega
  obtain ⟨r, h1, h2⟩ := iter_cnt (f := fun v => (S_zaf_4 (p1, (p2, ((i : Int), (o, (ds, (p6, (open_, sv ds x))))))) v).ev) (n := o.length) (fun a v => v = (a : Int)) (fun r => r = .inl ())
    (fun a v ha hv => by
      subst hv
      refine ⟨((a + 1 : Nat) : Int), ?_, rfl⟩
      cases hb : x.testBit a with
      | true =>
        simp (disch := omega) only [EV, S_zaf_4, ha, on6_eq hf hx h0 hi ha, rHas_yes (l := open_) (by omega) ((hR.mem a).2 ⟨a, rfl, hb⟩)]
        rfl
      | false =>
        have hq := Int.not_lt.2 (hws a ha hb)
        simp (disch := omega) only [EV, S_zaf_4, ha, on6_eq hf hx h0 hi ha, rHas_no (l := open_) (by omega) (rep_out hR hb), hq]
        rfl)
    (fun v hv => by
      subst hv
      exact ⟨.inl (), by simp (disch := omega) only [EV, S_zaf_4, Nat.lt_irrefl], rfl⟩)
    (v := (0 : Int)) rfl
  rw [h2] at h1
  exact h1
theorem on0_eq {o : List Int} {ds : List (List Int)} (ho : Low1 o) (hd : Low2 ds) (hf : Fld o ds) (t : Int) : ∃ open_, L_zaf_0 (t, (o, (ds, rowsTo o ds ds.length))) ((0 : Int), ((0 : Int), ([] : List Int))) = some (.inl (sumTo o ds ds.length, open_)) ∧ Sts open_ (opn o ds ds.length) := by
  have hm := hf.clients
  have hrl : (rowsTo o ds ds.length).length = ds.length := by simp [rowsTo]
  obtain ⟨r, h1, open_, rfl, h2⟩ := iter_cnt (f := fun v => (S_zaf_0 (t, (o, (ds, rowsTo o ds ds.length))) v).ev) (n := ds.length) (fun i v => ∃ open_, v = (sumTo o ds i, ((i : Int), open_)) ∧ Sts open_ (opn o ds i)) (fun r => ∃ open_, r = .inl (sumTo o ds ds.length, open_) ∧ Sts open_ (opn o ds ds.length))
    (fun i v hi hv => by
      obtain ⟨open_, rfl, hR⟩ := hv
      obtain ⟨c1, c2, c3, c4⟩ := client_spec hf.pos hf.len ds (opn_lt hf.pos hf.len ds i) i
      have c5 := lt128 hf.len c3
      have hi' : i < (rowsTo o ds ds.length).length := by omega
      have e2 := fun p1 p2 p4 p5 => (on2_eq hi' (rowsTo_getD hi) c5 c1 hR p1 p2 p4 p5).1
      have hR' := (on2_eq hi' (rowsTo_getD hi) c5 c1 hR 0 0 [] []).2
      have hx : opn o ds (i + 1) = (client o ds (opn o ds i) i).1 := rfl
      have hs := sumTo_in hf i (by omega)
      have hnr : 0 ≤ (ds.getD i []).getD (srv ds i (lst (client o ds (opn o ds i) i).1)) 0 ∧ (ds.getD i []).getD (srv ds i (lst (client o ds (opn o ds i) i).1)) 0 ≤ 99 := near_opn hf hi
      have hsv := srv_lt (ds := ds) (j := i) (lst_places hf.len c3) (lst_pos hf.len c3 c2)
      have hsl := sv_len ds (client o ds (opn o ds i) i).1
      have hrow := hf.rowLen i hi
      have hlow : Low1 (sv ds (client o ds (opn o ds i) i).1) := by unfold Low1; omega
      refine ⟨(sumTo o ds (i + 1), (((i + 1 : Nat) : Int), open_ ++ (client o ds (opn o ds i) i).2)), ?_, _, rfl, hR'⟩
      rw [sumTo_succ]
      simp (disch := omega) only [EV, S_zaf_0, hi, hrl, e2, rSorted_eq c5 hR', im_ServedBy_eq ho hd hf c3 c2, sp_ServedBy_eq ho hd hf c3 c2, rInts_eq hlow, beq_self_eq_true, hsl, sv_getD hi, hsv, hrow, on4_eq hf c3 c2 hi c4 hR']
      rfl)
    (fun v hv => by
      obtain ⟨open_, rfl, hR⟩ := hv
      exact ⟨.inl (sumTo o ds ds.length, open_), by simp (disch := omega) only [EV, S_zaf_0, hrl, Nat.lt_irrefl], open_, rfl, hR⟩)
    (v := ((0 : Int), ((0 : Int), ([] : List Int)))) ⟨[], rfl, rep_nil⟩
  exact ⟨open_, h1, h2⟩
theorem law_FnOnline (code : List Int) (hf : Fit (.slice (.int .u8)) code) : F_zaf code = some true := by
  unfold F_zaf T_zaf F_zag T_zag
  by_cases hbig : (65536 : Int) < (code.length : Int)
  · simp (disch := omega) only [EV, hbig]
  · have hck : CK 0 code 0 := ⟨fun x hx => fitB (hf.2 x hx), by omega, by omega, by omega⟩
    obtain ⟨o, ds, e1, hD⟩ := drawIsField_ok hck
    have ho := hD.o1
    have hd := hD.d2
    have eD : F_zbe code = some (o, ds) := by
      unfold F_zbe T_zbe
      simp (disch := omega) only [EV, e1]
    cases hb : fieldB o ds with
    | false =>
      have e2 : F_zp o ds = some (false, []) := by
        unfold F_zp T_zp
        simp (disch := omega) only [EV, IsField_eq ho hd, hb]
      have e3 : F_zbf o ds = some (false, []) := by
        unfold F_zbf T_zbf
        simp (disch := omega) only [EV, l2Good_eq ho hd, hb]
      have e4 : F_zq o ds = some (0, false) := by
        unfold F_zq T_zq
        simp (disch := omega) only [EV, IsField_eq ho hd, hb]
      have e5 : F_zbg o ds = some (0, false) := by
        unfold F_zbg T_zbg
        simp (disch := omega) only [EV, l2Good_eq ho hd, hb]
      have hn : Low2 ([] : List (List Int)) := ⟨by simp, fun r hr => by cases hr⟩
      simp (disch := omega) only [EV, hbig, eD, e2, e3, e4, e5, rTable_eq hn, beq_self_eq_true, bne_self_eq_false]
    | true =>
      have hfl : Fld o ds := fieldB_iff.1 hb
      have hm := hfl.clients
      have e2 : F_zp o ds = some (true, rowsTo o ds ds.length) := by
        unfold F_zp T_zp
        simp (disch := omega) only [EV, IsField_eq ho hd, hb, im_online_eq hfl]
      have e3 : F_zbf o ds = some (true, rowsTo o ds ds.length) := by
        unfold F_zbf T_zbf
        simp (disch := omega) only [EV, l2Good_eq ho hd, hb, sp_online_eq hfl]
      have e4 := im_OnlineTotal_eq ho hd hfl
      have e5 : F_zbg o ds = some (sumTo o ds ds.length + pay o (lst (opn o ds ds.length)), true) := by
        unfold F_zbg T_zbg
        simp (disch := omega) only [EV, l2Good_eq ho hd, hb, sp_online_eq hfl]
      have hrl : (rowsTo o ds ds.length).length = ds.length := by simp [rowsTo]
      have hrow : Low2 (rowsTo o ds ds.length) := by
        refine ⟨by omega, fun r hr => ?_⟩
        obtain ⟨i, hi, rfl⟩ := List.mem_map.1 hr
        obtain ⟨c1, _, c3, _⟩ := client_spec hfl.pos hfl.len ds (opn_lt hfl.pos hfl.len ds i) i
        exact (adds_places c1 (lt128 hfl.len c3)).low
      obtain ⟨open_, e6, hR⟩ := on0_eq ho hd hfl (sumTo o ds ds.length + pay o (lst (opn o ds ds.length)))
      by_cases hz : ds.length = 0
      · have ht : sumTo o ds ds.length + pay o (lst (opn o ds ds.length)) = 0 := by
          rw [hz]
          show sumTo o ds 0 + pay o (lst 0) = 0
          rw [lst_zero]
          rfl
        have hz' : (((ds.length : Nat) : Int) == (0 : Int)) = true := by rw [hz]; rfl
        rw [ht] at e4 e5 e6
        simp (disch := omega) only [EV, hbig, eD, e2, e3, e4, e5, rTable_eq hrow, beq_self_eq_true, bne_self_eq_false, e6, hrl, hz']
      · have hz' : (((ds.length : Nat) : Int) == (0 : Int)) = false := by rw [beq_eq_false_iff_ne]; omega
        obtain ⟨m, hm'⟩ : ∃ m, ds.length = m + 1 := ⟨ds.length - 1, by omega⟩
        have hx := opn_lt hfl.pos hfl.len ds ds.length
        have h0 : 0 < opn o ds ds.length := by
          rw [hm']
          exact (client_spec hfl.pos hfl.len ds (opn_lt hfl.pos hfl.len ds m) m).2.1
        have hpl := lst_places hfl.len hx
        have hpp := lst_pos hfl.len hx h0
        obtain ⟨b, e7, hle⟩ := im_BestTotal_eq ho hd hfl
        have hle := hle _ h0 hx
        have hss := serve_sum hfl (by omega)
        have b1 := pay_in hfl hpl
        have b2 := serve_in hfl hpl hpp
        have b3 := sumTo_in hfl ds.length (Nat.le_refl _)
        have e8 : F_zt o ds (lst (opn o ds ds.length)) = some (pay o (lst (opn o ds ds.length)) + serve ds (lst (opn o ds ds.length)), true) := by
          unfold F_zt T_zt
          simp (disch := omega) only [EV, isOpened_eq ho hd (lst_low _), openB_lst hfl hx h0, total_eq hfl hpl hpp]
        have hol := ho
        unfold Low1 at hol
        have e9 : F_zr o ds (lst (opn o ds ds.length)) = some (pay o (lst (opn o ds ds.length)), true) := by
          unfold F_zr T_zr
          simp (disch := omega) only [EV, IsField_eq ho hd, hb, isRising_eq (lst_low _) (show (0 : Int) ≤ (o.length : Int) by omega) hol, lst_rising hfl.len hx, payment_eq hfl hpl]
        have hs := rSorted_eq (lt128 hfl.len hx) hR
        have l1 : pay o (lst (opn o ds ds.length)) + serve ds (lst (opn o ds ds.length)) ≤ sumTo o ds ds.length + pay o (lst (opn o ds ds.length)) := by omega
        simp (disch := omega) only [EV, hbig, eD, e2, e3, e4, e5, rTable_eq hrow, beq_self_eq_true, bne_self_eq_false, e6, hrl, hz', hs, e8, e9, e7, l1, hle]
end Go.Proofs.Ytlmbhkmaflhagaa
