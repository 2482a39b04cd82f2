/-
  The law of nested medians.
-/
import Derived.Test.YtbofjefpngpegaaGreatP43
namespace Go.Proofs.YtbofjefpngpegaaGreat
theorem wcbe {x : Int × Int} (h : InP x) : (quo x).2 = 0 → (quo x).1 = 1 := by
  unfold quo
  split
  next h0 => intro e; omega
  next =>
    split
    · intro e; cases e
    · intro _; rfl
theorem wmw {a b c : Int × Int} (ha : InP a) (hb : InP b) (hc : InP c) (h1 : wef a b = false) (h2 : wef b c = false) : wef a c = false := by
  unfold wef at *
  rw [decide_eq_false_iff_not, Int.not_lt] at *
  obtain ⟨a1, _, a2, _⟩ := wvy ha
  obtain ⟨b1, _, b2, _⟩ := wvy hb
  obtain ⟨c1, _, c2, _⟩ := wvy hc
  by_cases hz : (quo b).2 = 0
  · rw [hz, wcbe hb hz] at h2
    have e : (quo c).2 = 0 := by omega
    rw [e, Int.mul_zero]
    exact Int.mul_nonneg c1 a2
  · have hp : 0 < (quo b).2 := by omega
    refine Int.le_of_mul_le_mul_right ?_ hp
    have k1 := Int.mul_le_mul_of_nonneg_right h1 c2
    have k2 := Int.mul_le_mul_of_nonneg_right h2 a2
    calc (quo a).1 * (quo c).2 * (quo b).2 = (quo a).1 * (quo b).2 * (quo c).2 := by rw [Int.mul_assoc, Int.mul_comm (quo c).2, ← Int.mul_assoc]
      _ ≤ (quo b).1 * (quo a).2 * (quo c).2 := k1
      _ = (quo b).1 * (quo c).2 * (quo a).2 := by rw [Int.mul_assoc, Int.mul_comm (quo a).2, ← Int.mul_assoc]
      _ ≤ (quo c).1 * (quo b).2 * (quo a).2 := k2
      _ = (quo c).1 * (quo a).2 * (quo b).2 := by rw [Int.mul_assoc, Int.mul_comm (quo b).2, ← Int.mul_assoc]
theorem wadm (a : Int × Int) : wef a a = false := by
  unfold wef
  rw [decide_eq_false_iff_not]
  exact Int.lt_irrefl _
theorem wzl {a b : Int × Int} (h : wef a b = true) : wef b a = false := by
  unfold wef at *
  rw [decide_eq_true_eq] at h
  rw [decide_eq_false_iff_not]
  omega
theorem waaz {o : List Int} {ds : List (List Int)} {order : List Int} (hf : Fld o ds) (h : wep order o.length = true) : ∀ i, i ≤ o.length →
    (i = 0 ∨ ∃ j, j < i ∧ (List.range i).foldl (wmn ds order o.length) (0, (0, 0)) = (((j + 1 : Nat) : Int), wmr ds order o.length j)) ∧ ∀ j, j < i → wef (wmr ds order o.length j) ((List.range i).foldl (wmn ds order o.length) (0, (0, 0))).2 = false
  | 0, _ => ⟨.inl rfl, fun j hj => by omega⟩
  | i + 1, hi => by
    obtain ⟨i1, i2⟩ := waaz hf h i (by omega)
    rw [List.range_succ, List.foldl_append, List.foldl_cons, List.foldl_nil]
    generalize (List.range i).foldl (wmn ds order o.length) (0, (0, 0)) = s at i1 i2
    have own_in : ∀ j, j < o.length → InP (wmr ds order o.length j) := fun j hj => wgk hf h hj
    unfold wmn
    cases hc : (decide (i = 0) || wef (wmr ds order o.length i) s.2) with
    | true =>
      rw [cond_true]
      refine ⟨.inr ⟨i, Nat.lt_succ_self i, rfl⟩, fun j hj => ?_⟩
      by_cases e : j = i
      · rw [e]; exact wadm _
      · have hlt : j < i := by omega
        have hw : wef (wmr ds order o.length i) s.2 = true := by
          rw [decide_eq_false (by omega), Bool.false_or] at hc
          exact hc
        rcases i1 with i1 | ⟨j', hj', e'⟩
        · omega
        · have k := i2 j hlt
          rw [e'] at k hw
          exact wmw (own_in j (by omega)) (own_in j' (by omega)) (own_in i (by omega)) k (wzl hw)
    | false =>
      rw [cond_false]
      rw [Bool.or_eq_false_iff, decide_eq_false_iff_not] at hc
      refine ⟨.inr ?_, fun j hj => ?_⟩
      · rcases i1 with i1 | ⟨j', hj', e'⟩
        · exact absurd i1 hc.1
        · exact ⟨j', by omega, e'⟩
      · by_cases e : j = i
        · rw [e]; exact hc.2
        · exact i2 j (by omega)
theorem wban {o : List Int} {ds : List (List Int)} {order : List Int} (ho : wdu o) (hd : Low2 ds) (hf : Fld o ds) (h : wep order o.length = true) {j : Nat} (hj : j < o.length) (hbest : ∀ i, i < o.length → wef (wmr ds order o.length i) (wmr ds order o.length j) = false) :
    waks (order, (((j + 1 : Nat) : Int), ((wmr ds order o.length j).1, ((wmr ds order o.length j).2, (o, ds))))) 1 = some (.inl ()) := by
  have h7 := hf.len
  obtain ⟨ho1, ho2, ho3⟩ := wck.1 h
  generalize hp : wmr ds order o.length j = p at hbest
  have hpin : InP p := by rw [← hp]; exact wgk hf h hj
  obtain ⟨r, h1, h2⟩ := wbb (f := fun v => (wmg (order, (((j + 1 : Nat) : Int), (p.1, (p.2, (o, ds))))) v).ev) (n := o.length) (fun i v => v = ((i + 1 : Nat) : Int)) (fun r => r = .inl ())
    (fun i v hi hv => by
      subst hv
      refine ⟨((i + 1 + 1 : Nat) : Int), ?_, rfl⟩
      obtain ⟨t1, t2⟩ := wbal h h7 (k := i + 1) (by omega) (by omega)
      obtain ⟨_, t3, t4⟩ := wdk h h7 (k := i + 1) (by omega) (by omega)
      have hnd : (order.take (i + 1)).Nodup := ho3.sublist (List.take_sublist _ _)
      have er := wzk (l := order.take (i + 1)) (by rw [List.length_take]; omega) (fun a ha => by have := ho2 a (List.mem_of_mem_take ha); omega) hnd
      have hop : wyw o ds (wan (order.take (i + 1))) = true := by
        unfold wyw
        rw [wcd.2 hf, t2, decide_eq_true (by omega)]
        rfl
      have es := wwg ho hd t4 hop
      have em := wmv ho hd hf (k := ((i + 1 : Nat) : Int)) (by omega)
      have hmin : wzg ds o.length ((i + 1 : Nat) : Int) ≤ serve ds (wan (order.take (i + 1))) := by
        have hne := wtm (n := o.length) h7 (k := ((i + 1 : Nat) : Int)) (by omega) (by omega)
        have k1 : wzg ds o.length ((i + 1 : Nat) : Int) = _ := (wct (g := serve ds) hne).2
        rw [k1]
        exact (wgh (l := (wwk o.length ((i + 1 : Nat) : Int)).map (serve ds)) (by simpa using hne)).2 _ (List.mem_map_of_mem t1)
      have hw := hbest i hi
      have hin := wgk hf h hi
      have hse : serve ds (wan (order.take (i + 1))) = (wmr ds order o.length i).1 := rfl
      have hme : wzg ds o.length ((i + 1 : Nat) : Int) = (wmr ds order o.length i).2 := rfl
      have hk : (((i + 1 : Nat) : Int) == ((j + 1 : Nat) : Int)) = true → p = wmr ds order o.length i := fun e => by
        have e := beq_iff_eq.1 e
        have e : i = j := by omega
        rw [e, hp]
      rw [hse] at es hmin
      rw [hme] at em hmin
      generalize wmr ds order o.length i = q at hw hin es em hmin hk
      obtain ⟨s, v⟩ := q
      obtain ⟨p1, p2⟩ := p
      obtain ⟨b1, b2, b3, b4⟩ := hin
      obtain ⟨c1, c2, c3, c4⟩ := hpin
      simp only at b1 b2 b3 b4 c1 c2 c3 c4 es em hmin
      have m1 := wiw ⟨c1, c2⟩ ⟨b3, b4⟩
      have m2 := wiw ⟨b1, b2⟩ ⟨c3, c4⟩
      have g0 : inR 0 2 = true := rfl
      have g1 : inR 1 2 = true := rfl
      have hle : ((i + 1 : Nat) : Int) ≤ ((order.length : Nat) : Int) := by omega
      have hns : ¬ s < v := by omega
      have gd : (decide ((0 : Int) ≤ ((i + 1 : Nat) : Int)) && true) = true := by
        rw [decide_eq_true (by omega)]; rfl
      have w2 : IntKind.wrap .i64 (((i + 1 : Nat) : Int) + 1) = ((i + 1 + 1 : Nat) : Int) := by rw [wrap64 (by omega) (by omega)]; omega
      have hfin : 0 < p2 → (v = 0 → ¬ 0 < s) ∧ (0 < v → ¬ p1 * v < s * p2) := fun hp2 => by
        unfold wef at hw
        rw [decide_eq_false_iff_not, Int.not_lt] at hw
        have q1 : quo (p1, p2) = (p1, p2) := by unfold quo; rw [if_pos hp2]
        rw [q1] at hw
        refine ⟨fun hv hs => ?_, fun hv => ?_⟩
        · have q2 : quo (s, v) = (1, 0) := by
            unfold quo
            rw [if_neg (by omega), if_neg (by omega)]
          rw [q2] at hw
          simp only [Int.one_mul, Int.mul_zero] at hw
          omega
        · have q2 : quo (s, v) = (s, v) := by unfold quo; rw [if_pos hv]
          rw [q2] at hw
          exact Int.not_lt.2 hw
      unfold wmg
      dsimp only
      rw [Tr.ev_t, decide_eq_true hle, cond_true, Tr.ev_g, gd, cond_true, Tr.ev_c, Int.toNat_natCast, List.drop_zero, er, Option.bind_some, Tr.ev_c, es, Option.bind_some, Tr.ev_c, em, Option.bind_some]
      dsimp only
      rw [Tr.ev_t, Bool.not_true, cond_false, Tr.ev_t, cond_false, Tr.ev_t, decide_eq_false hns, cond_false, w2]
      have tail : ∀ {α : Type} (x y : α), (Tr.g (inR (1 : Int) 2) <|
                          .t (decide ((0 : Int) < p2))
                            (.t (v == (0 : Int))
                                (.t (decide ((0 : Int) < s))
                                    (.l x)
                                    (.t (decide ((0 : Int) < v))
                                        (.g (inR (1 : Int) 2) <|
                                          .g (inR (0 : Int) 2) <|
                                          .t (decide ((IntKind.wrap .i64 (p1 * v)) < (IntKind.wrap .i64 (s * p2))))
                                            (.l x)
                                            (.l y))
                                        (.l y)))
                                (.t (decide ((0 : Int) < v))
                                    (.g (inR (1 : Int) 2) <|
                                      .g (inR (0 : Int) 2) <|
                                      .t (decide ((IntKind.wrap .i64 (p1 * v)) < (IntKind.wrap .i64 (s * p2))))
                                        (.l x)
                                        (.l y))
                                    (.l y)))
                            (.l y)).ev = some y := fun {α} x y => by
        by_cases hp2 : 0 < p2
        · obtain ⟨f1, f2⟩ := hfin hp2
          by_cases hv : v = 0
          · have f3 := f1 hv
            have ev : (v == 0) = true := beq_iff_eq.2 hv
            have nv : ¬ 0 < v := by omega
            simp (disch := omega) only [EV, g0, g1, hp2, ev, f3, nv]
          · have ev : (v == 0) = false := beq_eq_false_iff_ne.2 hv
            have pv : 0 < v := by omega
            have f3 := f2 pv
            simp (disch := omega) only [EV, g0, g1, hp2, ev, pv, f3]
        · simp (disch := omega) only [EV, g0, g1, hp2]
      cases hkk : (((i + 1 : Nat) : Int) == ((j + 1 : Nat) : Int)) with
      | true =>
        have e := hk hkk
        injection e with e1 e2
        have z : (!((p1 == s) && ((p2 == v) && true))) = false := by
          rw [e1, e2, beq_self_eq_true, beq_self_eq_true]
          rfl
        rw [Tr.ev_t, cond_true, Tr.ev_t, z, cond_false]
        exact tail _ _
      | false =>
        rw [Tr.ev_t, cond_false]
        exact tail _ _)
    (fun v hv => by
      subst hv
      have hle : ¬ (((o.length + 1 : Nat) : Int) ≤ ((order.length : Nat) : Int)) := by omega
      refine ⟨_, ?_, rfl⟩
      unfold wmg
      rw [Tr.ev_t, decide_eq_false hle, cond_false, Tr.ev_l])
    (v := (1 : Int)) rfl
  rw [h2] at h1
  exact h1
theorem wwh (code : List Int) (hfit : Fit (.slice (.int .u8)) code) : wbjm code = some true := by
  unfold wbjm wayh wbdu warz
  by_cases hb : (65536 : Int) < ((code.length : Nat) : Int)
  · simp (disch := omega) only [EV, hb]
  · have hck : CK 0 code 0 := ⟨fun x hx => fitB (hfit.2 x hx), by omega, by omega, by omega⟩
    obtain ⟨o, ds, order, e1, hd, hl⟩ := wtq hck
    have hlow : wdu order := by unfold wdu; omega
    have ei := wix hd.o1 hd.d2 hlow
    have es := wiy hd.o1 hd.d2 hlow
    unfold waph at ei es
    cases hc : (wdj o ds && wep order o.length) with
    | false =>
      rw [hc, cond_false] at ei es
      simp (disch := omega) only [EV, hb, e1, ei, es, beq_self_eq_true, bne_self_eq_false]
    | true =>
      rw [hc, cond_true] at ei es
      rw [Bool.and_eq_true] at hc
      have hf := wcd.1 hc.1
      obtain ⟨i1, i2⟩ := waaz hf hc.2 o.length (Nat.le_refl _)
      unfold wadf at ei es
      rcases i1 with i1 | ⟨j, hj, e⟩
      · have := hf.pos
        omega
      · rw [e] at ei es i2
        have hn := wban hd.o1 hd.d2 hf hc.2 hj i2
        have hol := (wck.1 hc.2).1
        have k1 : (1 : Int) ≤ ((j + 1 : Nat) : Int) := by omega
        have k2 : ((j + 1 : Nat) : Int) ≤ ((order.length : Nat) : Int) := by omega
        generalize ((j + 1 : Nat) : Int) = kk at ei es hn k1 k2
        generalize wmr ds order o.length j = q at ei es hn
        simp (disch := omega) only [EV, hb, e1, ei, es, beq_self_eq_true, bne_self_eq_false, hn, k1, k2]
end Go.Proofs.YtbofjefpngpegaaGreat
