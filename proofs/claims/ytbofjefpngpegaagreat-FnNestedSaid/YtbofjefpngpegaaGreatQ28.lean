/-
  The law of the worst first sites of an order.
-/
import Derived.Test.YtbofjefpngpegaaGreatP41
namespace Go.Proofs.YtbofjefpngpegaaGreat
def quo (x : Int × Int) : Int × Int := if 0 < x.2 then x else if x.1 = 0 then (1, 1) else (1, 0)
def wef (a b : Int × Int) : Bool := decide ((quo b).1 * (quo a).2 < (quo a).1 * (quo b).2)
def InP (x : Int × Int) : Prop := 0 ≤ x.1 ∧ x.1 ≤ 693 ∧ 0 ≤ x.2 ∧ x.2 ≤ 693
theorem wvy {x : Int × Int} (h : InP x) : InP (quo x) := by
  obtain ⟨a, b, c, d⟩ := h
  unfold quo
  split
  · exact ⟨a, b, c, d⟩
  · split <;> exact ⟨by decide, by decide, by decide, by decide⟩
theorem wiw {a b : Int} (h1 : 0 ≤ a ∧ a ≤ 693) (h2 : 0 ≤ b ∧ b ≤ 693) : 0 ≤ a * b ∧ a * b ≤ 480249 :=
  ⟨Int.mul_nonneg h1.1 h2.1, by have := Int.mul_le_mul h1.2 h2.2 h2.1 (by omega); omega⟩
theorem wmm (x : Int × Int) : F_zq x.1 x.2 = some (quo x) := by
  obtain ⟨a, b⟩ := x
  unfold F_zq T_zq quo
  have g0 : inR 0 2 = true := rfl
  have g1 : inR 1 2 = true := rfl
  by_cases h : 0 < b
  · simp (disch := omega) only [EV, g0, g1, h]
    try rfl
  · by_cases h2 : a = 0
    · simp (disch := omega) only [EV, g0, g1, h, h2]
      try rfl
    · have e : (a == 0) = false := beq_eq_false_iff_ne.2 h2
      simp (disch := omega) only [EV, g0, g1, h, e]
      rw [if_neg h2]
theorem wzh {a b : Int × Int} (ha : InP a) (hb : InP b) : wakl a.1 a.2 b.1 b.2 = some (wef a b) := by
  obtain ⟨a1, a2⟩ := a
  obtain ⟨b1, b2⟩ := b
  obtain ⟨p1, p2, p3, p4⟩ := ha
  obtain ⟨q1, q2, q3, q4⟩ := hb
  simp only at p1 p2 p3 p4 q1 q2 q3 q4
  have g0 : inR 0 2 = true := rfl
  have g1 : inR 1 2 = true := rfl
  have z1 : ((1 : Int) == 0) = false := rfl
  have z0 : ((0 : Int) == 0) = true := rfl
  have m1 := wiw ⟨q1, q2⟩ ⟨p3, p4⟩
  have m2 := wiw ⟨p1, p2⟩ ⟨q3, q4⟩
  unfold wakl waxr wef quo
  by_cases ha2 : a2 = 0 <;> by_cases hb2 : b2 = 0
  · subst ha2 hb2
    by_cases ha1 : a1 = 0 <;> by_cases hb1 : b1 = 0
    · subst ha1 hb1
      rfl
    · subst ha1
      have e : (b1 == 0) = false := beq_eq_false_iff_ne.2 hb1
      simp (disch := omega) only [EV, g0, g1, z0, z1, e, hb1]
      simp [hb1]
    · subst hb1
      have e : (a1 == 0) = false := beq_eq_false_iff_ne.2 ha1
      simp (disch := omega) only [EV, g0, g1, z0, z1, e, ha1]
      simp [ha1]
    · have e : (b1 == 0) = false := beq_eq_false_iff_ne.2 hb1
      have e2 : (a1 == 0) = false := beq_eq_false_iff_ne.2 ha1
      simp (disch := omega) only [EV, g0, g1, z0, z1, e, e2]
      simp [ha1, hb1]
  · subst ha2
    have eb : (b2 == 0) = false := beq_eq_false_iff_ne.2 hb2
    have hpb : 0 < b2 := by omega
    by_cases ha1 : a1 = 0
    · subst ha1
      simp (disch := omega) only [EV, g0, g1, z0, z1, eb]
      simp [hpb]
    · have e2 : (a1 == 0) = false := beq_eq_false_iff_ne.2 ha1
      simp (disch := omega) only [EV, g0, g1, z0, z1, eb, e2]
      simp [hpb, ha1]
  · subst hb2
    have ea : (a2 == 0) = false := beq_eq_false_iff_ne.2 ha2
    have hpa : 0 < a2 := by omega
    by_cases hb1 : b1 = 0
    · subst hb1
      simp (disch := omega) only [EV, g0, g1, z0, z1, ea]
      simp [hpa]
    · have e2 : (b1 == 0) = false := beq_eq_false_iff_ne.2 hb1
      simp (disch := omega) only [EV, g0, g1, z0, z1, ea, e2]
      simp [hpa, hb1]
      try omega
  · have ea : (a2 == 0) = false := beq_eq_false_iff_ne.2 ha2
    have eb : (b2 == 0) = false := beq_eq_false_iff_ne.2 hb2
    have hpa : 0 < a2 := by omega
    have hpb : 0 < b2 := by omega
    simp (disch := omega) only [EV, g0, g1, z0, z1, ea, eb]
    rw [if_pos hpa, if_pos hpb]
theorem wdk {l : List Int} {n : Nat} (h : wep l n = true) (hn : n ≤ 7) {k : Nat} (h1 : 1 ≤ k) (h2 : k ≤ n) : Places (wan (l.take k)) n ∧ (wan (l.take k)).length = k ∧ wdu (wan (l.take k)) := by
  obtain ⟨a, b, _⟩ := wck.1 h
  have hl : (wan (l.take k)).length = k := by rw [(wcj _).2.1, List.length_take]; omega
  have hlow : wdu (wan (l.take k)) := by unfold wdu; omega
  refine ⟨⟨hlow, fun i hi => ?_⟩, hl, hlow⟩
  have hm : (wan (l.take k)).getD i 0 ∈ wan (l.take k) := getD_mem hi
  exact b _ (List.mem_of_mem_take (((wcj _).2.2 _).1 hm))
theorem wape {l : List Int} {n : Nat} (h : wep l n = true) {k : Nat} (h2 : k < n) : l.getD k 0 ∉ wan (l.take k) ∧ ins (l.getD k 0) (wan (l.take k)) = wan (l.take (k + 1)) := by
  obtain ⟨a, _, c⟩ := wck.1 h
  have e := wdb (l := l) (i := k) 0 (by omega)
  refine ⟨fun hm => ?_, by rw [e, wnq]⟩
  have hm := ((wcj _).2.2 _).1 hm
  have hc : (l.take (k + 1)).Nodup := c.sublist (List.take_sublist _ _)
  rw [e, List.nodup_append] at hc
  exact hc.2.2 _ hm _ (List.mem_singleton.2 rfl) rfl
def wmr (ds : List (List Int)) (order : List Int) (n i : Nat) : Int × Int := (serve ds (wan (order.take (i + 1))), wzg ds n ((i + 1 : Nat) : Int))
theorem wgk {o : List Int} {ds : List (List Int)} {order : List Int} (hf : Fld o ds) (h : wep order o.length = true) {i : Nat} (hi : i < o.length) : InP (wmr ds order o.length i) := by
  obtain ⟨p1, p2, _⟩ := wdk h hf.len (k := i + 1) (by omega) (by omega)
  have h1 := waar hf p1 (by omega)
  have h2 := wbmo hf (k := ((i + 1 : Nat) : Int)) (by omega)
  exact ⟨h1.1, h1.2, h2.1, h2.2⟩
def wmn (ds : List (List Int)) (order : List Int) (n : Nat) (s : Int × (Int × Int)) (i : Nat) : Int × (Int × Int) :=
  bif decide (i = 0) || wef (wmr ds order n i) s.2 then (((i + 1 : Nat) : Int), wmr ds order n i) else s
def wadf (ds : List (List Int)) (order : List Int) (n : Nat) : Int × (Int × Int) := (List.range n).foldl (wmn ds order n) (0, (0, 0))
def NI (i : Nat) (s : Int × (Int × Int)) : Prop := (s.1 == 0) = decide (i = 0) ∧ InP s.2
theorem wapf {o : List Int} {ds : List (List Int)} {order : List Int} (hf : Fld o ds) (h : wep order o.length = true) {i : Nat} (hi : i < o.length) {s : Int × (Int × Int)} (hs : NI i s) : NI (i + 1) (wmn ds order o.length s i) := by
  unfold wmn
  obtain ⟨h1, h2⟩ := hs
  have e : decide (i + 1 = 0) = false := decide_eq_false (by omega)
  by_cases hz : i = 0
  · rw [decide_eq_true hz, Bool.true_or, cond_true]
    exact ⟨by rw [e]; exact beq_eq_false_iff_ne.2 (show ((i + 1 : Nat) : Int) ≠ 0 by omega), wgk hf h hi⟩
  · rw [decide_eq_false hz, Bool.false_or]
    cases wef (wmr ds order o.length i) s.2 with
    | true => exact ⟨by rw [e]; exact beq_eq_false_iff_ne.2 (show ((i + 1 : Nat) : Int) ≠ 0 by omega), wgk hf h hi⟩
    | false =>
      refine ⟨?_, h2⟩
      rw [cond_false, h1, e, decide_eq_false hz]
theorem wapg {o : List Int} {ds : List (List Int)} (hf : Fld o ds) : F_zl o ds = some ((List.range o.length).map fun i => wzg ds o.length ((i + 1 : Nat) : Int)) := by
  have h7 := hf.len
  have h := wsf (f := fun v => (wvm ((o.length : Int), (o, ds)) v).ev) (n := o.length) (fun i l => ((i : Int), l)) (fun i => wzg ds o.length ((i + 1 : Nat) : Int)) (fun l => l)
    (fun i l hi hl => by
      have hk : (1 : Int) ≤ ((i : Int) + 1) ∧ ((i : Int) + 1) ≤ (o.length : Int) := by omega
      have e1 := wvx hf hk
      obtain ⟨p1, _, p2, _⟩ := wbw hf.pos h7 (wfq (ds := ds) h7 hk)
      have e2 := wee hf p1 p2
      simp (disch := omega) only [EV, wvm, hi, e1, e2, List.length_cons, List.length_nil, hl]
      rw [if_pos (by omega)]
      rfl)
    (fun l _ => by simp (disch := omega) only [EV, wvm, Nat.lt_irrefl])
  have h0 : wbbf ((o.length : Int), (o, ds)) (0, []) = _ := h
  unfold F_zl T_zl
  simp (disch := omega) only [EV, h0]
theorem wvz {o : List Int} {ds : List (List Int)} {order : List Int} (hf : Fld o ds) (h : wep order o.length = true) (z1 z2 : Int) :
    wbbg (order, (o, (ds, (z1, (z2, (List.range o.length).map fun i => wzg ds o.length ((i + 1 : Nat) : Int)))))) (0, (1, (0, 0))) = some (wadf ds order o.length) := by
  have h7 := hf.len
  have hol : order.length = o.length := (wck.1 h).1
  have key := (wbr (f := fun v => (wvn (order, (o, (ds, (z1, (z2, (List.range o.length).map fun i => wzg ds o.length ((i + 1 : Nat) : Int)))))) v).ev) (n := o.length) (mk := fun i s => (s.1, (((i + 1 : Nat) : Int), (s.2.1, s.2.2)))) (I := NI) (g := wmn ds order o.length) (fin := fun s => (s.1, (s.2.1, s.2.2))) (s0 := (0, (0, 0))) ⟨rfl, by exact ⟨by decide, by decide, by decide, by decide⟩⟩
    (fun i s hi hI => by
      refine ⟨?_, wapf hf h hi hI⟩
      obtain ⟨p1, p2, _⟩ := wdk h h7 (k := i + 1) (by omega) (by omega)
      have e1 := wee hf p1 (by omega)
      have eq1 := wmm (wmr ds order o.length i)
      have eq2 := wmm s.2
      have hin1 := wvy (wgk hf h hi)
      have hin2 := wvy hI.2
      have m1 := wiw ⟨hin2.1, hin2.2.1⟩ ⟨hin1.2.2.1, hin1.2.2.2⟩
      have m2 := wiw ⟨hin1.1, hin1.2.1⟩ ⟨hin2.2.2.1, hin2.2.2.2⟩
      have es := wadd (l := order.take (i + 1)) (by rw [List.length_take]; omega)
      have w1 : IntKind.wrap .i64 (((i + 1 : Nat) : Int) - 1) = (i : Int) := by rw [wrap64 (by omega) (by omega)]; omega
      have w2 : IntKind.wrap .i64 (((i + 1 : Nat) : Int) + 1) = ((i + 1 + 1 : Nat) : Int) := by rw [wrap64 (by omega) (by omega)]; omega
      have hle : ((i + 1 : Nat) : Int) ≤ ((order.length : Nat) : Int) := by omega
      have hv : List.getD ((List.range o.length).map fun i => wzg ds o.length ((i + 1 : Nat) : Int)) i 0 = wzg ds o.length ((i + 1 : Nat) : Int) := by
        rw [List.getD_eq_getElem?_getD, List.getElem?_map, List.getElem?_range hi]
        rfl
      have hvl : List.length ((List.range o.length).map fun i => wzg ds o.length ((i + 1 : Nat) : Int)) = o.length := by simp
      have g0 : inR 0 2 = true := rfl
      have g1 : inR 1 2 = true := rfl
      have gi : inR (i : Int) o.length = true := wafz hi
      have gd : (decide (0 ≤ ((i + 1 : Nat) : Int)) && true) = true := by
        rw [decide_eq_true (by omega)]; rfl
      unfold wmn wef
      rw [← hI.1]
      generalize hown : wmr ds order o.length i = own at eq1 hin1 m1 m2
      have ho1 : serve ds (wan (order.take (i + 1))) = own.1 := by rw [← hown]; rfl
      have ho2 : wzg ds o.length ((i + 1 : Nat) : Int) = own.2 := by rw [← hown]; rfl
      rw [ho1] at e1
      rw [ho2] at hv
      unfold wvn
      dsimp only
      rw [Tr.ev_t, decide_eq_true hle, cond_true, Tr.ev_g, gd, cond_true, Tr.ev_c]
      unfold wava
      rw [Option.bind_some, Tr.ev_c, Int.toNat_natCast, List.drop_zero, es, Option.bind_some, Tr.ev_c, e1, Option.bind_some, Tr.ev_g, w1, hvl, gi, cond_true, Tr.ev_g, Int.toNat_natCast, decide_eq_true hi, cond_true, hv, Tr.ev_c, eq1, Option.bind_some, Tr.ev_c]
      show Option.bind (F_zq s.2.1 s.2.2) _ = _
      rw [eq2, Option.bind_some, Tr.ev_t]
      cases (s.1 == 0) with
      | true => rw [cond_true, Tr.ev_l, w2, Bool.true_or, cond_true]
      | false =>
        rw [cond_false, Tr.ev_g, g0, cond_true, Tr.ev_g, g1, cond_true, Tr.ev_g, cond_true, Tr.ev_g, cond_true, Tr.ev_t, wrap64 (by omega) (by omega), wrap64 (by omega) (by omega), w2, Bool.false_or]
        cases decide ((quo s.2).1 * (quo own).2 < (quo own).1 * (quo s.2).2) <;> rfl)
    (fun s _ => by
      have hle : ¬ (((o.length + 1 : Nat) : Int) ≤ ((order.length : Nat) : Int)) := by omega
      unfold wvn
      dsimp only
      rw [Tr.ev_t, decide_eq_false hle, cond_false, Tr.ev_l])).1
  exact key
def waph (o : List Int) (ds : List (List Int)) (order : List Int) : Int × (Int × (Int × Bool)) :=
  bif wdj o ds && wep order o.length then ((wadf ds order o.length).1, ((wadf ds order o.length).2.1, ((wadf ds order o.length).2.2, true))) else (0, (0, (0, false)))
theorem wix {o : List Int} {ds : List (List Int)} {order : List Int} (ho : wdu o) (hd : Low2 ds) (hl : wdu order) : F_zp o ds order = some (waph o ds order) := by
  unfold F_zp T_zp waph
  cases hfb : wdj o ds with
  | false => simp (disch := omega) only [EV, wed ho hd, hfb]
  | true =>
    have hf := wcd.1 hfb
    have hll := hl
    unfold wdu at hll
    have hi := wze (l := order) (n := o.length) (by have := hf.len; omega) (by omega)
    cases hob : wep order o.length with
    | false =>
      rw [hob] at hi
      simp (disch := omega) only [EV, wed ho hd, hfb, hi]
    | true =>
      rw [hob] at hi
      simp (disch := omega) only [EV, wed ho hd, hfb, hi, wapg hf, wvz hf hob]
theorem wwa {o : List Int} {ds : List (List Int)} {order : List Int} (hf : Fld o ds) (h : wep order o.length = true) (z1 z2 : Int) :
    wakm (order, (o, (ds, (z1, z2)))) (0, ([], (1, (0, 0)))) = some (wadf ds order o.length) := by
  have h7 := hf.len
  have hol : order.length = o.length := (wck.1 h).1
  have key := (wbr (f := fun v => (wme (order, (o, (ds, (z1, z2)))) v).ev) (n := o.length) (mk := fun i s => (s.1, (wan (order.take i), (((i + 1 : Nat) : Int), (s.2.1, s.2.2))))) (I := NI) (g := wmn ds order o.length) (fin := fun s => (s.1, (s.2.1, s.2.2))) (s0 := (0, (0, 0))) ⟨rfl, by exact ⟨by decide, by decide, by decide, by decide⟩⟩
    (fun i s hi hI => by
      refine ⟨?_, wapf hf h hi hI⟩
      obtain ⟨p1, p2, _⟩ := wdk h h7 (k := i + 1) (by omega) (by omega)
      have e1 := wcz hf p1 (by omega)
      obtain ⟨n1, n2⟩ := wape h hi
      have ep := whj (l := wan (order.take i)) (x := order.getD i 0) (by rw [(wcj _).2.1, List.length_take]; omega) n1
      rw [n2] at ep
      have hk : (1 : Int) ≤ ((i + 1 : Nat) : Int) ∧ ((i + 1 : Nat) : Int) ≤ (o.length : Int) := by omega
      have eb := wapd hf hk
      obtain ⟨q1, _, q2, _⟩ := wbw hf.pos h7 (wfq (ds := ds) h7 hk)
      have e2 := wcz hf q1 q2
      have hw := wzh (wgk hf h hi) hI.2
      have w1 : IntKind.wrap .i64 (((i + 1 : Nat) : Int) - 1) = (i : Int) := by rw [wrap64 (by omega) (by omega)]; omega
      have w2 : IntKind.wrap .i64 (((i + 1 : Nat) : Int) + 1) = ((i + 1 + 1 : Nat) : Int) := by rw [wrap64 (by omega) (by omega)]; omega
      have hle : ((i + 1 : Nat) : Int) ≤ ((order.length : Nat) : Int) := by omega
      have gi : inR (i : Int) order.length = true := wafz (by omega)
      have hz : (((i + 1 : Nat) : Int) == 1) = decide (i = 0) := by
        rw [Bool.eq_iff_iff, beq_iff_eq, decide_eq_true_eq]
        omega
      unfold wmn
      generalize hown : wmr ds order o.length i = own at hw
      have ho1 : serve ds (wan (order.take (i + 1))) = own.1 := by rw [← hown]; rfl
      have ho2 : serve ds (wml ds o.length ((i + 1 : Nat) : Int)) = own.2 := by rw [← hown]; rfl
      rw [ho1] at e1
      rw [ho2] at e2
      unfold wme
      dsimp only
      rw [Tr.ev_t, decide_eq_true hle, cond_true, Tr.ev_g, w1, gi, cond_true, Tr.ev_c, Int.toNat_natCast, ep, Option.bind_some, Tr.ev_c, e1, Option.bind_some, Tr.ev_c, eb, Option.bind_some, Tr.ev_c, e2, Option.bind_some, Tr.ev_t, hz]
      by_cases h0 : i = 0
      · rw [decide_eq_true h0, cond_true, Tr.ev_l, w2, Bool.true_or, cond_true]
      · rw [decide_eq_false h0, cond_false, Tr.ev_c]
        show Option.bind (wakl own.1 own.2 s.2.1 s.2.2) _ = _
        rw [hw, Option.bind_some, Tr.ev_t, w2, Bool.false_or]
        cases wef own s.2 <;> rfl)
    (fun s _ => by
      have hle : ¬ (((o.length + 1 : Nat) : Int) ≤ ((order.length : Nat) : Int)) := by omega
      unfold wme
      dsimp only
      rw [Tr.ev_t, decide_eq_false hle, cond_false, Tr.ev_l])).1
  exact key
theorem wiy {o : List Int} {ds : List (List Int)} {order : List Int} (ho : wdu o) (hd : Low2 ds) (hl : wdu order) : waxt o ds order = some (waph o ds order) := by
  unfold waxt waxs waph
  have hll := hl
  unfold wdu at hll
  cases hfb : wdj o ds with
  | false => simp (disch := omega) only [EV, whf ho hd, hfb]
  | true =>
    have hf := wcd.1 hfb
    have hi := wzf (l := order) ho (by omega) ds
    cases hob : wep order o.length with
    | false =>
      rw [hob] at hi
      simp (disch := omega) only [EV, whf ho hd, hfb, hi]
    | true =>
      rw [hob] at hi
      simp (disch := omega) only [EV, whf ho hd, hfb, hi, wwa hf hob]
end Go.Proofs.YtbofjefpngpegaaGreat
