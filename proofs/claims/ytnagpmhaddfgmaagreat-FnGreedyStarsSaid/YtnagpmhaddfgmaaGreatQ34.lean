/-
 The law of greedy stars and of local openings.
-/
import Derived.Test.YtnagpmhaddfgmaaGreatP59
import Derived.Test.YtnagpmhaddfgmaaGreatP60
namespace Go.Proofs.YtnagpmhaddfgmaaGreat
theorem wash (n : Nat) (h : n ≤ 7) : 0 ≤ harm n ∧ harm n ≤ 2940 := by
 have key : ∀ n : Nat, n ≤ 7 → 0 ≤ harm n ∧ harm n ≤ 420 * (n : Int) := by
  intro n
  induction n with
  | zero => intro _; exact ⟨Int.le_refl _, Int.le_refl _⟩
  | succ n ih =>
   intro hn
   obtain ⟨a, b⟩ := ih (by omega)
   have h1 : 0 ≤ 420 / ((n + 1 : Nat) : Int) := Int.ediv_nonneg (by omega) (by omega)
   have h2 : 420 / ((n + 1 : Nat) : Int) ≤ 420 := Int.ediv_le_self _ (by omega)
   unfold harm
   omega
 obtain ⟨a, b⟩ := key n h
 omega
theorem wasi {m : Nat} (hm : m ≤ 7) (k : (Int) × ((Bool) × ((Int) × ((List (Int)) × (List (List (Int))))))) (hk : k.2.2.2.2.length = m) : wgj k (0, 1) = some (harm m) := by
 have h := (wap (f := fun v => (wpc k v).ev) (n := m) (mk := fun i (_ : Unit) => (harm i, ((i + 1 : Nat) : Int))) (I := fun _ _ => True) (g := fun s _ => s) (fin := fun _ => harm m) (s0 := ()) trivial
  (fun i s hi _ => by
   refine ⟨?_, trivial⟩
   have hle : ((i + 1 : Nat) : Int) ≤ ((k.2.2.2.2.length : Nat) : Int) := by omega
   have hn : ¬ ((i + 1 : Nat) : Int) = 0 := by omega
   have hw : IntKind.wrap .i64 (((i + 1 : Nat) : Int) + 1) = ((i + 1 + 1 : Nat) : Int) := by rw [wrap64 (by omega) (by omega)]; rfl
   have h1 : 0 ≤ 420 / ((i + 1 : Nat) : Int) := Int.ediv_nonneg (by omega) (by omega)
   have h2 : 420 / ((i + 1 : Nat) : Int) ≤ 420 := Int.ediv_le_self _ (by omega)
   have ht : Int.tdiv (420 : Int) ((i + 1 : Nat) : Int) = 420 / ((i + 1 : Nat) : Int) := Int.tdiv_eq_ediv_of_nonneg (by omega)
   have hw1 : IntKind.wrap .i64 (420 / ((i + 1 : Nat) : Int)) = 420 / ((i + 1 : Nat) : Int) := wrap64 (by omega) (by omega)
   have hi1 := wash i (by omega)
   have hw2 : IntKind.wrap .i64 (harm i + 420 / ((i + 1 : Nat) : Int)) = harm (i + 1) := by rw [wrap64 (by omega) (by omega)]; rfl
   unfold wpc
   dsimp only
   rw [Tr.ev_t, decide_eq_true hle, cond_true, Tr.ev_g, decide_eq_false hn, Bool.not_false, cond_true, Tr.ev_l, ht, hw1, hw2, hw])
  (fun s _ => by
   have hle : ¬ ((m + 1 : Nat) : Int) ≤ ((k.2.2.2.2.length : Nat) : Int) := by omega
   unfold wpc
   dsimp only
   rw [Tr.ev_t, decide_eq_false hle, cond_false, Tr.ev_l])).1
 exact h
theorem wpr {o : List Int} {ds : List (List Int)} {s : List Int} (hs : wdp s) (h : wcx o ds s = true) : Fld o ds ∧ ris o.length s ∧ s ≠ [] := by
 obtain ⟨hf, _, h0⟩ := wfa hs h
 unfold wcx at h
 simp only [Bool.and_eq_true] at h
 exact ⟨hf, wgl.1 h.2.1, List.length_pos_iff.1 h0⟩
theorem waba {o : List Int} {ds : List (List Int)} {s : List Int} (hf : Fld o ds) (hs : ris o.length s) (h0 : s ≠ []) : wcx o ds s = true := by
 unfold wcx
 rw [wcf.2 hf, wgl.2 hs, decide_eq_true (List.length_pos_iff.2 h0)]
 rfl
def locR (o : List Int) (ds : List (List Int)) (s : List Int) : Int × Bool × List Int := bif wcx o ds s then (((wgn o ds s).1 : Int), (true, (wgn o ds s).2)) else (0, (false, []))
theorem wafv {o : List Int} {ds : List (List Int)} {s : List Int} (hs : wdp s) : (locR o ds s).2.2.length ≤ 9 := by
 unfold locR
 cases hb : wcx o ds s with
 | false => simp
 | true =>
  obtain ⟨hf, hr, h0⟩ := wpr hs hb
  have := (wqx hf hr h0).1.len
  have := hf.len
  show (wgn o ds s).2.length ≤ 9
  omega
theorem low9 {s : List Int} (h : s.length ≤ 9) : wdp s := by unfold wdp; omega
theorem waik {o : List Int} {ds : List (List Int)} : (wbg o ds).2.length ≤ 9 := by
 unfold wbg
 cases hb : wdm o ds with
 | false => simp
 | true =>
  have hf := wcf.1 hb
  rw [cond_true]
  dsimp only
  split
  ·simp
  next hd =>
   obtain ⟨r1, r2, r3, r4⟩ := wfd ds.length
   have := (wqz hf ds.length (S := []) (L := waw ds.length) (by omega) (waay _) r1 r2).1.len
   have := hf.len
   omega
theorem wbpp {o : List Int} {ds : List (List Int)} (ho : wdp o) (hd : wul ds) : Dw (fun b => b = true)
  (Tr.t (!(wbg o ds).1) (.t (!(wbg o ds).1) (.l true) (.l (((List.length (wbg o ds).2 : Nat) : Int) == (1 : Int))))
   (.t (((List.length ds : Nat) : Int) == (0 : Int)) (.t (!(wbg o ds).1) (.l true) (.l (((List.length (wbg o ds).2 : Nat) : Int) == (1 : Int))))
    (.c ((Int) × (Bool)) (wsm o ds (wbg o ds).2) fun r35_ =>
     .c ((Int) × (Bool)) (F_ze o ds) fun r36_ =>
     .c (Int) (wgj (r35_.1, (r35_.2, (r36_.1, (o, ds)))) ((0 : Int), (1 : Int))) fun r37_ =>
     .t r35_.2
      (.l (decide ((IntKind.wrap .i64 ((420 : Int) * r35_.1)) ≤ (IntKind.wrap .i64 (r37_ * r36_.1)))))
      (.l false)))) := by
 cases hb : wdm o ds with
 | false =>
  have hg : wbg o ds = (false, []) := by unfold wbg; rw [hb]; rfl
  rw [hg]
  exact ⟨true, rfl, rfl⟩
 | true =>
  have hf := wcf.1 hb
  have hc := hf.clients
  have hg : wbg o ds = (true, if ds = [] then [(wcy o : Int)] else wib o ds ds.length [] (waw ds.length)) := by unfold wbg; rw [hb]; rfl
  by_cases hd0 : ds = []
  ·rw [hg, if_pos hd0, hd0]
   exact ⟨true, rfl, rfl⟩
  ·rw [hg, if_neg hd0]
   have hlp := List.length_pos_iff.2 hd0
   have hne : (((ds.length : Nat) : Int) == 0) = false := beq_eq_false_iff_ne.2 (by omega)
   obtain ⟨b1, b2⟩ := wmm hf.pos hf.len (wlf hf).1
   obtain ⟨g1, g2, g3⟩ := wxj hf hd0 b1 b2
   have hlow := g1.low hf.len
   have e1 := wfo ho hd hlow
   rw [waba hf g1 g2, cond_true] at e1
   have e2 := wjj ho hd hf
   have t1 := wgm hf g1 g2
   have t2 := wgm hf b1 b2
   have hh := wash ds.length hc
   have hm : 0 ≤ harm ds.length * wco o ds (whl o ds) ∧ harm ds.length * wco o ds (whl o ds) ≤ 2940 * 103809717 := ⟨Int.mul_nonneg hh.1 t2.1, Int.le_trans (Int.mul_le_mul_of_nonneg_left t2.2 hh.1) (Int.mul_le_mul_of_nonneg_right hh.2 (by omega))⟩
   have w1 : IntKind.wrap .i64 ((420 : Int) * wco o ds (wib o ds ds.length [] (waw ds.length))) = 420 * wco o ds (wib o ds ds.length [] (waw ds.length)) := wrap64 (by omega) (by omega)
   have w2 : IntKind.wrap .i64 (harm ds.length * wco o ds (whl o ds)) = harm ds.length * wco o ds (whl o ds) := wrap64 (by omega) (by omega)
   refine Dw.t (fun h => by cases h) fun _ => Dw.t (fun h => by rw [hne] at h; cases h) fun _ => Dw.c e1 (Dw.c e2 (Dw.c (wasi hc _ rfl) (Dw.t (fun _ => Dw.l ?_) fun h => by cases h)))
   dsimp only
   rw [w1, w2]
   exact decide_eq_true g3
theorem wbpq {o : List Int} {ds : List (List Int)} {s : List Int} (ho : wdp o) (hd : wul ds) (hs : wdp s) {X : Tr Bool} (hX : Dw (fun b => b = true) X) : Dw (fun b => b = true)
  (Tr.t (locR o ds s).2.1
   (.c ((Bool) × (Bool)) (F_zw o ds (locR o ds s).2.2) fun r18_ =>
    .c ((Int) × (Bool)) (wsm o ds s) fun r19_ =>
    .c ((Int) × (Bool)) (wsm o ds (locR o ds s).2.2) fun r20_ =>
    .t (!r18_.1) (.l false) (.t (decide ((IntKind.wrap .i64 (r19_.1 - (locR o ds s).1)) < r20_.1)) (.l false) X)) X) := by
 cases hb : wcx o ds s with
 | false =>
  have hr : locR o ds s = (0, (false, [])) := by unfold locR; rw [hb]; rfl
  rw [hr]
  exact Dw.t (fun h => by cases h) fun _ => hX
 | true =>
  have hr : locR o ds s = (((wgn o ds s).1 : Int), (true, (wgn o ds s).2)) := by unfold locR; rw [hb]; rfl
  obtain ⟨hf, hri, h0⟩ := wpr hs hb
  obtain ⟨l1, l2, l3, l4, l5⟩ := wqx hf hri h0
  have hlow := l1.low hf.len
  rw [hr]
  have e1 := wpq ho hd hlow
  have e2 := wfo ho hd hs
  have e3 := wfo ho hd hlow
  unfold locB at e1
  rw [waba hf l1 l2, cond_true, l3] at e1
  rw [hb, cond_true] at e2
  rw [waba hf l1 l2, cond_true] at e3
  have t1 := wgm hf hri h0
  have t2 := wgm hf l1 l2
  have w1 : IntKind.wrap .i64 (wco o ds s - ((wgn o ds s).1 : Int)) = wco o ds s - ((wgn o ds s).1 : Int) := wrap64 (by omega) (by omega)
  refine Dw.t (fun _ => Dw.c e1 (Dw.c e2 (Dw.c e3 (Dw.t (fun h => by cases h) fun _ => Dw.t (fun h => ?_) fun _ => hX)))) fun h => by cases h
  dsimp only at h
  rw [w1] at h
  have := of_decide_eq_true h
  omega
theorem wasj {l : List Int} (h : CK 0 l 0) : ∃ o d, waux l = some (o, d) ∧ DrF o d := by
 obtain ⟨o, d, i1, c1, e1, hd, _⟩ := wafu 0 h (by omega)
 have e2 : wauw l = some (o, d) := by
  unfold wauw wbev
  rw [Tr.ev_c, e1, Option.bind_some, Tr.ev_l]
 unfold waux wbex
 rw [Tr.ev_c, e2, Option.bind_some, Tr.ev_l]
 exact ⟨_, _, rfl, hd⟩
theorem wxs {l : List Int} (h : CK 0 l 0) : ∃ o d s i c, wawf l 0 0 = some (o, (d, (l, (i, c)))) ∧ DrF o d ∧ ∃ i' c', wawi o d l i c = some (s, (l, (i', c'))) ∧ s.length ≤ 9 ∧ CK 440 l i' := by
 obtain ⟨⟨o, d, l1, i1, c1⟩, e1, h1, h2, h3⟩ := waaz 0 h (by omega)
 simp only at h1 h2 h3
 subst h2
 obtain ⟨⟨s, l2, i2, c2⟩, e2, k1, k2, k3⟩ := waij h1 c1 h3 (by omega)
 simp only at k1 k2 k3
 subst k2
 exact ⟨o, d, s, i1, c1, e1, h1, i2, c2, e2, k1, k3.mono (by omega)⟩
theorem wask {l : List Int} (h : CK 0 l 0) : ∃ o d s, waxb l = some (o, (d, s)) ∧ DrF o d ∧ s.length ≤ 9 := by
 obtain ⟨o, d, s, i, c, e1, h1, i', c', e2, h2, _⟩ := wxs h
 unfold waxb wbko
 rw [Tr.ev_c, e1, Option.bind_some, Tr.ev_c]
 dsimp only
 rw [e2, Option.bind_some, Tr.ev_l]
 exact ⟨_, _, _, rfl, h1, h2⟩
theorem wasl {l : List Int} (h : CK 0 l 0) : ∃ o d s, wawv l = some (o, (d, s)) ∧ DrF o d ∧ s.length ≤ 9 := by
 obtain ⟨o, d, s, i, c, e1, h1, i', c', e2, h2, h3⟩ := wxs h
 have hs := low9 h2
 have e3 : wzm o d s = some (locR o d s) := wwy h1.o1 h1.d2 hs
 have hl := wafv (o := o) (ds := d) hs
 obtain ⟨b, i3, c3, e4, _⟩ := wbcf 2 c' h3 (by omega) (by omega)
 unfold wawv wbjs
 rw [Tr.ev_c, e1, Option.bind_some, Tr.ev_c]
 dsimp only
 rw [e2, Option.bind_some, Tr.ev_c]
 dsimp only
 rw [e3, Option.bind_some, Tr.ev_t]
 cases (locR o d s).2.1 with
 | false =>
  rw [cond_false, Tr.ev_l]
  exact ⟨_, _, _, rfl, h1, h2⟩
 | true =>
  rw [cond_true, Tr.ev_c, e4, Option.bind_some, Tr.ev_t]
  cases b with
  | true =>
   rw [cond_true, Tr.ev_l]
   exact ⟨_, _, _, rfl, h1, hl⟩
  | false =>
   rw [cond_false, Tr.ev_l]
   exact ⟨_, _, _, rfl, h1, h2⟩
theorem wll (code : List Int) (hfit : Fit (.slice (.int .u8)) code) : wbrl code = some true := by
 have key : Dw (fun b => b = true) (wayi code) := by
  unfold wayi
  by_cases hb : (65536 : Int) < ((code.length : Nat) : Int)
  ·exact Dw.c (r := true) (by unfold waum waul; rw [Tr.ev_l, decide_eq_true hb]) (Dw.t (fun _ => Dw.l rfl) fun h => by cases h)
  ·refine Dw.c (r := false) (by unfold waum waul; rw [Tr.ev_l, decide_eq_false hb]) (Dw.t (fun h => by cases h) fun _ => ?_)
   have hby : ∀ x ∈ code, 0 ≤ x ∧ x ≤ 255 := fun x hx => fitB (hfit.2 x hx)
   have hck : CK 0 code 0 := ⟨hby, by omega, by omega, by omega⟩
   obtain ⟨o, ds, e1, hD⟩ := wasj hck
   obtain ⟨m1, v1, hm1⟩ := wasg hby (by omega) 1 (by omega) (by omega)
   obtain ⟨o2, ds2, s2, e2, hD2, hs2⟩ := wasl hm1
   obtain ⟨m2, v2, hm2⟩ := wasg hby (by omega) 2 (by omega) (by omega)
   obtain ⟨o3, ds3, s3, e3, hD3, hs3⟩ := wask hm2
   have ho := hD.o1
   have hd := hD.d2
   have ho2 := hD2.o1
   have hd2 := hD2.d2
   have ho3 := hD3.o1
   have hd3 := hD3.d2
   have ll2 := low9 hs2
   have ll3 := low9 hs3
   have l1 : F_zy o3 ds3 s3 = some (locR o3 ds3 s3) := waru ho3 hd3 ll3
   have l2 : wzm o3 ds3 s3 = some (locR o3 ds3 s3) := wwy ho3 hd3 ll3
   have tail := wbpp ho hd
   have part := wbpq ho3 hd3 ll3 tail
   have gl := waik (o := o) (ds := ds)
   have rl := wafv (o := o3) (ds := ds3) ll3
   refine Dw.c e1 (Dw.c (waid ho hd) (Dw.c (waie ho hd) (Dw.c v1 (Dw.c e2 (Dw.c (wpq ho2 hd2 ll2) (Dw.c (waav ho2 hd2 ll2) (Dw.c v2 (Dw.c e3 (Dw.c l1 (Dw.c l2 ?_))))))))))
   refine Dw.t (fun h => absurd h (by simp)) fun _ => Dw.c (wrc (a := (wbg o ds).2) (by omega)) (Dw.t (fun h => by cases h) fun _ => Dw.t (fun h => absurd h (by simp)) fun _ => Dw.t (fun h => absurd h (by simp)) fun _ => Dw.t (fun h => absurd h (by simp)) fun _ => Dw.t (fun h => absurd h (by simp)) fun _ => Dw.c (wrc (a := (locR o3 ds3 s3).2.2) (by omega)) (Dw.t (fun h => by cases h) fun _ => Dw.t (fun hloc => ?_) fun _ => part))
   -- a local opening
   have hop : wcx o2 ds2 s2 = true := by
    cases hb2 : wcx o2 ds2 s2 with
    | true => rfl
    | false =>
     unfold locB at hloc
     rw [hb2] at hloc
     cases hloc
   obtain ⟨hf, hr, h0⟩ := wpr ll2 hop
   have hbt : wah o2 ds2 s2 = none := by
    unfold locB at hloc
    rw [hop, cond_true] at hloc
    cases hb3 : wah o2 ds2 s2 with
    | none => rfl
    | some t => rw [hb3] at hloc; cases hloc
   have t1 := wfo ho2 hd2 ll2
   rw [hop, cond_true] at t1
   have t2 := wbpj ho2 hd2
   rw [wcf.2 hf, cond_true] at t2
   obtain ⟨b1, b2⟩ := wmm hf.pos hf.len (wlf hf).1
   have q2 := wgm hf b1 b2
   refine Dw.c t2 (Dw.c t1 (Dw.c (wjj ho2 hd2 hf) (Dw.t (fun hmet => Dw.t (fun h => ?_) fun _ => part) fun _ => part)))
   have h3 := wbwp hf (waaw hmet) hr h0 hbt b1 b2
   dsimp only at h
   rw [wrap64 (by omega) (by omega)] at h
   have := of_decide_eq_true h
   omega
 obtain ⟨r, e, rfl⟩ := key
 exact e
end Go.Proofs.YtnagpmhaddfgmaaGreat
