/-
 The law of atlases: edits lead from valid ones to valid ones, and both sides make them alike; improving and the best set never cost more; what was added last can be dropped.
-/
import Derived.Test.YtnagpmhaddfgmaaGreatP70
namespace Go.Proofs.YtnagpmhaddfgmaaGreat
theorem drawNew_ok {l : List Int} (h : CK 0 l 0) : ∃ o d, wmy l = some (o, d) ∧ DrF o d := by
 obtain ⟨o, d, i1, c1, e1, hd, _⟩ := field_ok 0 h (by omega)
 unfold wmy wsf
 simp (disch := omega) only [EV, e1]
 exact ⟨_, _, rfl, hd⟩
theorem drawEdit_ok {l : List Int} (h : CK 0 l 0) : ∃ o ds n k a b c s e, wop l = some (o, (ds, (n, (k, (a, (b, (c, (s, e)))))))) ∧ DrA' o ds s ∧ e.length ≤ 9 := by
 obtain ⟨⟨o, ds, n, s, l1, i, c⟩, e, h1, h2, h3⟩ := atlas_ok 0 h (by omega)
 simp only at h1 h2 h3
 subst h2
 obtain ⟨⟨k, a, b, d, L, l', i', c'⟩, e2, k1, _⟩ := edit12_ok o ds c h3 (by omega)
 have e' : wkt l1 0 0 = some (o, ds, n, s, l1, i, c) := e
 have e2' : wei o ds l1 i c = some (k, a, b, d, L, l', i', c') := e2
 unfold wop wxu
 rw [Tr.ev_c, e', Option.bind_some, Tr.ev_c]
 simp only
 rw [e2', Option.bind_some, Tr.ev_l]
 exact ⟨_, _, _, _, _, _, _, _, _, rfl, h1, k1⟩
theorem edits_ok (k : (Int) × ((List (Int)) × ((List (List (Int))) × ((Int) × (List (Int)))))) {l : List Int} : ∀ (m : Nat) {B i c : Int} (acc : List Ed), CK B l i → B + 50 * m ≤ 600000 → acc.length + m ≤ 1000 → (∀ e ∈ acc, e.2.2.2.2.length ≤ 9) →
  ∃ L : List Ed, wdg k ((m : Int), (l, (i, (c, acc)))) = some L ∧ L.length ≤ 1000 ∧ ∀ e ∈ L, e.2.2.2.2.length ≤ 9 := by
 intro m
 induction m with
 | zero =>
  intro B i c acc hc hB hl ha
  unfold wdg
  rw [iter_eq]
  have e : (wbe k (((0 : Nat) : Int), (l, (i, (c, acc))))).ev = some (.inr acc) := by
   simp (disch := omega) only [EV, wbe, show ¬ (0 : Int) < ((0 : Nat) : Int) by omega]
  rw [e]
  exact ⟨acc, rfl, by omega, ha⟩
 | succ m ih =>
  intro B i c acc hc hB hl ha
  obtain ⟨⟨kk, a, b, d, L, l1, i', c'⟩, e2, k1, k2, k3⟩ := edit12_ok k.2.1 k.2.2.1 c hc (by omega)
  simp only at k1 k2 k3
  subst k2
  have e2' : wei k.2.1 k.2.2.1 l1 i c = some (kk, a, b, d, L, l1, i', c') := e2
  obtain ⟨R, e3, r1, r2⟩ := ih (acc ++ [((kk, (a, (b, (d, L)))) : Ed)]) (i := i') (c := c') (B := B + 40) k3 (by omega) (by simp; omega) (fun e he => by
   rcases List.mem_append.1 he with he | he
   ·exact ha e he
   ·rw [List.mem_singleton.1 he]; exact k1)
  refine ⟨R, ?_, r1, r2⟩
  have hb : (acc.length + List.length [((kk, (a, (b, (d, L)))) : Ed)]) * 56 ≤ 140737488355328 := by simp only [List.length_singleton]; omega
  have hw : IntKind.wrap .i64 (((m + 1 : Nat) : Int) - 1) = ((m : Nat) : Int) := by rw [wrap64 (by omega) (by omega)]; omega
  have hp : (0 : Int) < ((m + 1 : Nat) : Int) := by omega
  unfold wdg at e3 ⊢
  rw [iter_eq]
  have e : (wbe k (((m + 1 : Nat) : Int), (l1, (i, (c, acc))))).ev = some (.inl (((m : Nat) : Int), (l1, (i', (c', acc ++ [((kk, (a, (b, (d, L)))) : Ed)]))))) := by
   unfold wbe
   rw [Tr.ev_t, decide_eq_true hp, cond_true, Tr.ev_c]
   simp only
   rw [e2', Option.bind_some, Tr.ev_g]
   simp only
   rw [decide_eq_true hb, cond_true, Tr.ev_l, hw]
  rw [e]
  exact e3
theorem drawAll_ok {l : List Int} (h : CK 0 l 0) : ∃ o ds n s L, wph l = some (o, (ds, (n, (s, L)))) ∧ DrA' o ds s ∧ L.length ≤ 1000 ∧ ∀ e ∈ L, e.2.2.2.2.length ≤ 9 := by
 obtain ⟨⟨o, ds, n, s, l', i, c⟩, e, h1, h2, h3⟩ := atlas_ok 0 h (by omega)
 simp only at h1 h2 h3
 subst h2
 have e' : wkt l' 0 0 = some (o, ds, n, s, l', i, c) := e
 obtain ⟨x, i2, c2, e2, x0, x1, h4⟩ := pick_ok 6 c h3 (by omega) (by omega)
 obtain ⟨m, rfl⟩ : ∃ m : Nat, x = (m : Int) := ⟨x.toNat, by omega⟩
 obtain ⟨L, e3, h5, h6⟩ := edits_ok ((0 : Int), (o, (ds, (n, s)))) m (c := c2) [] h4 (by omega) (by simp; omega) (fun e he => by cases he)
 unfold wph waak
 rw [Tr.ev_c, e', Option.bind_some, Tr.ev_c]
 simp only
 rw [e2, Option.bind_some, Tr.ev_c]
 simp only
 rw [e3, Option.bind_some, Tr.ev_l]
 exact ⟨_, _, _, _, _, rfl, h1, h5, h6⟩
theorem vCut_ok {l : List Int} (h : CK 0 l 0) (hl : l.length ≤ 65536) {n : Int} (hn : 0 ≤ n ∧ n ≤ 2) : ∃ r, wjs l n = some r ∧ CK 0 r 0 := by
 have key : ∀ (r : List Int) (x : Int), (∀ y ∈ r, y ∈ l) → r.length ≤ l.length → CK 0 (([] ++ r) ++ [IntKind.wrap .u8 x]) 0 := fun r x hr hlen => by
  refine ⟨fun y hy => ?_, by simp; omega, by omega, by omega⟩
  rw [List.nil_append] at hy
  rcases List.mem_append.1 hy with hy | hy
  ·exact h.1 y (hr y hy)
  ·rw [List.mem_singleton.1 hy]
   exact wrap_u8 x
 have hone : ∀ x : Int, List.length [x] = 1 := fun _ => rfl
 unfold wjs wuf
 by_cases hc : ((l.length : Nat) : Int) < n
 ·have hd : (List.drop (Int.toNat ((l.length : Nat) : Int)) (List.take l.length l)).length ≤ l.length := by simp
  have b1 : (List.length ([] : List Int) + (List.drop (Int.toNat ((l.length : Nat) : Int)) (List.take l.length l)).length) * 1 ≤ 140737488355328 := by
   rw [List.length_nil]; omega
  have b2 : (List.length (([] : List Int) ++ (List.drop (Int.toNat ((l.length : Nat) : Int)) (List.take l.length l))) + List.length [(IntKind.wrap .u8 ((l.length : Nat) : Int))]) * 1 ≤ 140737488355328 := by
   rw [List.nil_append, hone]; omega
  rw [Tr.ev_t, decide_eq_true hc, cond_true, Tr.ev_g, decide_eq_true (show (0 : Int) ≤ ((l.length : Nat) : Int) by omega), decide_eq_true (Int.le_refl _), Bool.and_true, cond_true, Tr.ev_g, decide_eq_true b1, cond_true, Tr.ev_g, decide_eq_true b2, cond_true, Tr.ev_l]
  exact ⟨_, rfl, key _ _ (fun y hy => List.mem_of_mem_take (List.mem_of_mem_drop hy)) hd⟩
 ·have hd : (List.drop (Int.toNat n) (List.take l.length l)).length ≤ l.length := by simp
  have b1 : (List.length ([] : List Int) + (List.drop (Int.toNat n) (List.take l.length l)).length) * 1 ≤ 140737488355328 := by
   rw [List.length_nil]; omega
  have b2 : (List.length (([] : List Int) ++ (List.drop (Int.toNat n) (List.take l.length l))) + List.length [(IntKind.wrap .u8 n)]) * 1 ≤ 140737488355328 := by
   rw [List.nil_append, hone]; omega
  rw [Tr.ev_t, decide_eq_false hc, cond_false, Tr.ev_g, decide_eq_true hn.1, decide_eq_true (show n ≤ ((l.length : Nat) : Int) by omega), Bool.and_true, cond_true, Tr.ev_g, decide_eq_true b1, cond_true, Tr.ev_g, decide_eq_true b2, cond_true, Tr.ev_l]
  exact ⟨_, rfl, key _ _ (fun y hy => List.mem_of_mem_take (List.mem_of_mem_drop hy)) hd⟩
def Told (o : List Int) (ds : List (List Int)) (s : List Int) (n k a : Int) (y : At) : Prop :=
 (k = 10 ∨ k = 11 → ∃ t, wif y.2.1 y.2.2.1 y.2.2.2 y.1 = some (t, true) ∧ ((totalOf o ds s n).2 = true → t ≤ (totalOf o ds s n).1)) ∧
 (k = 6 → ∃ r, wcn y.2.1 y.2.2.1 y.2.2.2 y.1 8 ((o.length : Nat) : Int) 0 0 [] = some r ∧ (y.1 ≠ 1000 → r.2 = (true, (o, (ds, s))))) ∧
 (k = 7 → ∃ r, wcn y.2.1 y.2.2.1 y.2.2.2 y.1 9 ((ds.length : Nat) : Int) 0 0 [] = some r ∧ (y.1 ≠ 1000 → r.2 = (true, (o, (ds, s))))) ∧
 (k = 1 → ∃ r, wcn y.2.1 y.2.2.1 y.2.2.2 y.1 2 a 0 0 [] = some r ∧ (y.1 ≠ 1000 → r.2 = (true, (o, (ds, s)))))
theorem total_some {o s : List Int} {ds : List (List Int)} {n : Int} (h : Atl o ds s n) (h0 : s ≠ []) : totalOf o ds s n = (totF o ds s, true) := by
 unfold totalOf
 rw [atl_iff.2 h, decide_eq_true (List.length_pos_iff.2 h0)]
 rfl
theorem told {o s : List Int} {ds : List (List Int)} {n k a b c : Int} {l : List Int} {y : At} (h : Atl o ds s n) (hl : Low1 l) (hd : doOf o ds s n k a b c l = some y) : Told o ds s n k a y := by
 obtain ⟨hp, hm, rfl⟩ := doOf_parts hd
 have hA := doOf_atl hd
 obtain ⟨lo, ld⟩ := fld_low hA.fld
 have ls := hA.set.low hA.fld.len
 obtain ⟨h1, h7⟩ : 1 ≤ o.length ∧ o.length ≤ 7 := by
  have := h.fld.len
  have := h.fld.pos
  omega
 have hm7 := h.fld.clients
 have hlow0 : Low1 [] := elow0
 have back : ∀ (k2 a2 : Int), plainB k2 a2 0 0 [] = true → (n + 1 < 1000 → mayB (editOf o ds s k a b c l).1.length (editOf o ds s k a b c l).2.1.length (editOf o ds s k a b c l).2.2 k2 a2 0 [] = true) → (n + 1 < 1000 → editOf (editOf o ds s k a b c l).1 (editOf o ds s k a b c l).2.1 (editOf o ds s k a b c l).2.2 k2 a2 0 0 [] = (o, (ds, s))) →
   ∃ r, wcn (editOf o ds s k a b c l).1 (editOf o ds s k a b c l).2.1 (editOf o ds s k a b c l).2.2 (n + 1) k2 a2 0 0 [] = some r ∧ (n + 1 ≠ 1000 → r.2 = (true, (o, (ds, s)))) := fun k2 a2 q1 q2 q3 => by
  refine ⟨_, iedit_eq hA k2 a2 0 0 hlow0, fun hne => ?_⟩
  have hc := hA.count
  have hlt : n + 1 < 1000 := by simp only at hc; omega
  have := doOf_back (n' := n + 1) h rfl hlt q1 (q2 hlt) (q3 hlt)
  show (doT (doOf (editOf o ds s k a b c l).1 (editOf o ds s k a b c l).2.1 (editOf o ds s k a b c l).2.2 (n + 1) k2 a2 0 0 [])).2 = _
  rw [this]
  rfl
 refine ⟨fun hk => ?_, fun hk => ?_, fun hk => ?_, fun hk => ?_⟩
 ·rcases hk with rfl | rfl
  ·have h0 : s ≠ [] := by
    have : decide ((0 : Int) < ((s.length : Nat) : Int)) = true := hm
    have := of_decide_eq_true this
    exact fun e => by rw [e] at this; simp at this
   have e : editOf o ds s 10 a b c l = (o, (ds, (locOf o ds s).2)) := rfl
   rw [e] at hA ld ls lo ⊢
   obtain ⟨q1, q2, _, q4, _⟩ := locOf_spec h.fld h.set h0
   refine ⟨totF o ds (locOf o ds s).2, ?_, fun _ => ?_⟩
   ·rw [im_AtlasTotal_eq lo ld ls, total_some hA q2]
   ·rw [total_some h h0]
    simp only
    omega
  ·have e : editOf o ds s 11 a b c l = (o, (ds, bestOf o ds)) := rfl
   rw [e] at hA ld ls lo ⊢
   obtain ⟨q1, q2⟩ := bestOf_mem h.fld
   have q3 := (sets_ris h1 h7 q1).2
   refine ⟨totF o ds (bestOf o ds), ?_, fun ht => ?_⟩
   ·rw [im_AtlasTotal_eq lo ld ls, total_some hA q3]
   ·have h0 : s ≠ [] := fun e => by
     subst e
     unfold totalOf at ht
     simp at ht
    rw [total_some h h0]
    exact q2 s (ris_sets h1 h7 h.set h0)
 ·subst hk
  have hlen : l.length = ds.length := by
   have : (((l.length : Nat) : Int) == ((ds.length : Nat) : Int)) = true := hm
   have := beq_iff_eq.1 this
   omega
  refine back 8 ((o.length : Nat) : Int) rfl (fun _ => ?_) fun _ => ?_
  ·have e : editOf o ds s 6 a b c l = (o ++ [a], (List.zipWith (fun r x => r ++ [x]) ds l, s)) := rfl
   rw [e]
   show closedB (o ++ [a]).length s ((o.length : Nat) : Int) = true
   unfold closedB siteB isIn
   have hns : s.contains ((o.length : Nat) : Int) = false := by
    cases hc : s.contains ((o.length : Nat) : Int) with
    | false => rfl
    | true =>
     have := (h.set.1 _ (List.contains_iff_mem.1 hc)).2
     omega
   rw [hns, List.length_append]
   simp
  ·have e : editOf o ds s 6 a b c l = (o ++ [a], (List.zipWith (fun r x => r ++ [x]) ds l, s)) := rfl
   rw [e]
   show (cutAt ((o.length : Nat) : Int) (o ++ [a]), ((List.zipWith (fun r x => r ++ [x]) ds l).map (cutAt ((o.length : Nat) : Int)), s.map (decAbove ((o.length : Nat) : Int)))) = _
   rw [cut_last, cut_zip ds l o.length hlen (fld_row h.fld), dec_ris h.set]
 ·subst hk
  refine back 9 ((ds.length : Nat) : Int) rfl (fun _ => ?_) fun _ => ?_
  ·have e : editOf o ds s 7 a b c l = (o, (ds ++ [l], s)) := rfl
   rw [e]
   show siteB (ds ++ [l]).length ((ds.length : Nat) : Int) = true
   unfold siteB isIn
   rw [List.length_append]
   simp
  ·have e : editOf o ds s 7 a b c l = (o, (ds ++ [l], s)) := rfl
   rw [e]
   show (o, (cutAt ((ds.length : Nat) : Int) (ds ++ [l]), s)) = _
   rw [cut_last]
 ·subst hk
  have hns : a ∉ s := by
   have : closedB o.length s a = true := hm
   unfold closedB at this
   rw [Bool.and_eq_true] at this
   intro hc
   have h2 := this.2
   rw [List.contains_iff_mem.2 hc] at h2
   cases h2
  refine back 2 a rfl (fun _ => ?_) fun _ => ?_
  ·have e : editOf o ds s 1 a b c l = (o, (ds, ins a s)) := rfl
   rw [e]
   show (ins a s).contains a = true
   exact List.contains_iff_mem.2 (eins_mem.2 (.inl rfl))
  ·have e : editOf o ds s 1 a b c l = (o, (ds, ins a s)) := rfl
   rw [e]
   show (o, (ds, wo (ins a s) a)) = _
   rw [wo_ins hns]
set_option maxHeartbeats 8000000 in
theorem law_FnAtlases (code : List Int) (hfit : Fit (.slice (.int .u8)) code) : wabk code = some true := by
 unfold wabk wabj wrb wra
 by_cases hbig : (65536 : Int) < ((code.length : Nat) : Int)
 ·simp (disch := omega) only [EV, hbig]
 ·have hck : CK 0 code 0 := ⟨fun x hx => fitB (hfit.2 x hx), by omega, by omega, by omega⟩
  obtain ⟨o1, ds1, e1, hD⟩ := drawNew_ok hck
  obtain ⟨code1, e2, hck1⟩ := vCut_ok hck (by omega) (n := 1) (by omega)
  obtain ⟨o, ds, n, k, a, b, c, s, l, e3, hA, hl⟩ := drawEdit_ok hck1
  obtain ⟨code2, e4, hck2⟩ := vCut_ok hck (by omega) (n := 2) (by omega)
  obtain ⟨o3, ds3, n3, s3, L, e5, hA3, hL1, hL2⟩ := drawAll_ok hck2
  obtain ⟨lo, ld, ls⟩ := hA.low
  obtain ⟨lo3, ld3, ls3⟩ := hA3.low
  have ll : Low1 l := by unfold Low1; omega
  have lL : ∀ e ∈ L, Low1 e.2.2.2.2 := fun e he => by have := hL2 e he; unfold Low1; omega
  have f1 := im_NewAtlas_eq hD.o1 hD.d2
  have f2 := sp_NewAtlas_eq hD.o1 hD.d2 ⟨by have := hD.lo; omega, by have := hD.lm; omega, fun r hr => by have := hD.row r hr; omega⟩
  have f3 := im_EditAtlas_eq lo ld ls n k a b c ll
  have f4 := sp_EditAtlas_eq lo ld ls n k a b c ll
  have f5 := im_EditAll_eq lo3 ld3 ls3 n3 L lL (by omega)
  have f6 := sp_EditAll_eq lo3 ld3 ls3 ⟨by have := hA3.fld.lo; omega, by have := hA3.fld.lm; omega, fun r hr => by have := hA3.fld.row r hr; omega, by have := hA3.set; omega⟩ n3 L lL (by omega)
  obtain ⟨g1, g2, g3, g4⟩ := allOf_low o3 s3 ds3 n3 L
  have f7 := im_IsAtlas_eq lo ld ls n
  have f8 := sp_IsAtlas_eq lo ld ls n
  have f9 := im_IsAtlas_eq g1 g2 g3 (allOf o3 ds3 s3 n3 L).1.1
  have v3 := vAtlas_self g1 g2 g3 (allOf o3 ds3 s3 n3 L).1.1
  generalize allOf o3 ds3 s3 n3 L = R at *
  have v1 : web (newOf o1 ds1).2.2.1 (newOf o1 ds1).2.2.2.1 (newOf o1 ds1).2.2.2.2 (newOf o1 ds1).1 (newOf o1 ds1).2.2.1 (newOf o1 ds1).2.2.2.1 (newOf o1 ds1).2.2.2.2 (newOf o1 ds1).1 = some true := by
   unfold newOf
   cases fieldB o1 ds1 with
   | true => exact vAtlas_self hD.o1 hD.d2 elow0 _
   | false => exact vAtlas_self elow0 elow00 elow0 _
  generalize newOf o1 ds1 = N at *
  have v2 : web (edOf o ds s n k a b c l).2.2.1 (edOf o ds s n k a b c l).2.2.2.1 (edOf o ds s n k a b c l).2.2.2.2 (edOf o ds s n k a b c l).1 (edOf o ds s n k a b c l).2.2.1 (edOf o ds s n k a b c l).2.2.2.1 (edOf o ds s n k a b c l).2.2.2.2 (edOf o ds s n k a b c l).1 = some true := by
   obtain ⟨c', b', o', ds', s', e, q1, q2, q3⟩ := edOf_low o s ds n k a b c l
   rw [e]
   exact vAtlas_self q1 q2 q3 _
  have hR : R.2.2 = true ∨ R.2.2 = false := by cases R.2.2 <;> simp
  have hR9 : R.2.2 = true → wab R.1.2.1 R.1.2.2.1 R.1.2.2.2 R.1.1 = some true := fun h => by rw [f9, g4 h]
  -- was the edit possible?
  have hy : (edOf o ds s n k a b c l).2.1 = false ∨ ∃ y : At, atlasB o ds s n = true ∧ doOf o ds s n k a b c l = some y ∧ edOf o ds s n k a b c l = (y.1, (true, y.2)) := by
   unfold edOf
   cases hb : atlasB o ds s n with
   | false => exact .inl rfl
   | true =>
    rw [cond_true]
    cases hd : doOf o ds s n k a b c l with
    | none => exact .inl rfl
    | some y => exact .inr ⟨y, rfl, rfl, rfl⟩
  rcases hy with hy | ⟨y, hb, hd, hed⟩
  ·generalize edOf o ds s n k a b c l = E at *
   rcases hR with hr | hr
   ·simp (disch := omega) only [EV, hbig, e1, e2, e3, e4, e5, f1, f2, f3, f4, f5, f6, f7, f8, v1, v2, v3, hR9 hr, hr, hy, beq_self_eq_true, bne_self_eq_false]
   ·simp (disch := omega) only [EV, hbig, e1, e2, e3, e4, e5, f1, f2, f3, f4, f5, f6, f7, f8, v1, v2, v3, hr, hy, beq_self_eq_true, bne_self_eq_false]
  ·rw [hed] at f3 f4 v2
   simp only at v2
   have hx := atl_iff.1 hb
   have hAy := doOf_atl hd
   obtain ⟨ty, td⟩ := fld_low hAy.fld
   have ts := hAy.set.low hAy.fld.len
   have f10 := im_IsAtlas_eq ty td ts y.1
   rw [atl_iff.2 hAy] at f10
   have hyn : y.1 = n + 1 := by rw [(doOf_parts hd).2.2]
   have hnc := hx.count
   have hw : IntKind.wrap .i64 (n + 1) = n + 1 := wrap64 (by omega) (by omega)
   obtain ⟨t1, t6, t7, t8⟩ := told hx ll hd
   have f11 := im_AtlasTotal_eq lo ld ls n
   rw [hb] at f7 f8
   obtain ⟨yn, yo, yd, ys⟩ := y
   simp only at *
   subst hyn
   clear hed hAy hd hx hA hA3 hD hck hck1 hck2 hfit g4 f9
   have fin : ∀ (X : Tr Bool), X.ev = some true → True := fun _ _ => trivial
   clear fin
   by_cases k10 : k = 10
   ·obtain ⟨t, w1, w2⟩ := t1 (.inl k10)
    have j1 : (k == 10) = true := by simp [k10]
    cases ht : (totalOf o ds s n).2 with
    | true =>
     have w3 := w2 ht
     rcases hR with hr | hr
     ·simp (disch := omega) only [EV, hbig, e1, e2, e3, e4, e5, f1, f2, f3, f4, f5, f6, f7, f8, v1, v2, v3, hR9 hr, hr, beq_self_eq_true, bne_self_eq_false, f10, f11, hw, j1, w1, ht, w3]
     ·simp (disch := omega) only [EV, hbig, e1, e2, e3, e4, e5, f1, f2, f3, f4, f5, f6, f7, f8, v1, v2, v3, hr, beq_self_eq_true, bne_self_eq_false, f10, f11, hw, j1, w1, ht, w3]
    | false =>
     rcases hR with hr | hr
     ·simp (disch := omega) only [EV, hbig, e1, e2, e3, e4, e5, f1, f2, f3, f4, f5, f6, f7, f8, v1, v2, v3, hR9 hr, hr, beq_self_eq_true, bne_self_eq_false, f10, f11, hw, j1, w1, ht]
     ·simp (disch := omega) only [EV, hbig, e1, e2, e3, e4, e5, f1, f2, f3, f4, f5, f6, f7, f8, v1, v2, v3, hr, beq_self_eq_true, bne_self_eq_false, f10, f11, hw, j1, w1, ht]
   ·have j1 : (k == 10) = false := beq_eq_false_iff_ne.2 k10
    by_cases k11 : k = 11
    ·obtain ⟨t, w1, w2⟩ := t1 (.inr k11)
     have j2 : (k == 11) = true := by simp [k11]
     cases ht : (totalOf o ds s n).2 with
     | true =>
      have w3 := w2 ht
      rcases hR with hr | hr
      ·simp (disch := omega) only [EV, hbig, e1, e2, e3, e4, e5, f1, f2, f3, f4, f5, f6, f7, f8, v1, v2, v3, hR9 hr, hr, beq_self_eq_true, bne_self_eq_false, f10, f11, hw, j1, j2, w1, ht, w3]
      ·simp (disch := omega) only [EV, hbig, e1, e2, e3, e4, e5, f1, f2, f3, f4, f5, f6, f7, f8, v1, v2, v3, hr, beq_self_eq_true, bne_self_eq_false, f10, f11, hw, j1, j2, w1, ht, w3]
     | false =>
      rcases hR with hr | hr
      ·simp (disch := omega) only [EV, hbig, e1, e2, e3, e4, e5, f1, f2, f3, f4, f5, f6, f7, f8, v1, v2, v3, hR9 hr, hr, beq_self_eq_true, bne_self_eq_false, f10, f11, hw, j1, j2, w1, ht]
      ·simp (disch := omega) only [EV, hbig, e1, e2, e3, e4, e5, f1, f2, f3, f4, f5, f6, f7, f8, v1, v2, v3, hr, beq_self_eq_true, bne_self_eq_false, f10, f11, hw, j1, j2, w1, ht]
    ·have j2 : (k == 11) = false := beq_eq_false_iff_ne.2 k11
     have ev2 : (n + 1 == 1000) = true ∨ ((n + 1 == 1000) = false ∧ n + 1 ≠ 1000) := by
      by_cases h : n + 1 = 1000
      ·exact .inl (by simp [h])
      ·exact .inr ⟨beq_eq_false_iff_ne.2 h, h⟩
     have u1 := vField_self lo ld
     have u2 := vInts_eq (b := s) ls
     rw [beq_self_eq_true] at u2
     by_cases k6 : k = 6
     ·obtain ⟨r, w1, w2⟩ := t6 k6
      have j3 : (k == 6) = true := by simp [k6]
      rcases ev2 with h | ⟨h, hne⟩
      ·rcases hR with hr | hr
       ·simp (disch := omega) only [EV, hbig, e1, e2, e3, e4, e5, f1, f2, f3, f4, f5, f6, f7, f8, v1, v2, v3, hR9 hr, hr, beq_self_eq_true, bne_self_eq_false, f10, hw, j1, j2, j3, w1, h]
       ·simp (disch := omega) only [EV, hbig, e1, e2, e3, e4, e5, f1, f2, f3, f4, f5, f6, f7, f8, v1, v2, v3, hr, beq_self_eq_true, bne_self_eq_false, f10, hw, j1, j2, j3, w1, h]
      ·have w3 := w2 hne
       rcases hR with hr | hr
       ·simp (disch := omega) only [EV, hbig, e1, e2, e3, e4, e5, f1, f2, f3, f4, f5, f6, f7, f8, v1, v2, v3, hR9 hr, hr, beq_self_eq_true, bne_self_eq_false, f10, hw, j1, j2, j3, w1, h, w3, u1, u2]
       ·simp (disch := omega) only [EV, hbig, e1, e2, e3, e4, e5, f1, f2, f3, f4, f5, f6, f7, f8, v1, v2, v3, hr, beq_self_eq_true, bne_self_eq_false, f10, hw, j1, j2, j3, w1, h, w3, u1, u2]
     ·have j3 : (k == 6) = false := beq_eq_false_iff_ne.2 k6
      by_cases k7 : k = 7
      ·obtain ⟨r, w1, w2⟩ := t7 k7
       have j4 : (k == 7) = true := by simp [k7]
       rcases ev2 with h | ⟨h, hne⟩
       ·rcases hR with hr | hr
        ·simp (disch := omega) only [EV, hbig, e1, e2, e3, e4, e5, f1, f2, f3, f4, f5, f6, f7, f8, v1, v2, v3, hR9 hr, hr, beq_self_eq_true, bne_self_eq_false, f10, hw, j1, j2, j3, j4, w1, h]
        ·simp (disch := omega) only [EV, hbig, e1, e2, e3, e4, e5, f1, f2, f3, f4, f5, f6, f7, f8, v1, v2, v3, hr, beq_self_eq_true, bne_self_eq_false, f10, hw, j1, j2, j3, j4, w1, h]
       ·have w3 := w2 hne
        rcases hR with hr | hr
        ·simp (disch := omega) only [EV, hbig, e1, e2, e3, e4, e5, f1, f2, f3, f4, f5, f6, f7, f8, v1, v2, v3, hR9 hr, hr, beq_self_eq_true, bne_self_eq_false, f10, hw, j1, j2, j3, j4, w1, h, w3, u1]
        ·simp (disch := omega) only [EV, hbig, e1, e2, e3, e4, e5, f1, f2, f3, f4, f5, f6, f7, f8, v1, v2, v3, hr, beq_self_eq_true, bne_self_eq_false, f10, hw, j1, j2, j3, j4, w1, h, w3, u1]
      ·have j4 : (k == 7) = false := beq_eq_false_iff_ne.2 k7
       by_cases k1 : k = 1
       ·obtain ⟨r, w1, w2⟩ := t8 k1
        have j5 : (k == 1) = true := by simp [k1]
        rcases ev2 with h | ⟨h, hne⟩
        ·rcases hR with hr | hr
         ·simp (disch := omega) only [EV, hbig, e1, e2, e3, e4, e5, f1, f2, f3, f4, f5, f6, f7, f8, v1, v2, v3, hR9 hr, hr, beq_self_eq_true, bne_self_eq_false, f10, hw, j1, j2, j3, j4, j5, w1, h]
         ·simp (disch := omega) only [EV, hbig, e1, e2, e3, e4, e5, f1, f2, f3, f4, f5, f6, f7, f8, v1, v2, v3, hr, beq_self_eq_true, bne_self_eq_false, f10, hw, j1, j2, j3, j4, j5, w1, h]
        ·have w3 := w2 hne
         rcases hR with hr | hr
         ·simp (disch := omega) only [EV, hbig, e1, e2, e3, e4, e5, f1, f2, f3, f4, f5, f6, f7, f8, v1, v2, v3, hR9 hr, hr, beq_self_eq_true, bne_self_eq_false, f10, hw, j1, j2, j3, j4, j5, w1, h, w3, u2]
         ·simp (disch := omega) only [EV, hbig, e1, e2, e3, e4, e5, f1, f2, f3, f4, f5, f6, f7, f8, v1, v2, v3, hr, beq_self_eq_true, bne_self_eq_false, f10, hw, j1, j2, j3, j4, j5, w1, h, w3, u2]
       ·have j5 : (k == 1) = false := beq_eq_false_iff_ne.2 k1
        rcases hR with hr | hr
        ·simp (disch := omega) only [EV, hbig, e1, e2, e3, e4, e5, f1, f2, f3, f4, f5, f6, f7, f8, v1, v2, v3, hR9 hr, hr, beq_self_eq_true, bne_self_eq_false, f10, hw, j1, j2, j3, j4, j5]
        ·simp (disch := omega) only [EV, hbig, e1, e2, e3, e4, e5, f1, f2, f3, f4, f5, f6, f7, f8, v1, v2, v3, hr, beq_self_eq_true, bne_self_eq_false, f10, hw, j1, j2, j3, j4, j5]
end Go.Proofs.YtnagpmhaddfgmaaGreat
