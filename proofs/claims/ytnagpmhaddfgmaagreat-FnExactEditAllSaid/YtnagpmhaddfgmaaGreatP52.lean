/-
 Plain laws: edits of atlases as the program makes them.
-/
import Derived.Test.YtnagpmhaddfgmaaGreatP48
import Derived.Test.YtnagpmhaddfgmaaGreatP51
namespace Go.Proofs.YtnagpmhaddfgmaaGreat
theorem itidy_eq (k a b c : Int) (l : List Int) : F_zi k a b c l = some (plainB k a b c l) := by
 unfold F_zi T_zi
 by_cases h1 : k = 1
 ·subst h1
  have e : waa 1 = some (1, (false, true)) := rfl
  rw [Tr.ev_c, e, Option.bind_some]
  unfold plainB nilB
  dsimp only
  generalize (a == 0) = x
  generalize (b == 0) = y
  generalize (c == 0) = z
  generalize (((List.length l : Nat) : Int) == 0) = w
  revert x y z w
  decide
 by_cases h2 : k = 2
 ·subst h2
  have e : waa 2 = some (1, (false, true)) := rfl
  rw [Tr.ev_c, e, Option.bind_some]
  unfold plainB nilB
  dsimp only
  generalize (a == 0) = x
  generalize (b == 0) = y
  generalize (c == 0) = z
  generalize (((List.length l : Nat) : Int) == 0) = w
  revert x y z w
  decide
 by_cases h3 : k = 3
 ·subst h3
  have e : waa 3 = some (2, (false, true)) := rfl
  rw [Tr.ev_c, e, Option.bind_some]
  unfold plainB nilB
  dsimp only
  generalize (a == 0) = x
  generalize (b == 0) = y
  generalize (c == 0) = z
  generalize (((List.length l : Nat) : Int) == 0) = w
  revert x y z w
  decide
 by_cases h4 : k = 4
 ·subst h4
  have e : waa 4 = some (2, (false, true)) := rfl
  rw [Tr.ev_c, e, Option.bind_some]
  unfold plainB nilB
  dsimp only
  generalize (a == 0) = x
  generalize (b == 0) = y
  generalize (c == 0) = z
  generalize (((List.length l : Nat) : Int) == 0) = w
  revert x y z w
  decide
 by_cases h5 : k = 5
 ·subst h5
  have e : waa 5 = some (3, (false, true)) := rfl
  rw [Tr.ev_c, e, Option.bind_some]
  unfold plainB nilB
  dsimp only
  generalize (a == 0) = x
  generalize (b == 0) = y
  generalize (c == 0) = z
  generalize (((List.length l : Nat) : Int) == 0) = w
  revert x y z w
  decide
 by_cases h6 : k = 6
 ·subst h6
  have e : waa 6 = some (1, (true, true)) := rfl
  rw [Tr.ev_c, e, Option.bind_some]
  unfold plainB nilB
  dsimp only
  generalize (a == 0) = x
  generalize (b == 0) = y
  generalize (c == 0) = z
  generalize (((List.length l : Nat) : Int) == 0) = w
  revert x y z w
  decide
 by_cases h7 : k = 7
 ·subst h7
  have e : waa 7 = some (0, (true, true)) := rfl
  rw [Tr.ev_c, e, Option.bind_some]
  unfold plainB nilB
  dsimp only
  generalize (a == 0) = x
  generalize (b == 0) = y
  generalize (c == 0) = z
  generalize (((List.length l : Nat) : Int) == 0) = w
  revert x y z w
  decide
 by_cases h8 : k = 8
 ·subst h8
  have e : waa 8 = some (1, (false, true)) := rfl
  rw [Tr.ev_c, e, Option.bind_some]
  unfold plainB nilB
  dsimp only
  generalize (a == 0) = x
  generalize (b == 0) = y
  generalize (c == 0) = z
  generalize (((List.length l : Nat) : Int) == 0) = w
  revert x y z w
  decide
 by_cases h9 : k = 9
 ·subst h9
  have e : waa 9 = some (1, (false, true)) := rfl
  rw [Tr.ev_c, e, Option.bind_some]
  unfold plainB nilB
  dsimp only
  generalize (a == 0) = x
  generalize (b == 0) = y
  generalize (c == 0) = z
  generalize (((List.length l : Nat) : Int) == 0) = w
  revert x y z w
  decide
 by_cases h10 : k = 10
 ·subst h10
  have e : waa 10 = some (0, (false, true)) := rfl
  rw [Tr.ev_c, e, Option.bind_some]
  unfold plainB nilB
  dsimp only
  generalize (a == 0) = x
  generalize (b == 0) = y
  generalize (c == 0) = z
  generalize (((List.length l : Nat) : Int) == 0) = w
  revert x y z w
  decide
 by_cases h11 : k = 11
 ·subst h11
  have e : waa 11 = some (0, (false, true)) := rfl
  rw [Tr.ev_c, e, Option.bind_some]
  unfold plainB nilB
  dsimp only
  generalize (a == 0) = x
  generalize (b == 0) = y
  generalize (c == 0) = z
  generalize (((List.length l : Nat) : Int) == 0) = w
  revert x y z w
  decide
 have e : waa k = some (0, (false, false)) := by
  unfold waa wuo
  simp only [Tr.ev_t, Tr.ev_l, beq_eq_false_iff_ne.2 h1, beq_eq_false_iff_ne.2 h2, beq_eq_false_iff_ne.2 h3, beq_eq_false_iff_ne.2 h4, beq_eq_false_iff_ne.2 h5, beq_eq_false_iff_ne.2 h6, beq_eq_false_iff_ne.2 h7, beq_eq_false_iff_ne.2 h8, beq_eq_false_iff_ne.2 h9, beq_eq_false_iff_ne.2 h10, beq_eq_false_iff_ne.2 h11, cond_false]
 have hp : plainB k a b c l = false := by
  unfold plainB
  rw [if_neg (by omega), if_neg (by omega), if_neg h5, if_neg h6, if_neg h7, if_neg (by omega)]
 rw [Tr.ev_c, e, hp]
 rfl
theorem eclone_eq {l : List Int} (hl : Low1 l) : wce l = some l := by
 unfold Low1 at hl
 unfold wce cloneF
 rw [if_pos (by omega)]
theorem ecopyLists_eq {ds : List (List Int)} (hd : Low2 ds) : wlt ds = some ds := by
 unfold wlt wui
 have hl := hd.1
 have h0 := erows_copy (f := fun v => (wbm (ds, ((ds.length : Nat) : Int)) v).ev) (x := ds)
  (fun i hi => by
   have ht : (ds.take i).length ≤ i := List.length_take_le _ _
   have hg : ((ds.take i).length + 1) * 24 ≤ 140737488355328 := by omega
   simp (disch := omega) only [EV, wbm, hi, eclone_eq (hd.2 _ (getD_mem (d := []) hi)), set_end, hg]
   rfl)
  (by simp (disch := omega) only [EV, wbm, Nat.lt_irrefl])
 simp (disch := omega) only [EV, wht, h0]
theorem ecopied_eq {o : List Int} {ds : List (List Int)} {s : List Int} (ho : Low1 o) (hd : Low2 ds) (hs : Low1 s) (c : Int) : F_zd o ds s c = some (c, (o, (ds, s))) := by
 unfold F_zd T_zd
 simp (disch := omega) only [EV, eclone_eq ho, eclone_eq hs, ecopyLists_eq hd]
theorem im_IsAtlas_eq0 {o : List Int} {ds : List (List Int)} {s : List Int} (ho : Low1 o) (hd : Low2 ds) (hs : Low1 s) (c : Int) : wao o ds s c = some (atlasB o ds s c) := im_IsAtlas_eq ho hd hs c
theorem emake_sm {o s : List Int} {ds : List (List Int)} {n : Int} (h : Atl o ds s n) {k a b c : Int} {l : List Int} (hl : Low1 l) (hm : mayB o.length ds.length s k a b l = true) : Sm (editOf o ds s k a b c l) := (emake_eq h hl hm).2
theorem do_fin {o s : List Int} {ds : List (List Int)} {n k a b c : Int} {l : List Int} (hp : plainB k a b c l = true) (hm : mayB o.length ds.length s k a b l = true) {E : List Int × List (List Int) × List Int} (hE : editOf o ds s k a b c l = E) (hS : Sm E) :
  (Tr.c (Bool) (wao E.1 E.2.1 E.2.2 (n + 1)) fun r => Tr.t (!r) (.l ((0 : Int), (false, (([] : List (Int)), (([] : List (List (Int))), ([] : List (Int))))))) (.l (n + 1, (true, (E.1, (E.2.1, E.2.2)))))).ev = some (doT (doOf o ds s n k a b c l)) := by
 obtain ⟨h1, h2, h3⟩ := hS
 unfold doOf
 rw [hp, hm, hE, Tr.ev_c, im_IsAtlas_eq0 h1 h2 h3, Option.bind_some, Tr.ev_t]
 cases atlasB E.1 E.2.1 E.2.2 (n + 1) <;> rfl
theorem do_no {o s : List Int} {ds : List (List Int)} {n k a b c : Int} {l : List Int} (hm : mayB o.length ds.length s k a b l = false) : doOf o ds s n k a b c l = none := by
 unfold doOf
 rw [hm]
 simp
theorem isite_eq {o s : List Int} {ds : List (List Int)} (ho : o.length ≤ 1000) (n a : Int) : wju a o ds s n = some (siteB o.length a) := by
 unfold wju T_zh siteB
 rw [Tr.ev_c, between_eq, Option.bind_some, Tr.ev_l, wrap64 (by omega) (by omega)]
theorem idel_eq {α : Type} {a : Int} {l : List α} (h0 : 0 ≤ a) (h : a < (l.length : Int)) : delF a (a + 1) l = some (cutAt a l) := by
 unfold delF cutAt
 rw [if_pos (by omega), show (a + 1).toNat = a.toNat + 1 by omega]
theorem imake_site {ds : List (List Int)} {l : List Int} (hl : l.length = ds.length) (hd : ds.length ≤ 7) (hr : ∀ r ∈ ds, r.length ≤ 7) (k : (Bool) × ((List (Int)) × ((Int) × ((Int) × ((Int) × ((List (Int)) × ((List (Int)) × ((List (Int)) × (List (Int)))))))))) (hk : k.2.1 = l) (hk2 : k.2.2.1 = ((l.length : Nat) : Int)) :
  L_zh k (0, ds) = some (List.zipWith (fun r x => r ++ [x]) ds l) := by
 have h := (iter_fold (f := fun v => (S_zh k v).ev) (n := ds.length) (mk := fun i (x : List (List Int)) => ((i : Int), x)) (I := fun i x => x = List.zipWith (fun r y => r ++ [y]) (ds.take i) (l.take i) ++ ds.drop i) (g := fun x i => x.set i (ds.getD i [] ++ [l.getD i 0])) (fin := fun s => s) (s0 := ds) (by simp)
  (fun i x hi hx => by
   obtain ⟨z1, z2, z3⟩ := zip_step hi hl hx
   refine ⟨?_, z3⟩
   have hi1 : i < l.length := by omega
   have hi2 : i < x.length := by omega
   have r1 := room8 (ds.getD i []) (l.getD i 0) (by have := hr _ (getD_mem (d := []) hi); omega)
   simp (disch := omega) only [EV, S_zh, hk, hk2, hi1, hi2, z1, r1]
   rfl)
  (fun x hx => by
   have hn : ¬ ds.length < l.length := by omega
   simp (disch := omega) only [EV, S_zh, hk2, hn]))
 obtain ⟨h1, h2⟩ := h
 have h3 : L_zh k (0, ds) = _ := h1
 rw [h3, h2, List.take_length, List.drop_length, List.append_nil, List.take_of_length_le (by omega)]
theorem idrop3 {o s : List Int} {ds : List (List Int)} {n : Int} (h : Atl o ds s n) {a : Int} (h0 : 0 ≤ a) (ha : a < (o.length : Int)) (k : (Int) × ((Bool) × ((Int) × ((Int) × ((Int) × ((List (Int)) × (List (Int)))))))) (hk : k.1 = a) (hk2 : k.2.2.1 = ((ds.length : Nat) : Int)) :
  wnc k (0, ds) = some (ds.map (cutAt a)) := by
 have h7 := h.fld.len
 have hm := h.fld.clients
 have hrow := fld_row h.fld
 have hw : IntKind.wrap .i64 (a + 1) = a + 1 := wrap64 (by omega) (by omega)
 have l1 := iter_map (f := fun v => (wcv k v).ev) (cutAt a) [] (l := ds)
  (fun i x hi hx hg => by
   have hri := hrow _ (getD_mem (d := []) hi)
   have e3 : wlv a (a + 1) (ds.getD i []) = some (cutAt a (ds.getD i [])) := idel_eq h0 (by omega)
   have hi' : i < x.length := by omega
   simp (disch := omega) only [EV, wcv, hk, hk2, hi, hi', hg, hw, e3]
   rfl)
  (fun x hx => by simp (disch := omega) only [EV, wcv, hk2, Nat.lt_irrefl])
 exact l1
theorem idrop5 {o s : List Int} {ds : List (List Int)} {n : Int} (h : Atl o ds s n) {a : Int} (k : (Int) × ((Bool) × ((Int) × ((Int) × ((Int) × ((List (Int)) × (List (List (Int))))))))) (hk : k.1 = a) (hk2 : k.2.2.1 = ((s.length : Nat) : Int)) :
  wnd k (0, s) = some (s.map (decAbove a)) := by
 have h7 := h.fld.len
 have hsl := h.set.len
 have l2 := iter_map (f := fun v => (wbz k v).ev) (decAbove a) 0 (l := s)
  (fun i x hi hx hg => by
   have hi' : i < x.length := by omega
   have hv := h.set.1 _ (getD_mem (d := 0) hi)
   have hw : IntKind.wrap .i64 (s.getD i 0 - 1) = s.getD i 0 - 1 := wrap64 (by omega) (by omega)
   unfold decAbove
   by_cases hlt : a < s.getD i 0
   ·simp (disch := omega) only [EV, wbz, hk, hk2, hi, hi', hg, hlt, hw]
    rfl
   ·have hself : x.set i (s.getD i 0) = x := by rw [← hg]; exact set_self 0 hi'
    simp (disch := omega) only [EV, wbz, hk, hk2, hi, hi', hg, hlt, hself]
    rfl)
  (fun x hx => by simp (disch := omega) only [EV, wbz, hk2, Nat.lt_irrefl])
 exact l2
theorem iedit_eq {o s : List Int} {ds : List (List Int)} {n : Int} (h : Atl o ds s n) (k a b c : Int) {l : List Int} (hl : Low1 l) : F_zg o ds s n k a b c l = some (doT (doOf o ds s n k a b c l)) := by
 have h7 := h.fld.len
 have hpos := h.fld.pos
 have hc := h.fld.clients
 have hrow := fld_row h.fld
 have hsl := h.set.len
 have hn := h.count
 obtain ⟨lo, ld⟩ := fld_low h.fld
 have ls : Low1 s := h.set.low h7
 have hw : IntKind.wrap .i64 (n + 1) = n + 1 := wrap64 (by omega) (by omega)
 have e0 := im_IsAtlas_eq0 lo ld ls n
 rw [atl_iff.2 h] at e0
 have e1 := itidy_eq k a b c l
 have e2 := ecopied_eq lo ld ls n
 have e3 := bagOf_eq h7 h.set
 have e4 : wby a 0 (IntKind.wrap .i64 (((ds.length : Nat) : Int) - 1)) = some (siteB ds.length a) := by rw [wrap64 (by omega) (by omega), between_eq]; rfl
 have e5 := fun x => isite_eq (s := s) (ds := ds) (show o.length ≤ 1000 by omega) n x
 have hsite : ∀ {m : Nat} {x : Int}, siteB m x = true → 0 ≤ x ∧ x < (m : Int) := fun {m x} hx => by
  have := isIn_iff.1 hx
  omega
 have low1 : ∀ {x : List Int}, x.length ≤ 1000 → Low1 x := fun {x} hx => by unfold Low1; omega
 unfold F_zg T_zg
 rw [Tr.ev_c, e0, Option.bind_some, Tr.ev_t, Bool.not_true, cond_false, Tr.ev_c, e1, Option.bind_some, Tr.ev_t]
 cases hp : plainB k a b c l with
 | false =>
  have hd : doOf o ds s n k a b c l = none := by unfold doOf; rw [hp]; rfl
  rw [hd]
  rfl
 | true =>
  rw [Bool.not_true, cond_false, Tr.ev_c, e2, Option.bind_some, Tr.ev_c, e3, Option.bind_some, Tr.ev_c, e4, Option.bind_some]
  dsimp only
  rw [hw]
  clear e0 e1 e2 e3
  by_cases h1 : k = 1
  ·subst h1
   rw [Tr.ev_t, show ((1 : Int) == 1) = true from rfl, cond_true, Tr.ev_c, e5, Option.bind_some, Tr.ev_t]
   cases hs1 : siteB o.length a with
   | false =>
    have hm : mayB o.length ds.length s 1 a b l = false := by show closedB o.length s a = false; unfold closedB; rw [hs1]; rfl
    rw [do_no hm]
    rfl
   | true =>
    have q1 := hsite hs1
    have e6 := bagHas_eq h7 h.set q1.1 (show a < 7 by omega)
    rw [cond_true, Tr.ev_c, e6, Option.bind_some]
    cases hc1 : s.contains a with
    | true =>
     have hm : mayB o.length ds.length s 1 a b l = false := by show closedB o.length s a = false; unfold closedB; rw [hs1, hc1]; rfl
     rw [do_no hm]
     rfl
    | false =>
     have hm : mayB o.length ds.length s 1 a b l = true := by show closedB o.length s a = true; unfold closedB; rw [hs1, hc1]; rfl
     have hn1 := not_contains hc1
     have e7 := bagPut_eq h7 h.set q1.1 (show a < 7 by omega) hn1
     unfold orB at e7
     rw [Tr.ev_t, Bool.not_false, cond_true, Tr.ev_g, decide_eq_true q1.1, cond_true, Tr.ev_c, e7, Option.bind_some, Tr.ev_t, Bool.not_true, cond_false]
     exact do_fin hp hm (E := (o, (ds, ins a s))) rfl ⟨lo, ld, (h.set.ins q1.1 q1.2 hn1).low h7⟩
  by_cases h2 : k = 2
  ·subst h2
   rw [Tr.ev_t, show ((2 : Int) == 1) = false from rfl, cond_false, Tr.ev_t, show ((2 : Int) == 2) = true from rfl, cond_true, Tr.ev_c, e5, Option.bind_some, Tr.ev_t]
   cases hs1 : siteB o.length a with
   | false =>
    have hm : mayB o.length ds.length s 2 a b l = false := by
     show s.contains a = false
     cases hc1 : s.contains a with
     | false => rfl
     | true =>
      have hr := h.set.1 a (List.contains_iff_mem.1 hc1)
      have : siteB o.length a = true := isIn_iff.2 (by omega)
      rw [this] at hs1
      cases hs1
    rw [do_no hm]
    rfl
   | true =>
    have q1 := hsite hs1
    have e6 := bagHas_eq h7 h.set q1.1 (show a < 7 by omega)
    rw [cond_true, Tr.ev_c, e6, Option.bind_some]
    cases hc1 : s.contains a with
    | false =>
     have hm : mayB o.length ds.length s 2 a b l = false := hc1
     rw [do_no hm]
     rfl
    | true =>
     have hm : mayB o.length ds.length s 2 a b l = true := hc1
     have e7 := bagCut_eq h7 h.set q1.1 (show a < 7 by omega)
     unfold anB at e7
     rw [Tr.ev_t, cond_true, Tr.ev_g, decide_eq_true q1.1, cond_true, Tr.ev_c, e7, Option.bind_some, Tr.ev_t, Bool.not_true, cond_false]
     exact do_fin hp hm (E := (o, (ds, wo s a))) rfl ⟨lo, ld, (h.set.wo a).low h7⟩
  by_cases h3 : k = 3
  ·subst h3
   have hmay : mayB o.length ds.length s 3 a b l = (s.contains a && closedB o.length s b) := rfl
   rw [Tr.ev_t, show ((3 : Int) == 1) = false from rfl, cond_false, Tr.ev_t, show ((3 : Int) == 2) = false from rfl, cond_false, Tr.ev_t, show ((3 : Int) == 3) = true from rfl, cond_true, Tr.ev_c, e5, Option.bind_some, Tr.ev_t]
   cases hs1 : siteB o.length a with
   | false =>
    have hc1 : s.contains a = false := by
     cases hc1 : s.contains a with
     | false => rfl
     | true =>
      have hr := h.set.1 a (List.contains_iff_mem.1 hc1)
      have : siteB o.length a = true := isIn_iff.2 (by omega)
      rw [this] at hs1
      cases hs1
    rw [do_no (by rw [hmay, hc1]; rfl)]
    rfl
   | true =>
    have q1 := hsite hs1
    have e6 := bagHas_eq h7 h.set q1.1 (show a < 7 by omega)
    rw [cond_true, Tr.ev_c, e5, Option.bind_some, Tr.ev_t]
    cases hs2 : siteB o.length b with
    | false =>
     have hcl : closedB o.length s b = false := by unfold closedB; rw [hs2]; rfl
     rw [do_no (by rw [hmay, hcl, Bool.and_false])]
     rfl
    | true =>
     have q2 := hsite hs2
     have e7 := bagHas_eq h7 h.set q2.1 (show b < 7 by omega)
     rw [cond_true, Tr.ev_c, e6, Option.bind_some]
     cases hc1 : s.contains a with
     | false =>
      rw [do_no (by rw [hmay, hc1]; rfl)]
      rfl
     | true =>
      rw [Tr.ev_t, cond_true, Tr.ev_c, e7, Option.bind_some]
      cases hc2 : s.contains b with
      | true =>
       have hcl : closedB o.length s b = false := by unfold closedB; rw [hs2, hc2]; rfl
       rw [do_no (by rw [hmay, hcl, Bool.and_false])]
       rfl
      | false =>
       have hcl : closedB o.length s b = true := by unfold closedB; rw [hs2, hc2]; rfl
       have hn2 := not_contains hc2
       have e8 := swapped_eq h7 h.set q1.1 (show a < 7 by omega) q2.1 (show b < 7 by omega) hn2
       rw [Tr.ev_t, Bool.not_false, cond_true, Tr.ev_c, e8, Option.bind_some, Tr.ev_t, Bool.not_true, cond_false]
       exact do_fin hp (by rw [hmay, hc1, hcl]; rfl) (E := (o, (ds, ins b (wo s a)))) rfl ⟨lo, ld, ((h.set.wo a).ins q2.1 q2.2 (wo_notin hn2)).low h7⟩
  by_cases h4 : k = 4
  ·subst h4
   have hmay : mayB o.length ds.length s 4 a b l = siteB o.length a := rfl
   rw [Tr.ev_t, show ((4 : Int) == 1) = false from rfl, cond_false, Tr.ev_t, show ((4 : Int) == 2) = false from rfl, cond_false, Tr.ev_t, show ((4 : Int) == 3) = false from rfl, cond_false, Tr.ev_t, show ((4 : Int) == 4) = true from rfl, cond_true, Tr.ev_c, e5, Option.bind_some, Tr.ev_t]
   cases hs1 : siteB o.length a with
   | false =>
    rw [do_no (hmay.trans hs1)]
    rfl
   | true =>
    have q1 := hsite hs1
    have i1 : inR a o.length = true := inR_int (by omega) (by omega)
    have i2 : a.toNat < o.length := by omega
    rw [cond_true, Tr.ev_g, i1, cond_true, Tr.ev_g, decide_eq_true i2, cond_true, Tr.ev_t, Bool.not_true, cond_false]
    exact do_fin hp (hmay.trans hs1) (E := (o.set a.toNat b, (ds, s))) rfl ⟨low1 (by rw [List.length_set]; omega), ld, ls⟩
  by_cases h5 : k = 5
  ·subst h5
   have hmay : mayB o.length ds.length s 5 a b l = (siteB ds.length a && siteB o.length b) := rfl
   rw [Tr.ev_t, show ((5 : Int) == 1) = false from rfl, cond_false, Tr.ev_t, show ((5 : Int) == 2) = false from rfl, cond_false, Tr.ev_t, show ((5 : Int) == 3) = false from rfl, cond_false, Tr.ev_t, show ((5 : Int) == 4) = false from rfl, cond_false, Tr.ev_t, show ((5 : Int) == 5) = true from rfl, cond_true, Tr.ev_t]
   cases hs1 : siteB ds.length a with
   | false =>
    rw [do_no (by rw [hmay, hs1]; rfl)]
    rfl
   | true =>
    have q1 := hsite hs1
    rw [cond_true, Tr.ev_c, e5, Option.bind_some, Tr.ev_t]
    cases hs2 : siteB o.length b with
    | false =>
     rw [do_no (by rw [hmay, hs2, Bool.and_false])]
     rfl
    | true =>
     have q2 := hsite hs2
     have i2 : a.toNat < ds.length := by omega
     have hrl := hrow _ (getD_mem (d := []) i2)
     have i1 : inR a ds.length = true := inR_int (by omega) (by omega)
     have i3 : inR b (ds.getD a.toNat []).length = true := inR_int (by omega) (by omega)
     have i4 : b.toNat < (ds.getD a.toNat []).length := by omega
     rw [cond_true, Tr.ev_g, i1, cond_true, Tr.ev_g, decide_eq_true i2, cond_true, Tr.ev_g, i3, cond_true, Tr.ev_g, decide_eq_true i4, cond_true, Tr.ev_t, Bool.not_true, cond_false]
     exact do_fin hp (by rw [hmay, hs1, hs2]; rfl) (E := (o, (ds.set a.toNat ((ds.getD a.toNat []).set b.toNat c), s))) rfl (emake_sm h hl (k := 5) (c := c) (by rw [hmay, hs1, hs2]; rfl))
  by_cases h6 : k = 6
  ·subst h6
   have hmay : mayB o.length ds.length s 6 a b l = (((l.length : Nat) : Int) == ((ds.length : Nat) : Int)) := rfl
   rw [Tr.ev_t, show ((6 : Int) == 1) = false from rfl, cond_false, Tr.ev_t, show ((6 : Int) == 2) = false from rfl, cond_false, Tr.ev_t, show ((6 : Int) == 3) = false from rfl, cond_false, Tr.ev_t, show ((6 : Int) == 4) = false from rfl, cond_false, Tr.ev_t, show ((6 : Int) == 5) = false from rfl, cond_false, Tr.ev_t, show ((6 : Int) == 6) = true from rfl, cond_true, Tr.ev_t]
   cases hs1 : (((l.length : Nat) : Int) == ((ds.length : Nat) : Int)) with
   | false =>
    rw [do_no (hmay.trans hs1)]
    rfl
   | true =>
    have hll : l.length = ds.length := by have := eq_of_beq hs1; omega
    have r1 := room8 o a (by omega)
    rw [cond_true, Tr.ev_g, decide_eq_true r1, cond_true, Tr.ev_c, imake_site hll hc (fun r hr => by have := hrow r hr; omega) _ rfl rfl, Option.bind_some, Tr.ev_t, Bool.not_true, cond_false]
    exact do_fin hp (hmay.trans hs1) (E := (o ++ [a], (List.zipWith (fun r x => r ++ [x]) ds l, s))) rfl (emake_sm h hl (k := 6) (c := c) (hmay.trans hs1))
  by_cases h7' : k = 7
  ·subst h7'
   have hmay : mayB o.length ds.length s 7 a b l = true := rfl
   have r1 := room24 ds (by omega)
   rw [Tr.ev_t, show ((7 : Int) == 1) = false from rfl, cond_false, Tr.ev_t, show ((7 : Int) == 2) = false from rfl, cond_false, Tr.ev_t, show ((7 : Int) == 3) = false from rfl, cond_false, Tr.ev_t, show ((7 : Int) == 4) = false from rfl, cond_false, Tr.ev_t, show ((7 : Int) == 5) = false from rfl, cond_false, Tr.ev_t, show ((7 : Int) == 6) = false from rfl, cond_false, Tr.ev_t, show ((7 : Int) == 7) = true from rfl, cond_true, Tr.ev_c, eclone_eq hl, Option.bind_some, Tr.ev_g, decide_eq_true r1, cond_true, set_end]
   exact do_fin hp hmay (E := (o, (ds ++ [l], s))) rfl (emake_sm h hl (k := 7) (c := c) hmay)
  by_cases h8 : k = 8
  ·subst h8
   have hmay : mayB o.length ds.length s 8 a b l = closedB o.length s a := rfl
   rw [Tr.ev_t, show ((8 : Int) == 1) = false from rfl, cond_false, Tr.ev_t, show ((8 : Int) == 2) = false from rfl, cond_false, Tr.ev_t, show ((8 : Int) == 3) = false from rfl, cond_false, Tr.ev_t, show ((8 : Int) == 4) = false from rfl, cond_false, Tr.ev_t, show ((8 : Int) == 5) = false from rfl, cond_false, Tr.ev_t, show ((8 : Int) == 6) = false from rfl, cond_false, Tr.ev_t, show ((8 : Int) == 7) = false from rfl, cond_false, Tr.ev_t, show ((8 : Int) == 8) = true from rfl, cond_true, Tr.ev_c, e5, Option.bind_some, Tr.ev_t]
   cases hs1 : siteB o.length a with
   | false =>
    rw [do_no (by rw [hmay]; unfold closedB; rw [hs1]; rfl)]
    rfl
   | true =>
    have q1 := hsite hs1
    have e6 := bagHas_eq h7 h.set q1.1 (show a < 7 by omega)
    rw [cond_true, Tr.ev_c, e6, Option.bind_some]
    cases hc1 : s.contains a with
    | true =>
     rw [do_no (by rw [hmay]; unfold closedB; rw [hs1, hc1]; rfl)]
     rfl
    | false =>
     have hm : mayB o.length ds.length s 8 a b l = true := by rw [hmay]; unfold closedB; rw [hs1, hc1]; rfl
     have hwa : IntKind.wrap .i64 (a + 1) = a + 1 := wrap64 (by omega) (by omega)
     have e7 : wlv a (a + 1) o = some (cutAt a o) := idel_eq q1.1 q1.2
     rw [Tr.ev_t, Bool.not_false, cond_true, hwa, Tr.ev_c, e7, Option.bind_some, Tr.ev_c, idrop3 h q1.1 q1.2 _ rfl rfl, Option.bind_some, Tr.ev_c, idrop5 h _ rfl rfl, Option.bind_some, Tr.ev_t, Bool.not_true, cond_false]
     exact do_fin hp hm (E := (cutAt a o, (ds.map (cutAt a), s.map (decAbove a)))) rfl (emake_sm h hl (k := 8) (c := c) hm)
  by_cases h9 : k = 9
  ·subst h9
   have hmay : mayB o.length ds.length s 9 a b l = siteB ds.length a := rfl
   rw [Tr.ev_t, show ((9 : Int) == 1) = false from rfl, cond_false, Tr.ev_t, show ((9 : Int) == 2) = false from rfl, cond_false, Tr.ev_t, show ((9 : Int) == 3) = false from rfl, cond_false, Tr.ev_t, show ((9 : Int) == 4) = false from rfl, cond_false, Tr.ev_t, show ((9 : Int) == 5) = false from rfl, cond_false, Tr.ev_t, show ((9 : Int) == 6) = false from rfl, cond_false, Tr.ev_t, show ((9 : Int) == 7) = false from rfl, cond_false, Tr.ev_t, show ((9 : Int) == 8) = false from rfl, cond_false, Tr.ev_t, show ((9 : Int) == 9) = true from rfl, cond_true, Tr.ev_t]
   cases hs1 : siteB ds.length a with
   | false =>
    rw [do_no (hmay.trans hs1)]
    rfl
   | true =>
    have q1 := hsite hs1
    have hwa : IntKind.wrap .i64 (a + 1) = a + 1 := wrap64 (by omega) (by omega)
    have e7 : wabp a (a + 1) ds = some (cutAt a ds) := idel_eq q1.1 q1.2
    rw [cond_true, hwa, Tr.ev_c, e7, Option.bind_some, Tr.ev_t, Bool.not_true, cond_false]
    exact do_fin hp (hmay.trans hs1) (E := (o, (cutAt a ds, s))) rfl (emake_sm h hl (k := 9) (c := c) (hmay.trans hs1))
  by_cases h10 : k = 10
  ·subst h10
   have hmay : mayB o.length ds.length s 10 a b l = decide ((0 : Int) < ((s.length : Nat) : Int)) := rfl
   have e6 := ilocal_eq lo ld ls
   rw [Tr.ev_t, show ((10 : Int) == 1) = false from rfl, cond_false, Tr.ev_t, show ((10 : Int) == 2) = false from rfl, cond_false, Tr.ev_t, show ((10 : Int) == 3) = false from rfl, cond_false, Tr.ev_t, show ((10 : Int) == 4) = false from rfl, cond_false, Tr.ev_t, show ((10 : Int) == 5) = false from rfl, cond_false, Tr.ev_t, show ((10 : Int) == 6) = false from rfl, cond_false, Tr.ev_t, show ((10 : Int) == 7) = false from rfl, cond_false, Tr.ev_t, show ((10 : Int) == 8) = false from rfl, cond_false, Tr.ev_t, show ((10 : Int) == 9) = false from rfl, cond_false, Tr.ev_t, show ((10 : Int) == 10) = true from rfl, cond_true, Tr.ev_c, e6, Option.bind_some]
   by_cases h0 : s = []
   ·have hob : openB o ds s = false := by
     unfold openB
     rw [h0]
     simp
    rw [do_no (by rw [hmay, h0]; rfl), hob]
    rfl
   ·have hq := List.length_pos_iff.2 h0
    have hm : mayB o.length ds.length s 10 a b l = true := by rw [hmay]; exact decide_eq_true (by omega)
    rw [atl_open h h0, cond_true, Tr.ev_t, Bool.not_true, cond_false]
    exact do_fin hp hm (E := (o, (ds, (locOf o ds s).2))) rfl (emake_sm h hl (k := 10) (c := c) hm)
  by_cases h11 : k = 11
  ·subst h11
   have hmay : mayB o.length ds.length s 11 a b l = true := rfl
   rw [Tr.ev_t, show ((11 : Int) == 1) = false from rfl, cond_false, Tr.ev_t, show ((11 : Int) == 2) = false from rfl, cond_false, Tr.ev_t, show ((11 : Int) == 3) = false from rfl, cond_false, Tr.ev_t, show ((11 : Int) == 4) = false from rfl, cond_false, Tr.ev_t, show ((11 : Int) == 5) = false from rfl, cond_false, Tr.ev_t, show ((11 : Int) == 6) = false from rfl, cond_false, Tr.ev_t, show ((11 : Int) == 7) = false from rfl, cond_false, Tr.ev_t, show ((11 : Int) == 8) = false from rfl, cond_false, Tr.ev_t, show ((11 : Int) == 9) = false from rfl, cond_false, Tr.ev_t, show ((11 : Int) == 10) = false from rfl, cond_false, Tr.ev_t, show ((11 : Int) == 11) = true from rfl, cond_true, Tr.ev_c, ibest_eq lo ld h.fld, Option.bind_some, Tr.ev_t, Bool.not_true, cond_false]
   exact do_fin hp hmay (E := (o, (ds, bestOf o ds))) rfl (emake_sm h hl (k := 11) (c := c) hmay)
  have hpn : plainB k a b c l = false := by
   unfold plainB
   rw [if_neg (by omega), if_neg (by omega), if_neg h5, if_neg h6, if_neg h7', if_neg (by omega)]
  rw [hpn] at hp
  cases hp
end Go.Proofs.YtnagpmhaddfgmaaGreat
