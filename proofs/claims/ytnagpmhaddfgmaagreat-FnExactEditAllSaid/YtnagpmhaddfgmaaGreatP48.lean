/-
 Plain laws: edits of atlases as the reference makes them.
-/
import Derived.Test.YtnagpmhaddfgmaaGreatP47
namespace Go.Proofs.YtnagpmhaddfgmaaGreat
structure Atl (o : List Int) (ds : List (List Int)) (s : List Int) (n : Int) : Prop where
 fld : Fld o ds
 set : ris o.length s
 count : 0 ≤ n ∧ n ≤ 1000
theorem atl_iff {o : List Int} {ds : List (List Int)} {s : List Int} {n : Int} : atlasB o ds s n = true ↔ Atl o ds s n := by
 unfold atlasB
 rw [Bool.and_eq_true, Bool.and_eq_true, fieldB_iff, ris_iff, isIn_iff]
 exact ⟨fun ⟨a, b, c⟩ => ⟨a, b, c⟩, fun h => ⟨h.fld, h.set, h.count⟩⟩
theorem fld_low {o : List Int} {ds : List (List Int)} (h : Fld o ds) : Low1 o ∧ Low2 ds := by
 have h1 := h.len
 have h2 := h.clients
 refine ⟨by unfold Low1; omega, by omega, fun r hr => ?_⟩
 obtain ⟨j, hj, e⟩ := List.mem_iff_getElem.1 hr
 have h3 := h.rowLen j hj
 rw [List.getD_eq_getElem?_getD, List.getElem?_eq_getElem hj, Option.getD_some, e] at h3
 unfold Low1
 omega
theorem fld_row {o : List Int} {ds : List (List Int)} (h : Fld o ds) : ∀ r ∈ ds, r.length = o.length := fun r hr => by
 obtain ⟨j, hj, e⟩ := List.mem_iff_getElem.1 hr
 have h3 := h.rowLen j hj
 rwa [List.getD_eq_getElem?_getD, List.getElem?_eq_getElem hj, Option.getD_some, e] at h3
theorem erows_copy {f : Int × List (List Int) → Option ((Int × List (List Int)) ⊕ List (List Int))} {x : List (List Int)}
  (hstep : ∀ i : Nat, i < x.length → f ((i : Int), x.take i) = some (.inl (((i + 1 : Nat) : Int), x.take i ++ [x.getD i []]))) (hend : f ((x.length : Int), x) = some (.inr x)) : iter f (0, []) = some x := by
 have := (iter_fold (f := f) (n := x.length) (mk := fun i (_ : Unit) => ((i : Int), x.take i)) (I := fun _ _ => True) (g := fun s _ => s) (fin := fun _ => x) (s0 := ()) trivial
  (fun i s hi _ => ⟨by rw [hstep i hi, take_snoc [] hi], trivial⟩)
  (fun s _ => by rw [List.take_length, hend])).1
 simpa using this
theorem eown12_loop {ds : List (List Int)} (hd : ds.length ≤ 1000) (hr : ∀ r ∈ ds, r.length ≤ 1000) (k : (List (Int)) × ((List (List (Int))) × ((List (Int)) × ((Int) × ((Int) × ((List (List (Int))) × (List (Int)))))))) (hk : k.2.1 = ds) : wgq k (0, []) = some ds := by
 have h0 := erows_copy (f := fun v => (wax k v).ev) (x := ds)
  (fun i hi => by
   have ht : (ds.take i).length ≤ i := List.length_take_le _ _
   have r1 := room24 (ds.take i) (by omega)
   have e1 := eown_eq (l := ds.getD i []) (by have := hr _ (getD_mem (d := []) hi); omega)
   simp (disch := omega) only [EV, wax, hk, hi, e1, set_end, r1]
   rfl)
  (by simp (disch := omega) only [EV, wax, hk, Nat.lt_irrefl])
 exact h0
theorem eown12_eq {o s : List Int} {ds : List (List Int)} (ho : o.length ≤ 1000) (hd : ds.length ≤ 1000) (hr : ∀ r ∈ ds, r.length ≤ 1000) (hs : s.length ≤ 1000) (c : Int) : wfz o ds s c = some (c, (o, (ds, s))) := by
 unfold wfz wqc
 rw [Tr.ev_c, eown_eq (l := o) (by omega), Option.bind_some, Tr.ev_c, eown12_loop hd hr _ rfl, Option.bind_some, Tr.ev_c, eown_eq (l := s) (by omega), Option.bind_some, Tr.ev_l]
theorem map_step {α : Type} (f : α → α) (d : α) {l : List α} {i : Nat} (hi : i < l.length) : ((l.take i).map f ++ l.drop i).getD i d = l.getD i d ∧ ((l.take i).map f ++ l.drop i).set i (f (l.getD i d)) = (l.take (i + 1)).map f ++ l.drop (i + 1) ∧ ((l.take i).map f ++ l.drop i).length = l.length := by
 have hl : ((l.take i).map f).length = i := by rw [List.length_map, List.length_take]; omega
 have hd := List.drop_eq_getElem_cons hi
 have hg : l.getD i d = l[i] := by rw [List.getD_eq_getElem?_getD, List.getElem?_eq_getElem hi]; rfl
 refine ⟨?_, ?_, ?_⟩
 ·rw [List.getD_eq_getElem?_getD, List.getElem?_append_right (by omega), hl, Nat.sub_self, hd, hg]
  rfl
 ·rw [List.set_append_right _ _ (by omega), hl, Nat.sub_self, hd, List.set_cons_zero, take_snoc d hi, List.map_append, List.append_assoc]
  rfl
 ·rw [List.length_append, hl, List.length_drop]
  omega
theorem iter_map {α : Type} {f : Int × List α → Option ((Int × List α) ⊕ List α)} (g : α → α) (d : α) {l : List α}
  (hstep : ∀ (i : Nat) (x : List α), i < l.length → x.length = l.length → x.getD i d = l.getD i d → f ((i : Int), x) = some (.inl (((i + 1 : Nat) : Int), x.set i (g (l.getD i d)))))
  (hend : ∀ x : List α, x.length = l.length → f ((l.length : Int), x) = some (.inr x)) : iter f (0, l) = some (l.map g) := by
 have := (iter_fold (f := f) (n := l.length) (mk := fun i (_ : Unit) => ((i : Int), (l.take i).map g ++ l.drop i)) (I := fun _ _ => True) (g := fun s _ => s) (fin := fun _ => l.map g) (s0 := ()) trivial
  (fun i s hi _ => by
   obtain ⟨h1, h2, h3⟩ := map_step g d hi
   exact ⟨by rw [hstep i _ hi h3 h1, h2], trivial⟩)
  (fun s _ => by rw [List.take_length, List.drop_length, List.append_nil, hend _ (by simp)])).1
 simpa using this
theorem set_self {α : Type} {l : List α} {i : Nat} (d : α) (hi : i < l.length) : l.set i (l.getD i d) = l := by
 rw [List.getD_eq_getElem?_getD, List.getElem?_eq_getElem hi, Option.getD_some, List.set_getElem_self]
def decAbove (a x : Int) : Int := if a < x then x - 1 else x
theorem edrop_eq {o s : List Int} {ds : List (List Int)} {n : Int} (h : Atl o ds s n) {a : Int} (h0 : 0 ≤ a) (ha : a < (o.length : Int)) : wko o ds s n a = some (n, (cutAt a o, (ds.map (cutAt a), s.map (decAbove a)))) := by
 have h7 := h.fld.len
 have hm := h.fld.clients
 have hrow := fld_row h.fld
 have hsl := h.set.len
 have e1 := eown12_eq (o := o) (ds := ds) (s := s) (by omega) (by omega) (fun r hr => by have := hrow r hr; omega) (by omega) n
 have e2 := ecut_eq (l := o) (by omega) h0 ha
 have l1 := iter_map (f := fun v => (wbb (a, (o, (ds, (s, (n, ((0 : Int), (n, (cutAt a o, s)))))))) v).ev) (cutAt a) [] (l := ds)
  (fun i x hi hx hg => by
   have hri := hrow _ (getD_mem (d := []) hi)
   have e3 := ecut_eq (l := ds.getD i []) (by omega) h0 (by omega)
   have hi' : i < x.length := by omega
   simp (disch := omega) only [EV, wbb, hi, hi', e3]
   rfl)
  (fun x hx => by simp (disch := omega) only [EV, wbb, Nat.lt_irrefl])
 have l2 := iter_map (f := fun v => (wag (a, ((0 : Int), (n, (cutAt a o, ds.map (cutAt a))))) v).ev) (decAbove a) 0 (l := s)
  (fun i x hi hx hg => by
   have hi' : i < x.length := by omega
   have hv := h.set.1 _ (getD_mem (d := 0) hi)
   have hw : IntKind.wrap .i64 (s.getD i 0 - 1) = s.getD i 0 - 1 := wrap64 (by omega) (by omega)
   unfold decAbove
   by_cases hlt : a < s.getD i 0
   ·simp (disch := omega) only [EV, wag, hi', hg, hlt, hw]
    rfl
   ·have hself : x.set i (s.getD i 0) = x := by rw [← hg]; exact set_self 0 hi'
    simp (disch := omega) only [EV, wag, hi', hg, hlt, hself]
    rfl)
  (fun x hx => by
   have hn : ¬ s.length < x.length := by omega
   simp (disch := omega) only [EV, wag, hn])
 have l1' : wgv (a, (o, (ds, (s, (n, ((0 : Int), (n, (cutAt a o, s)))))))) (0, ds) = some (ds.map (cutAt a)) := l1
 have l2' : wgw (a, ((0 : Int), (n, (cutAt a o, ds.map (cutAt a))))) (0, s) = some (s.map (decAbove a)) := l2
 unfold wko wrd
 rw [Tr.ev_c, e1, Option.bind_some, Tr.ev_c, e2, Option.bind_some, Tr.ev_c, l1', Option.bind_some, Tr.ev_c, l2', Option.bind_some, Tr.ev_l]
def editOf (o : List Int) (ds : List (List Int)) (s : List Int) (k a b c : Int) (l : List Int) : List Int × List (List Int) × List Int :=
 if k = 1 then (o, ds, ins a s)
 else if k = 2 then (o, ds, wo s a)
 else if k = 3 then (o, ds, ins b (wo s a))
 else if k = 4 then (o.set a.toNat b, ds, s)
 else if k = 5 then (o, ds.set a.toNat ((ds.getD a.toNat []).set b.toNat c), s)
 else if k = 6 then (o ++ [a], List.zipWith (fun r x => r ++ [x]) ds l, s)
 else if k = 7 then (o, ds ++ [l], s)
 else if k = 8 then (cutAt a o, ds.map (cutAt a), s.map (decAbove a))
 else if k = 9 then (o, cutAt a ds, s)
 else if k = 10 then (o, ds, (locOf o ds s).2)
 else if k = 11 then (o, ds, bestOf o ds)
 else (o, ds, s)
def Sm (x : List Int × List (List Int) × List Int) : Prop := Low1 x.1 ∧ Low2 x.2.1 ∧ Low1 x.2.2
theorem atl_open {o s : List Int} {ds : List (List Int)} {n : Int} (h : Atl o ds s n) (h0 : s ≠ []) : openB o ds s = true := by
 unfold openB
 rw [fieldB_iff.2 h.fld, ris_iff.2 h.set, decide_eq_true (List.length_pos_iff.2 h0)]
 rfl
theorem zip_step {ds : List (List Int)} {l : List Int} {i : Nat} (hi : i < ds.length) (hl : l.length = ds.length) : ∀ {x : List (List Int)}, x = List.zipWith (fun r y => r ++ [y]) (ds.take i) (l.take i) ++ ds.drop i →
  x.getD i [] = ds.getD i [] ∧ x.length = ds.length ∧ x.set i (ds.getD i [] ++ [l.getD i 0]) = List.zipWith (fun r y => r ++ [y]) (ds.take (i + 1)) (l.take (i + 1)) ++ ds.drop (i + 1) := by
 intro x hx
 subst hx
 have hz : (List.zipWith (fun r y => r ++ [y]) (ds.take i) (l.take i)).length = i := by simp; omega
 have hd := List.drop_eq_getElem_cons hi
 have hg : ds.getD i [] = ds[i] := by rw [List.getD_eq_getElem?_getD, List.getElem?_eq_getElem hi]; rfl
 refine ⟨?_, ?_, ?_⟩
 ·rw [List.getD_eq_getElem?_getD, List.getElem?_append_right (by omega), hz, Nat.sub_self, hd, hg]
  rfl
 ·rw [List.length_append, hz, List.length_drop]; omega
 ·rw [List.set_append_right _ _ (by omega), hz, Nat.sub_self, hd, List.set_cons_zero, take_snoc [] hi, take_snoc 0 (show i < l.length by omega), List.zipWith_append (by simp; omega), List.append_assoc]
  rfl
theorem emake_site {ds : List (List Int)} {l : List Int} (hl : l.length = ds.length) (hd : ds.length ≤ 7) (hr : ∀ r ∈ ds, r.length ≤ 7) (k : (Int) × ((Int) × ((Int) × ((Int) × ((List (Int)) × ((Int) × ((Int) × ((List (Int)) × ((List (Int)) × ((List (Int)) × (List (Int)))))))))))) (hk : k.2.2.2.2.1 = l) :
  wdf k (0, ds) = some (List.zipWith (fun r x => r ++ [x]) ds l) := by
 have h := (iter_fold (f := fun v => (wbi k v).ev) (n := ds.length) (mk := fun i (x : List (List Int)) => ((i : Int), x)) (I := fun i x => x = List.zipWith (fun r y => r ++ [y]) (ds.take i) (l.take i) ++ ds.drop i) (g := fun x i => x.set i (ds.getD i [] ++ [l.getD i 0])) (fin := fun s => s) (s0 := ds) (by simp)
  (fun i x hi hx => by
   obtain ⟨z1, z2, z3⟩ := zip_step hi hl hx
   refine ⟨?_, z3⟩
   have hi1 : i < l.length := by omega
   have hi2 : i < x.length := by omega
   have r1 := room8 (ds.getD i []) (l.getD i 0) (by have := hr _ (getD_mem (d := []) hi); omega)
   simp (disch := omega) only [EV, wbi, hk, hi1, hi2, z1, r1]
   rfl)
  (fun x hx => by
   have hn : ¬ ds.length < l.length := by omega
   simp (disch := omega) only [EV, wbi, hk, hn]))
 obtain ⟨h1, h2⟩ := h
 have h3 : wdf k (0, ds) = _ := h1
 rw [h3, h2, List.take_length, List.drop_length, List.append_nil, List.take_of_length_le (by omega)]
theorem emake_eq {o s : List Int} {ds : List (List Int)} {n : Int} (h : Atl o ds s n) {k a b c : Int} {l : List Int} (hl : Low1 l) (hm : mayB o.length ds.length s k a b l = true) :
  wli o ds s n k a b c l = some (n, editOf o ds s k a b c l) ∧ Sm (editOf o ds s k a b c l) := by
 have h7 := h.fld.len
 have hp := h.fld.pos
 have hc := h.fld.clients
 have hrow := fld_row h.fld
 have hsl := h.set.len
 obtain ⟨lo, ld⟩ := fld_low h.fld
 have ls : Low1 s := h.set.low h7
 have e1 := eown12_eq (o := o) (ds := ds) (s := s) (by omega) (by omega) (fun r hr => by have := hrow r hr; omega) (by omega) n
 have hsite : ∀ {m : Nat} {x : Int}, siteB m x = true → 0 ≤ x ∧ x < (m : Int) := fun {m x} hx => by
  have := isIn_iff.1 hx
  omega
 have hclosed : ∀ {x : Int}, closedB o.length s x = true → (0 ≤ x ∧ x < (o.length : Int)) ∧ x ∉ s := fun {x} hx => by
  unfold closedB at hx
  rw [Bool.and_eq_true, Bool.not_eq_true'] at hx
  exact ⟨hsite hx.1, not_contains hx.2⟩
 have low1 : ∀ {x : List Int}, x.length ≤ 1000 → Low1 x := fun {x} hx => by unfold Low1; omega
 unfold wli wtf
 rw [Tr.ev_c, e1, Option.bind_some]
 dsimp only
 by_cases h1 : k = 1
 ·subst h1
  obtain ⟨q1, q2⟩ := hclosed hm
  have e2 := eput_eq (l := s) (x := a) (by omega) q2
  refine ⟨?_, lo, ld, low1 (by show (ins a s).length ≤ 1000; rw [eins_len]; omega)⟩
  rw [Tr.ev_t, show ((1 : Int) == 1) = true from rfl, cond_true, Tr.ev_c, e2]
  rfl
 by_cases h2 : k = 2
 ·subst h2
  have e2 := ewithout_eq (l := s) (by omega) a
  refine ⟨?_, lo, ld, low1 (by have := wo_len s a; show (wo s a).length ≤ 1000; omega)⟩
  rw [Tr.ev_t, show ((2 : Int) == 1) = false from rfl, cond_false, Tr.ev_t, show ((2 : Int) == 2) = true from rfl, cond_true, Tr.ev_c, e2]
  rfl
 by_cases h3 : k = 3
 ·subst h3
  have hm' : (s.contains a && closedB o.length s b) = true := hm
  rw [Bool.and_eq_true] at hm'
  obtain ⟨q1, q2⟩ := hclosed hm'.2
  have e2 := ewithout_eq (l := s) (by omega) a
  have hwl := wo_len s a
  have e3 := eput_eq (l := wo s a) (x := b) (by omega) (wo_notin q2)
  unfold wo at e3
  refine ⟨?_, lo, ld, low1 (by show (ins b (wo s a)).length ≤ 1000; rw [eins_len]; omega)⟩
  simp only [Tr.ev_t, show ((3 : Int) == 1) = false from rfl, show ((3 : Int) == 2) = false from rfl, show ((3 : Int) == 3) = true from rfl, cond_true, cond_false, Tr.ev_c, e2, Option.bind_some, e3]
  rfl
 by_cases h4 : k = 4
 ·subst h4
  have hs := hsite (show siteB o.length a = true from hm)
  have i1 : inR a o.length = true := inR_int (by omega) (by omega)
  have i2 : a.toNat < o.length := by omega
  refine ⟨?_, low1 (by show (o.set a.toNat b).length ≤ 1000; rw [List.length_set]; omega), ld, ls⟩
  simp only [Tr.ev_t, show ((4 : Int) == 1) = false from rfl, show ((4 : Int) == 2) = false from rfl, show ((4 : Int) == 3) = false from rfl, show ((4 : Int) == 4) = true from rfl, cond_true, cond_false, Tr.ev_g, i1, decide_eq_true i2]
  rfl
 by_cases h5 : k = 5
 ·subst h5
  have hm' : (siteB ds.length a && siteB o.length b) = true := hm
  rw [Bool.and_eq_true] at hm'
  have q1 := hsite hm'.1
  have q2 := hsite hm'.2
  have i2 : a.toNat < ds.length := by omega
  have hrl := hrow _ (getD_mem (d := []) i2)
  have i1 : inR a ds.length = true := inR_int (by omega) (by omega)
  have i3 : inR b (ds.getD a.toNat []).length = true := inR_int (by omega) (by omega)
  have i4 : b.toNat < (ds.getD a.toNat []).length := by omega
  refine ⟨?_, lo, ⟨by show ((ds.set a.toNat ((ds.getD a.toNat []).set b.toNat c)).length : Int) ≤ _; rw [List.length_set]; omega, fun r hr => ?_⟩, ls⟩
  ·simp only [Tr.ev_t, show ((5 : Int) == 1) = false from rfl, show ((5 : Int) == 2) = false from rfl, show ((5 : Int) == 3) = false from rfl, show ((5 : Int) == 4) = false from rfl, show ((5 : Int) == 5) = true from rfl, cond_true, cond_false, Tr.ev_g, i1, decide_eq_true i2, i3, decide_eq_true i4]
   rfl
  ·rcases List.mem_or_eq_of_mem_set (show r ∈ ds.set a.toNat ((ds.getD a.toNat []).set b.toNat c) from hr) with hr | rfl
   ·exact ld.2 r hr
   ·exact low1 (by rw [List.length_set]; omega)
 by_cases h6 : k = 6
 ·subst h6
  have hm' : ((((l.length : Nat) : Int)) == ((ds.length : Nat) : Int)) = true := hm
  have hll : l.length = ds.length := by have := eq_of_beq hm'; omega
  have r1 := room8 o a (by omega)
  have e2 := fun k => emake_site (l := l) (ds := ds) hll hc (fun r hr => by have := hrow r hr; omega) k
  refine ⟨?_, low1 (by show (o ++ [a]).length ≤ 1000; simp; omega), ⟨by show ((List.zipWith (fun r x => r ++ [x]) ds l).length : Int) ≤ _; simp; omega, fun r hr => ?_⟩, ls⟩
  ·simp only [Tr.ev_t, show ((6 : Int) == 1) = false from rfl, show ((6 : Int) == 2) = false from rfl, show ((6 : Int) == 3) = false from rfl, show ((6 : Int) == 4) = false from rfl, show ((6 : Int) == 5) = false from rfl, show ((6 : Int) == 6) = true from rfl, cond_true, cond_false, Tr.ev_g, decide_eq_true r1, Tr.ev_c]
   rw [e2 _ rfl]
   rfl
  ·obtain ⟨j, hj, e⟩ := List.mem_iff_getElem.1 (show r ∈ List.zipWith (fun r x => r ++ [x]) ds l from hr)
   rw [List.getElem_zipWith] at e
   subst e
   rw [List.length_zipWith] at hj
   exact low1 (by have := hrow _ (List.getElem_mem (show j < ds.length by omega)); simp; omega)
 by_cases h7' : k = 7
 ·subst h7'
  have e2 := eown_eq (l := l) (by unfold Low1 at hl; omega)
  have r1 := room24 ds (by omega)
  refine ⟨?_, lo, ⟨by show ((ds ++ [l]).length : Int) ≤ _; simp; omega, fun r hr => ?_⟩, ls⟩
  ·simp only [Tr.ev_t, show ((7 : Int) == 1) = false from rfl, show ((7 : Int) == 2) = false from rfl, show ((7 : Int) == 3) = false from rfl, show ((7 : Int) == 4) = false from rfl, show ((7 : Int) == 5) = false from rfl, show ((7 : Int) == 6) = false from rfl, show ((7 : Int) == 7) = true from rfl, cond_true, cond_false, Tr.ev_c, e2, Option.bind_some, Tr.ev_g, decide_eq_true r1, set_end]
   rfl
  ·rcases List.mem_append.1 (show r ∈ ds ++ [l] from hr) with hr | hr
   ·exact ld.2 r hr
   ·rw [List.mem_singleton.1 hr]; exact hl
 by_cases h8 : k = 8
 ·subst h8
  obtain ⟨q1, q2⟩ := hclosed (x := a) hm
  have e2 := edrop_eq h q1.1 q1.2
  have hcl := cutAt_len (l := o) q1.1 q1.2
  refine ⟨?_, low1 (by show (cutAt a o).length ≤ 1000; omega), ⟨by show ((ds.map (cutAt a)).length : Int) ≤ _; simp; omega, fun r hr => ?_⟩, low1 (by show (s.map (decAbove a)).length ≤ 1000; simp; omega)⟩
  ·simp only [Tr.ev_t, show ((8 : Int) == 1) = false from rfl, show ((8 : Int) == 2) = false from rfl, show ((8 : Int) == 3) = false from rfl, show ((8 : Int) == 4) = false from rfl, show ((8 : Int) == 5) = false from rfl, show ((8 : Int) == 6) = false from rfl, show ((8 : Int) == 7) = false from rfl, show ((8 : Int) == 8) = true from rfl, cond_true, cond_false, Tr.ev_c, e2]
   rfl
  ·obtain ⟨r', hr', rfl⟩ := List.mem_map.1 (show r ∈ ds.map (cutAt a) from hr)
   have := hrow r' hr'
   have := cutAt_len (l := r') q1.1 (by omega)
   exact low1 (by omega)
 by_cases h9 : k = 9
 ·subst h9
  have q1 := hsite (show siteB ds.length a = true from hm)
  have hw : IntKind.wrap .i64 (a + 1) = a + 1 := wrap64 (by omega) (by omega)
  have ht : (a + 1).toNat = a.toNat + 1 := by omega
  have g1 : (decide (0 ≤ a) && decide (a ≤ ((ds.length : Nat) : Int))) = true := by rw [decide_eq_true (by omega), decide_eq_true (by omega)]; rfl
  have g2 : (decide (0 ≤ a + 1) && decide (a + 1 ≤ ((ds.length : Nat) : Int))) = true := by rw [decide_eq_true (by omega), decide_eq_true (by omega)]; rfl
  have g3 : (decide (a.toNat ≤ a.toNat + 1) && decide ((a.toNat + (ds.length - (a.toNat + 1))) * 24 ≤ 140737488355328)) = true := by rw [decide_eq_true (by omega), decide_eq_true (by omega)]; rfl
  have hcl := cutAt_len (l := ds) q1.1 q1.2
  refine ⟨?_, lo, ⟨by show ((cutAt a ds).length : Int) ≤ _; omega, fun r hr => ld.2 r (cutAt_mem hr)⟩, ls⟩
  simp only [Tr.ev_t, show ((9 : Int) == 1) = false from rfl, show ((9 : Int) == 2) = false from rfl, show ((9 : Int) == 3) = false from rfl, show ((9 : Int) == 4) = false from rfl, show ((9 : Int) == 5) = false from rfl, show ((9 : Int) == 6) = false from rfl, show ((9 : Int) == 7) = false from rfl, show ((9 : Int) == 8) = false from rfl, show ((9 : Int) == 9) = true from rfl, cond_true, cond_false, Tr.ev_g, hw, ht, g1, g2, g3]
  rfl
 by_cases h10 : k = 10
 ·subst h10
  have hm' : decide ((0 : Int) < ((s.length : Nat) : Int)) = true := hm
  have h0 : s ≠ [] := List.length_pos_iff.1 (by have := of_decide_eq_true hm'; omega)
  have e2 := elocal_eq lo ld ls
  rw [atl_open h h0, cond_true] at e2
  have hsp := (locOf_spec h.fld h.set h0).1
  refine ⟨?_, lo, ld, hsp.low h7⟩
  simp only [Tr.ev_t, show ((10 : Int) == 1) = false from rfl, show ((10 : Int) == 2) = false from rfl, show ((10 : Int) == 3) = false from rfl, show ((10 : Int) == 4) = false from rfl, show ((10 : Int) == 5) = false from rfl, show ((10 : Int) == 6) = false from rfl, show ((10 : Int) == 7) = false from rfl, show ((10 : Int) == 8) = false from rfl, show ((10 : Int) == 9) = false from rfl, show ((10 : Int) == 10) = true from rfl, cond_true, cond_false, Tr.ev_c, e2]
  rfl
 by_cases h11 : k = 11
 ·subst h11
  have e2 := ebest_eq h.fld
  have hb := (sets_ris hp h7 (bestOf_mem h.fld).1).1
  have hbl := hb.len
  have e3 := eown_eq (l := bestOf o ds) (by omega)
  refine ⟨?_, lo, ld, hb.low h7⟩
  simp only [Tr.ev_t, show ((11 : Int) == 1) = false from rfl, show ((11 : Int) == 2) = false from rfl, show ((11 : Int) == 3) = false from rfl, show ((11 : Int) == 4) = false from rfl, show ((11 : Int) == 5) = false from rfl, show ((11 : Int) == 6) = false from rfl, show ((11 : Int) == 7) = false from rfl, show ((11 : Int) == 8) = false from rfl, show ((11 : Int) == 9) = false from rfl, show ((11 : Int) == 10) = false from rfl, show ((11 : Int) == 11) = true from rfl, cond_true, cond_false, Tr.ev_c, e2, Option.bind_some, e3]
  rfl
 have he : editOf o ds s k a b c l = (o, ds, s) := by
  unfold editOf
  rw [if_neg h1, if_neg h2, if_neg h3, if_neg h4, if_neg h5, if_neg h6, if_neg h7', if_neg h8, if_neg h9, if_neg h10, if_neg h11]
 rw [he]
 refine ⟨?_, lo, ld, ls⟩
 simp only [Tr.ev_t, Tr.ev_l, beq_eq_false_iff_ne.2 h1, beq_eq_false_iff_ne.2 h2, beq_eq_false_iff_ne.2 h3, beq_eq_false_iff_ne.2 h4, beq_eq_false_iff_ne.2 h5, beq_eq_false_iff_ne.2 h6, beq_eq_false_iff_ne.2 h7', beq_eq_false_iff_ne.2 h8, beq_eq_false_iff_ne.2 h9, beq_eq_false_iff_ne.2 h10, beq_eq_false_iff_ne.2 h11, cond_false]
def doOf (o : List Int) (ds : List (List Int)) (s : List Int) (n k a b c : Int) (l : List Int) : Option (Int × List Int × List (List Int) × List Int) :=
 bif plainB k a b c l && (mayB o.length ds.length s k a b l && atlasB (editOf o ds s k a b c l).1 (editOf o ds s k a b c l).2.1 (editOf o ds s k a b c l).2.2 (n + 1)) then some (n + 1, editOf o ds s k a b c l) else none
theorem doOf_atl {o s : List Int} {ds : List (List Int)} {n k a b c : Int} {l : List Int} {y : Int × List Int × List (List Int) × List Int} (h : doOf o ds s n k a b c l = some y) : Atl y.2.1 y.2.2.1 y.2.2.2 y.1 := by
 unfold doOf at h
 cases hb : (plainB k a b c l && (mayB o.length ds.length s k a b l && atlasB (editOf o ds s k a b c l).1 (editOf o ds s k a b c l).2.1 (editOf o ds s k a b c l).2.2 (n + 1))) with
 | false => rw [hb] at h; cases h
 | true =>
  rw [hb] at h
  cases h
  simp only [Bool.and_eq_true] at hb
  exact atl_iff.1 hb.2.2
def doT (x : Option (Int × List Int × List (List Int) × List Int)) : Int × Bool × List Int × List (List Int) × List Int := match x with
 | some y => (y.1, true, y.2)
 | none => (0, false, [], [], [])
theorem edo_eq {o s : List Int} {ds : List (List Int)} {n : Int} (h : Atl o ds s n) (k a b c : Int) {l : List Int} (hl : Low1 l) : wlj o ds s n k a b c l = some (doT (doOf o ds s n k a b c l)) := by
 have h7 := h.fld.len
 have hc := h.fld.clients
 have hsl := h.set.len
 have hn := h.count
 have hw : IntKind.wrap .i64 (n + 1) = n + 1 := wrap64 (by omega) (by omega)
 unfold wlj wtk doOf
 rw [Tr.ev_c, eplain_eq, Option.bind_some, Tr.ev_t]
 cases plainB k a b c l with
 | false => rfl
 | true =>
  rw [Bool.not_true, cond_false, Tr.ev_c, emay_eq (by omega) (by omega) (by omega), Option.bind_some, Tr.ev_t]
  cases hm : mayB o.length ds.length s k a b l with
  | false => rfl
  | true =>
   obtain ⟨e1, q1, q2, q3⟩ := emake_eq h (c := c) hl hm
   rw [Bool.not_true, cond_false, Tr.ev_c, e1, Option.bind_some, Tr.ev_c, hw]
   dsimp only
   rw [l12Good_eq q1 q2 q3, Option.bind_some, Tr.ev_t]
   cases atlasB (editOf o ds s k a b c l).1 (editOf o ds s k a b c l).2.1 (editOf o ds s k a b c l).2.2 (n + 1) <;> rfl
end Go.Proofs.YtnagpmhaddfgmaaGreat
