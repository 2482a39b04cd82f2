/-
 Plain laws: moves, local openings and best sets as the program finds them.
-/
import Derived.Test.YtnagpmhaddfgmaaGreatP50
namespace Go.Proofs.YtnagpmhaddfgmaaGreat
theorem iter_some_from {V R : Type} {f : V → Option (V ⊕ R)} {α : Type} {n : Nat} (h : Nat → Option α) (mk : Nat → V) (yes : α → R) (no : R)
  (hs : ∀ i, i < n → f (mk i) = some (match h i with | some m => .inr (yes m) | none => .inl (mk (i + 1)))) (he : f (mk n) = some (.inr no)) :
  ∀ k i, i + k = n → iter f (mk i) = some (((List.range' i k).findSome? h).elim no yes) := by
 intro k
 induction k with
 | zero =>
  intro i hi
  have : i = n := by omega
  subst this
  rw [iter_eq, he]
  rfl
 | succ k ih =>
  intro i hi
  rw [iter_eq, hs i (by omega), List.range'_succ, List.findSome?_cons]
  cases h i with
  | some m => rfl
  | none => exact ih (i + 1) (by omega)
theorem iter_first {V R : Type} {f : V → Option (V ⊕ R)} {α : Type} {n : Nat} (h : Nat → Option α) (mk : Nat → V) (yes : α → R) (no : R)
  (hs : ∀ i, i < n → f (mk i) = some (match h i with | some m => .inr (yes m) | none => .inl (mk (i + 1)))) (he : f (mk n) = some (.inr no)) :
  iter f (mk 0) = some (((List.range n).findSome? h).elim no yes) := by
 rw [List.range_eq_range']
 exact iter_some_from h mk yes no hs he n 0 (by omega)
def opG (s : List Int) (a : Nat) : Option (List Int) := if s.contains (a : Int) then none else some (ins (a : Int) s)
def clG (s : List Int) (a : Nat) : Option (List Int) := if s.contains (a : Int) ∧ 0 < (wo s (a : Int)).length then some (wo s (a : Int)) else none
def swG (s w : List Int) (b : Nat) : Option (List Int) := if s.contains (b : Int) then none else some (ins (b : Int) w)
def swsG (n : Nat) (s : List Int) (a : Nat) : List (List Int) := if s.contains (a : Int) then (List.range n).filterMap (swG s (wo s (a : Int))) else []
theorem fm_one {α : Type} (g : Nat → Option α) (a : Nat) : [a].filterMap g = (g a).toList := by
 rw [List.filterMap_cons]
 cases g a <;> rfl
theorem swF_eq (n : Nat) (s w : List Int) (acc : List (List Int)) : swF n s w acc = acc ++ (List.range n).filterMap (swG s w) := by
 unfold swF
 induction n with
 | zero => simp
 | succ n ih =>
  rw [foldl_range_succ, ih, List.range_succ, List.filterMap_append, ← List.append_assoc, fm_one]
  cases hc : s.contains (n : Int) with
  | true =>
   have e : swG s w n = none := by unfold swG; rw [hc]; rfl
   rw [e, if_pos rfl]
   exact (List.append_nil _).symm
  | false =>
   have e : swG s w n = some (ins (n : Int) w) := by unfold swG; rw [hc]; rfl
   rw [e, if_neg (by simp)]
   rfl
theorem mvs_eq (n : Nat) (s : List Int) : ∀ k, (List.range k).foldl (mvStep n s) ([], [], []) = ((List.range k).filterMap (opG s), (List.range k).filterMap (clG s), (List.range k).flatMap (swsG n s))
 | 0 => rfl
 | k + 1 => by
  rw [foldl_range_succ, mvs_eq n s k, List.range_succ, List.filterMap_append, List.filterMap_append, List.flatMap_append]
  unfold mvStep
  cases hc : s.contains (k : Int) with
  | true =>
   simp only [if_true, swF_eq]
   have h1 : [k].filterMap (opG s) = [] := by
    have : opG s k = none := by unfold opG; rw [hc]; rfl
    rw [fm_one, this]
    rfl
   have h3 : [k].flatMap (swsG n s) = (List.range n).filterMap (swG s (wo s (k : Int))) := by
    have : swsG n s k = (List.range n).filterMap (swG s (wo s (k : Int))) := by unfold swsG; rw [hc]; rfl
    rw [List.flatMap_cons, List.flatMap_nil, List.append_nil, this]
   rw [h1, h3, List.append_nil]
   by_cases hp : 0 < (wo s (k : Int)).length
   ·have h2 : [k].filterMap (clG s) = [wo s (k : Int)] := by
     have : clG s k = some (wo s (k : Int)) := by unfold clG; rw [if_pos ⟨hc, hp⟩]
     rw [fm_one, this]
     rfl
    rw [h2, if_pos hp]
   ·have h2 : [k].filterMap (clG s) = [] := by
     have : clG s k = none := by unfold clG; rw [if_neg fun h => hp h.2]
     rw [fm_one, this]
     rfl
    rw [h2, if_neg hp, List.append_nil]
  | false =>
   simp only [Bool.false_eq_true, if_false]
   have h1 : [k].filterMap (opG s) = [ins (k : Int) s] := by
    have : opG s k = some (ins (k : Int) s) := by unfold opG; rw [hc]; rfl
    rw [fm_one, this]
    rfl
   have h2 : [k].filterMap (clG s) = [] := by
    have : clG s k = none := by unfold clG; rw [hc]; simp
    rw [fm_one, this]
    rfl
   have h3 : [k].flatMap (swsG n s) = [] := by
    have : swsG n s k = [] := by unfold swsG; rw [hc]; rfl
    rw [List.flatMap_cons, List.flatMap_nil, List.append_nil, this]
   rw [h1, h2, h3, List.append_nil, List.append_nil]
def bet (q : List Int → Bool) (x : Option (List Int)) : Option (List Int) := match x with
 | some m => bif q m then some m else none
 | none => none
theorem find_fm (g : Nat → Option (List Int)) (q : List Int → Bool) : ∀ l : List Nat, (l.filterMap g).find? q = l.findSome? fun a => bet q (g a)
 | [] => rfl
 | a :: l => by
  rw [List.filterMap_cons, List.findSome?_cons]
  cases ha : g a with
  | none =>
   show (l.filterMap g).find? q = l.findSome? fun a => bet q (g a)
   exact find_fm g q l
  | some m =>
   show (m :: l.filterMap g).find? q = _
   rw [List.find?_cons]
   cases hq : q m with
   | true => simp only [bet, hq, cond_true]
   | false =>
    simp only [bet, hq, cond_false]
    exact find_fm g q l
theorem find_flat (g : Nat → List (List Int)) (q : List Int → Bool) : ∀ l : List Nat, (l.flatMap g).find? q = l.findSome? fun a => (g a).find? q
 | [] => rfl
 | a :: l => by
  rw [List.flatMap_cons, List.find?_append, List.findSome?_cons, find_flat g q l]
  cases (g a).find? q <;> rfl
theorem rise_ext : ∀ {l m : List Int}, l.Pairwise (· < ·) → m.Pairwise (· < ·) → (∀ x, x ∈ l ↔ x ∈ m) → l = m
 | [], [], _, _, _ => rfl
 | [], y :: m, _, _, h => by have := (h y).2 (by simp); cases this
 | x :: l, [], _, _, h => by have := (h x).1 (by simp); cases this
 | x :: l, y :: m, h1, h2, h => by
  obtain ⟨a1, a2⟩ := List.pairwise_cons.1 h1
  obtain ⟨b1, b2⟩ := List.pairwise_cons.1 h2
  have e : x = y := by
   rcases List.mem_cons.1 ((h x).1 (by simp)) with e | hx
   ·exact e
   ·rcases List.mem_cons.1 ((h y).2 (by simp)) with e | hy
    ·exact e.symm
    ·have := b1 x hx
     have := a1 y hy
     omega
  subst e
  rw [rise_ext a2 b2 fun z => ?_]
  constructor
  ·intro hz
   rcases List.mem_cons.1 ((h z).1 (List.mem_cons_of_mem _ hz)) with e | hz'
   ·have := a1 z hz; omega
   ·exact hz'
  ·intro hz
   rcases List.mem_cons.1 ((h z).2 (List.mem_cons_of_mem _ hz)) with e | hz'
   ·have := b1 z hz; omega
   ·exact hz'
theorem ris_range {n : Nat} {s : List Int} (h : ris n s) : s = ((List.range n).filter fun a : Nat => s.contains (a : Int)).map fun a : Nat => (a : Int) := by
 refine rise_ext h.2 ?_ fun x => ?_
 ·rw [List.pairwise_map]
  exact (List.pairwise_lt_range.filter _).imp fun h => by omega
 ·constructor
  ·intro hx
   have hb := h.1 x hx
   refine List.mem_map.2 ⟨x.toNat, List.mem_filter.2 ⟨List.mem_range.2 (by omega), ?_⟩, by omega⟩
   rw [show ((x.toNat : Nat) : Int) = x by omega]
   exact List.contains_iff_mem.2 hx
  ·intro hx
   obtain ⟨a, ha, rfl⟩ := List.mem_map.1 hx
   exact List.contains_iff_mem.1 (List.mem_filter.1 ha).2
theorem findSome_filter {α : Type} (p : Nat → Bool) (h : Int → Option α) : ∀ l : List Nat, ((l.filter p).map fun a : Nat => (a : Int)).findSome? h = l.findSome? fun a => if p a then h (a : Int) else none
 | [] => rfl
 | a :: l => by
  rw [List.filter_cons, List.findSome?_cons]
  cases hp : p a with
  | true =>
   simp only [if_true, List.map_cons, List.findSome?_cons]
   cases h (a : Int) with
   | some m => rfl
   | none => exact findSome_filter p h l
  | false =>
   simp only [Bool.false_eq_true, if_false]
   exact findSome_filter p h l
theorem wo_length {s : List Int} (hp : s.Pairwise (· < ·)) {a : Int} (ha : a ∈ s) : (wo s a).length + 1 = s.length := by
 induction s with
 | nil => cases ha
 | cons x s ih =>
  obtain ⟨h1, h2⟩ := List.pairwise_cons.1 hp
  unfold wo
  rw [List.filter_cons]
  by_cases e : x = a
  ·subst e
   have hf : s.filter (fun y => y != x) = s := List.filter_eq_self.2 fun y hy => by
    have := h1 y hy
    simp
    omega
   simp [hf]
  ·have hm : a ∈ s := by
    rcases List.mem_cons.1 ha with h | h
    ·exact absurd h.symm e
    ·exact h
   have hb : (x != a) = true := by simpa using e
   have := ih h2 hm
   unfold wo at this
   rw [hb, if_pos rfl, List.length_cons, List.length_cons, this]
def opB (t : List Int → Bool) (s : List Int) (a : Nat) : Option (List Int) := bet t (opG s a)
def clB (t : List Int → Bool) (s : List Int) (x : Int) : Option (List Int) := if 1 < s.length then bet t (some (wo s x)) else none
def swB (t : List Int → Bool) (n : Nat) (s : List Int) (x : Int) : Option (List Int) := (List.range n).findSome? fun b => bet t (swG s (wo s x) b)
theorem better_parts {n : Nat} {s : List Int} (h : ris n s) (t : List Int → Bool) : (movesOf n s).find? t = (((List.range n).findSome? (opB t s)).or (s.findSome? (clB t s))).or (s.findSome? (swB t n s)) := by
 have e := mvs_eq n s n
 have h2 : s.findSome? (clB t s) = (List.range n).findSome? fun a => bet t (clG s a) := by
  have h0 := findSome_filter (fun a : Nat => s.contains (a : Int)) (clB t s) (List.range n)
  rw [← ris_range h] at h0
  rw [h0]
  congr 1
  funext a
  unfold clB clG
  cases hc : s.contains (a : Int) with
  | false => simp [bet]
  | true =>
   have hl := wo_length h.2 (List.contains_iff_mem.1 hc)
   by_cases h1 : 1 < s.length
   ·rw [if_pos rfl, if_pos h1, if_pos ⟨rfl, by omega⟩]
   ·rw [if_pos rfl, if_neg h1, if_neg (by omega)]
    rfl
 have h3 : s.findSome? (swB t n s) = (List.range n).findSome? fun a => (swsG n s a).find? t := by
  have h0 := findSome_filter (fun a : Nat => s.contains (a : Int)) (swB t n s) (List.range n)
  rw [← ris_range h] at h0
  rw [h0]
  congr 1
  funext a
  unfold swB swsG
  cases hc : s.contains (a : Int) with
  | false => simp
  | true =>
   rw [if_pos rfl, if_pos rfl, find_fm]
 unfold movesOf mvs
 rw [e, List.find?_append, List.find?_append, find_fm, find_fm, find_flat, h2, h3]
 rfl
def ltB (o : List Int) (ds : List (List Int)) (T : Int) (m : List Int) : Bool := decide (totF o ds m < T)
theorem better1_eq {o m : List Int} {ds : List (List Int)} (hf : Fld o ds) (hm : ris o.length m) (h0 : m ≠ []) (T : Int) :
  F_zk m o ds T = some (bif ltB o ds T m then .inr (m, (o, (ds, T))) else .inl (m, (o, (ds, T)))) := by
 have hp := List.length_pos_iff.2 h0
 have e : wif o ds m = some (totF o ds m) := total_eq hf (hm.places hf.len) hp
 unfold F_zk T_zk ltB
 rw [Tr.ev_c, e, Option.bind_some, Tr.ev_t, Tr.ev_g, decide_eq_true hp, cond_true]
 cases decide (totF o ds m < T) <;> rfl
theorem ins_ne (x : Int) (l : List Int) : ins x l ≠ [] := fun e => by have := eins_len x l; rw [e] at this; simp at this
theorem mv0_eq {o s : List Int} {ds : List (List Int)} (hf : Fld o ds) (hs : ris o.length s) (T : Int) :
  wmw (s, ((bits s : Int), (((o.length : Nat) : Int), ((o.length : Nat) : Int)))) (0, (o, (ds, T))) = some (((List.range o.length).findSome? (opB (ltB o ds T) s)).elim (.inl (o, (ds, T))) fun m => .inr (o, (ds, (T, m)))) := by
 have h7 := hf.len
 have h := iter_first (f := fun v => (wcp (s, ((bits s : Int), (((o.length : Nat) : Int), ((o.length : Nat) : Int)))) v).ev) (n := o.length) (opB (ltB o ds T) s) (fun i => ((i : Int), (o, (ds, T)))) (fun m => .inr (o, (ds, (T, m)))) (.inl (o, (ds, T)))
  (fun i hi => by
   have e1 := bagHas_eq h7 hs (a := (i : Int)) (by omega) (by omega)
   have hlt : (i : Int) < ((o.length : Nat) : Int) := by omega
   have hw : IntKind.wrap .i64 ((i : Int) + 1) = ((i + 1 : Nat) : Int) := by rw [wrap64 (by omega) (by omega)]; rfl
   unfold opB opG wcp
   dsimp only
   rw [Tr.ev_t, decide_eq_true hlt, cond_true, Tr.ev_c, e1, Option.bind_some, Tr.ev_t, hw]
   cases hc : s.contains (i : Int) with
   | true => rfl
   | false =>
    have hn := not_contains hc
    have e2 := bagPut_eq h7 hs (a := (i : Int)) (by omega) (by omega) hn
    unfold orB at e2
    have e3 := better1_eq hf (hs.ins (a := (i : Int)) (by omega) (by omega) hn) (ins_ne _ _) T
    have g0 : (0 : Int) ≤ (i : Int) := by omega
    rw [Bool.not_false, cond_true, Tr.ev_g, decide_eq_true g0, cond_true, Tr.ev_c, e2, Option.bind_some, Tr.ev_c, e3, Option.bind_some]
    simp only [Bool.false_eq_true, if_false, bet]
    cases ltB o ds T (ins (i : Int) s) <;> rfl)
  (by
   have hlt : ¬ ((o.length : Nat) : Int) < ((o.length : Nat) : Int) := by omega
   unfold wcp
   dsimp only
   rw [Tr.ev_t, decide_eq_false hlt, cond_false, Tr.ev_l])
 exact h
theorem findSome_getD {α : Type} (h : Int → Option α) (s : List Int) : (List.range s.length).findSome? (fun i => h (s.getD i 0)) = s.findSome? h := by
 induction s with
 | nil => rfl
 | cons x s ih =>
  rw [List.length_cons, List.range_succ_eq_map, List.findSome?_cons, List.findSome?_cons, List.findSome?_map]
  cases hx : h x with
  | some m => simp [hx]
  | none =>
   have h1 : h ((x :: s).getD 0 0) = none := hx
   rw [h1]
   exact ih
theorem mv2_im {o s : List Int} {ds : List (List Int)} (hf : Fld o ds) (hs : ris o.length s) (T : Int) :
  wmx (s, ((bits s : Int), (((o.length : Nat) : Int), (s, ((s.length : Nat) : Int))))) (0, (o, (ds, T))) = some ((s.findSome? (clB (ltB o ds T) s)).elim (.inl (o, (ds, T))) fun m => .inr (o, (ds, (T, m)))) := by
 have h7 := hf.len
 have hsl := hs.len
 rw [← findSome_getD]
 have h := iter_first (f := fun v => (wcq (s, ((bits s : Int), (((o.length : Nat) : Int), (s, ((s.length : Nat) : Int))))) v).ev) (n := s.length) (fun i => clB (ltB o ds T) s (s.getD i 0)) (fun i => ((i : Int), (o, (ds, T)))) (fun m => .inr (o, (ds, (T, m)))) (.inl (o, (ds, T)))
  (fun i hi => by
   have hlt : (i : Int) < ((s.length : Nat) : Int) := by omega
   have hw : IntKind.wrap .i64 ((i : Int) + 1) = ((i + 1 : Nat) : Int) := by rw [wrap64 (by omega) (by omega)]; rfl
   have hin := inR_nat hi
   have hm := getD_mem (d := 0) hi
   have hb := hs.1 _ hm
   unfold clB wcq
   dsimp only
   rw [Tr.ev_t, decide_eq_true hlt, cond_true, Tr.ev_g, hin, cond_true, Tr.ev_t, hw, Int.toNat_natCast]
   by_cases h1 : 1 < s.length
   ·have h1' : (1 : Int) < ((s.length : Nat) : Int) := by omega
    have e2 := bagCut_eq h7 hs hb.1 (by omega)
    unfold anB at e2
    have hl := wo_length hs.2 hm
    have e3 := better1_eq hf (hs.wo (s.getD i 0)) (List.length_pos_iff.1 (by omega)) T
    rw [decide_eq_true h1', cond_true, Tr.ev_g, decide_eq_true hb.1, cond_true, Tr.ev_c, e2, Option.bind_some, Tr.ev_c, e3, Option.bind_some, if_pos h1]
    simp only [bet]
    cases ltB o ds T (wo s (s.getD i 0)) <;> rfl
   ·have h1' : ¬ (1 : Int) < ((s.length : Nat) : Int) := by omega
    rw [decide_eq_false h1', cond_false, if_neg h1]
    rfl)
  (by
   have hlt : ¬ ((s.length : Nat) : Int) < ((s.length : Nat) : Int) := by omega
   unfold wcq
   dsimp only
   rw [Tr.ev_t, decide_eq_false hlt, cond_false, Tr.ev_l])
 exact h
theorem mv6_im {o s : List Int} {ds : List (List Int)} (hf : Fld o ds) (hs : ris o.length s) (T : Int) {a : Int} (ha : a ∈ s) (k : (List (Int)) × ((Int) × ((Int) × ((Int) × ((List (Int)) × ((Int) × ((Int) × (Int)))))))) (k1 : k.1 = s) (k2 : k.2.1 = (bits s : Int)) (k3 : k.2.2.2.1 = a) (k4 : k.2.2.2.2.2.2.2 = ((o.length : Nat) : Int)) :
  wmy k (0, (o, (ds, T))) = some ((swB (ltB o ds T) o.length s a).elim (.inl (o, (ds, T))) fun m => .inr (o, (ds, (T, m)))) := by
 have h7 := hf.len
 have hab := hs.1 a ha
 have h := iter_first (f := fun v => (wcr k v).ev) (n := o.length) (fun b => bet (ltB o ds T) (swG s (wo s a) b)) (fun i => ((i : Int), (o, (ds, T)))) (fun m => .inr (o, (ds, (T, m)))) (.inl (o, (ds, T)))
  (fun i hi => by
   have e1 := bagHas_eq h7 hs (a := (i : Int)) (by omega) (by omega)
   have hlt : (i : Int) < ((o.length : Nat) : Int) := by omega
   have hw : IntKind.wrap .i64 ((i : Int) + 1) = ((i + 1 : Nat) : Int) := by rw [wrap64 (by omega) (by omega)]; rfl
   unfold swG wcr
   dsimp only
   rw [k1, k2, k3, k4, Tr.ev_t, decide_eq_true hlt, cond_true, Tr.ev_c, e1, Option.bind_some, Tr.ev_t, hw]
   cases hc : s.contains (i : Int) with
   | true => rfl
   | false =>
    have hn := not_contains hc
    have e2 := swapped_eq h7 hs (a := a) (b := (i : Int)) (by omega) (by omega) (by omega) (by omega) hn
    have e3 := better1_eq hf ((hs.wo a).ins (a := (i : Int)) (by omega) (by omega) (wo_notin hn)) (ins_ne _ _) T
    rw [Bool.not_false, cond_true, Tr.ev_c, e2, Option.bind_some, Tr.ev_c, e3, Option.bind_some]
    simp only [Bool.false_eq_true, if_false, bet]
    cases ltB o ds T (ins (i : Int) (wo s a)) <;> rfl)
  (by
   have hlt : ¬ ((o.length : Nat) : Int) < ((o.length : Nat) : Int) := by omega
   unfold wcr
   dsimp only
   rw [k4, Tr.ev_t, decide_eq_false hlt, cond_false, Tr.ev_l])
 exact h
theorem mv4_im {o s : List Int} {ds : List (List Int)} (hf : Fld o ds) (hs : ris o.length s) (T : Int) :
  wmz (s, ((bits s : Int), (((o.length : Nat) : Int), (s, ((s.length : Nat) : Int))))) (0, (o, (ds, T))) = some ((s.findSome? (swB (ltB o ds T) o.length s)).elim (.inl (o, (ds, T))) fun m => .inr (o, (ds, (T, m)))) := by
 have h7 := hf.len
 have hsl := hs.len
 rw [← findSome_getD]
 have h := iter_first (f := fun v => (wcs (s, ((bits s : Int), (((o.length : Nat) : Int), (s, ((s.length : Nat) : Int))))) v).ev) (n := s.length) (fun i => swB (ltB o ds T) o.length s (s.getD i 0)) (fun i => ((i : Int), (o, (ds, T)))) (fun m => .inr (o, (ds, (T, m)))) (.inl (o, (ds, T)))
  (fun i hi => by
   have hlt : (i : Int) < ((s.length : Nat) : Int) := by omega
   have hw : IntKind.wrap .i64 ((i : Int) + 1) = ((i + 1 : Nat) : Int) := by rw [wrap64 (by omega) (by omega)]; rfl
   have hin := inR_nat hi
   have hm := getD_mem (d := 0) hi
   have e1 := mv6_im hf hs T hm (s, ((bits s : Int), (((o.length : Nat) : Int), ((s.getD i 0), (s, (((s.length : Nat) : Int), ((i : Int), ((o.length : Nat) : Int)))))))) rfl rfl rfl rfl
   unfold wcs
   dsimp only
   rw [Tr.ev_t, decide_eq_true hlt, cond_true, Tr.ev_g, hin, cond_true, Tr.ev_c, hw, Int.toNat_natCast, e1, Option.bind_some]
   cases swB (ltB o ds T) o.length s (s.getD i 0) <;> rfl)
  (by
   have hlt : ¬ ((s.length : Nat) : Int) < ((s.length : Nat) : Int) := by omega
   unfold wcs
   dsimp only
   rw [Tr.ev_t, decide_eq_false hlt, cond_false, Tr.ev_l])
 exact h
theorem moves_im {o s : List Int} {ds : List (List Int)} (hf : Fld o ds) (hs : ris o.length s) (T : Int) :
  F_zn o ds s o ds T = some (((movesOf o.length s).find? (ltB o ds T)).elim (.inl (o, (ds, T))) fun m => .inr (o, (ds, (T, m)))) := by
 have h7 := hf.len
 have e0 := bagOf_eq h7 hs
 have e1 := mv0_eq hf hs T
 have e2 := mv2_im hf hs T
 have e3 := mv4_im hf hs T
 rw [better_parts hs]
 unfold F_zn T_zn
 rw [Tr.ev_c, e0, Option.bind_some, Tr.ev_c, e1, Option.bind_some]
 cases (List.range o.length).findSome? (opB (ltB o ds T) s) with
 | some m => rfl
 | none =>
  simp only [Option.elim_none, ev_s_inl, Tr.ev_c]
  rw [e2, Option.bind_some]
  cases s.findSome? (clB (ltB o ds T) s) with
  | some m => rfl
  | none =>
   simp only [Option.elim_none, ev_s_inl, Tr.ev_c]
   rw [e3, Option.bind_some]
   cases s.findSome? (swB (ltB o ds T) o.length s) <;> rfl
theorem ibetter_eq {o s : List Int} {ds : List (List Int)} (hf : Fld o ds) (hs : ris o.length s) (h0 : s ≠ []) : F_zj o ds s = some (match betterOf o ds s with | some m => (true, m) | none => (false, [])) := by
 have h7 := hf.len
 have e : wif o ds s = some (totF o ds s) := total_eq hf (hs.places h7) (List.length_pos_iff.2 h0)
 have e1 := moves_im hf hs (totF o ds s)
 have e2 : (movesOf o.length s).find? (ltB o ds (totF o ds s)) = betterOf o ds s := rfl
 rw [e2] at e1
 unfold F_zj T_zj
 rw [Tr.ev_c, e, Option.bind_some, Tr.ev_c, e1, Option.bind_some]
 cases hb : betterOf o ds s with
 | none => rfl
 | some m =>
  have hp := List.length_pos_iff.2 (betterOf_some hs hb).2.1
  simp only [Option.elim_some, ev_s_inr, Tr.ev_g]
  rw [decide_eq_true hp]
  rfl
theorem iloc_run {o : List Int} {ds : List (List Int)} (hf : Fld o ds) : ∀ (m : Nat) {s : List Int} (many : Int), 0 ≤ many → many + (m : Int) ≤ 1000000000 → ris o.length s → s ≠ [] → totF o ds s ≤ (m : Int) →
  wcu (o, ds) (many, s) = some (many + ((locN o ds m s).1 : Int), (locN o ds m s).2) := by
 have out : ∀ {s : List Int} (many : Int), ris o.length s → s ≠ [] → betterOf o ds s = none → wcu (o, ds) (many, s) = some (many, s) := fun {s} many hs h0 hb => by
  have e1 := ibetter_eq hf hs h0
  rw [hb] at e1
  unfold wcu
  rw [iter_eq]
  unfold wct
  dsimp only
  rw [Tr.ev_c, e1]
  rfl
 intro m
 induction m with
 | zero =>
  intro s many h1 h2 hs h0 ht
  have hb : betterOf o ds s = none := by
   cases hb : betterOf o ds s with
   | none => rfl
   | some t =>
    obtain ⟨a, b, c⟩ := betterOf_some hs hb
    have := tot_in hf a b
    omega
  rw [out many hs h0 hb]
  simp [locN]
 | succ m ih =>
  intro s many h1 h2 hs h0 ht
  cases hb : betterOf o ds s with
  | none =>
   rw [out many hs h0 hb]
   simp [locN, hb]
  | some t =>
   obtain ⟨a, b, c⟩ := betterOf_some hs hb
   have e1 := ibetter_eq hf hs h0
   rw [hb] at e1
   have hw : IntKind.wrap .i64 (many + 1) = many + 1 := wrap64 (by omega) (by omega)
   have ih' := ih (s := t) (many + 1) (by omega) (by omega) a b (by omega)
   unfold wcu at ih' ⊢
   rw [iter_eq]
   have hst : (wct (o, ds) (many, s)).ev = some (.inl (many + 1, t)) := by
    unfold wct
    dsimp only
    rw [Tr.ev_c, e1, Option.bind_some, Tr.ev_t, hw]
    rfl
   rw [hst]
   simp only
   rw [ih']
   simp only [locN, hb, Option.some.injEq, Prod.mk.injEq, and_true]
   omega
theorem ilocal_eq {o : List Int} {ds : List (List Int)} (ho : Low1 o) (hd : Low2 ds) {s : List Int} (hs : Low1 s) : F_zw o ds s = some (bif openB o ds s then (((locOf o ds s).1 : Int), (true, (locOf o ds s).2)) else (0, (false, []))) := by
 have e1 := isOpened_eq ho hd hs
 unfold F_zw T_zw
 rw [Tr.ev_c, e1, Option.bind_some, Tr.ev_t]
 cases hb : openB o ds s with
 | false => rfl
 | true =>
  obtain ⟨hf, hp, h0⟩ := openB_iff hs hb
  have hr : ris o.length s := by
   unfold openB at hb
   simp only [Bool.and_eq_true] at hb
   exact ris_iff.1 hb.2.1
  have hne : s ≠ [] := List.length_pos_iff.1 h0
  have e2 : wce s = some s := by
   unfold Low1 at hs
   unfold wce cloneF
   rw [if_pos (by omega)]
  have e4 := iloc_run hf 103809717 (s := s) 0 (by omega) (by omega) hr hne (tot_in hf hr hne).2
  rw [Bool.not_true, cond_false, Tr.ev_c, e2, Option.bind_some, Tr.ev_c, e4, Option.bind_some, Tr.ev_l, cond_true, Int.zero_add]
  rfl
theorem ibest_eq {o : List Int} {ds : List (List Int)} (ho : Low1 o) (hd : Low2 ds) (hf : Fld o ds) : F_ze o ds = some (true, bestOf o ds) := by
 have hS := setsP hf.pos hf.len
 have hl := setsP_len hS hf.len
 have hne := sets_ne hf.pos hf.len
 obtain ⟨x, e1, e2, e3⟩ := hS.im
 have hxl : x.1.length = (setsOf o.length).length := by rw [← e3, permL_len]
 have hpos := List.length_pos_iff.2 hne
 have e4 := leastP_eq (x := x) e2 (by omega) (by omega) (p := fun h3_ => Option.bind (wif o ds h3_.1) fun y4_ => some y4_) (g := totF o ds) (fun s hs => by
  rw [e3] at hs
  obtain ⟨a, b⟩ := sets_ris hf.pos hf.len hs
  have e : wif o ds s = some (totF o ds s) := total_eq hf (a.places hf.len) (List.length_pos_iff.2 b)
  show Option.bind (wif o ds s) (fun y => some y) = _
  rw [e]
  rfl)
 unfold F_ze T_ze
 rw [Tr.ev_c, IsField_eq ho hd, fieldB_iff.2 hf, Option.bind_some, Tr.ev_t, Bool.not_true, cond_false, Tr.ev_c, e1, Option.bind_some, Tr.ev_c, e4, Option.bind_some, Tr.ev_l, e3]
 rfl
end Go.Proofs.YtnagpmhaddfgmaaGreat
