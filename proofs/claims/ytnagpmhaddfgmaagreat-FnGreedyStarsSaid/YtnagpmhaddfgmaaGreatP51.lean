/-
 Plain laws: moves, local openings and best sets as the program finds them.
-/
import Derived.Test.YtnagpmhaddfgmaaGreatP50
namespace Go.Proofs.YtnagpmhaddfgmaaGreat
theorem wqc {V R : Type} {f : V → Option (V ⊕ R)} {α : Type} {n : Nat} (h : Nat → Option α) (mk : Nat → V) (yes : α → R) (no : R)
  (hs : ∀ i, i < n → f (mk i) = some (match h i with | some m => .inr (yes m) | none => .inl (mk (i + 1)))) (he : f (mk n) = some (.inr no)) :
  ∀ k i, i + k = n → iter f (mk i) = some (((List.range' i k).findSome? h).elim no yes) := by
 intro k
 induction k with
 | zero =>
  intro i hi
  have : i = n := by omega
  subst this
  rw [wau, he]
  rfl
 | succ k ih =>
  intro i hi
  rw [wau, hs i (by omega), List.range'_succ, List.findSome?_cons]
  cases h i with
  | some m => rfl
  | none => exact ih (i + 1) (by omega)
theorem whe {V R : Type} {f : V → Option (V ⊕ R)} {α : Type} {n : Nat} (h : Nat → Option α) (mk : Nat → V) (yes : α → R) (no : R)
  (hs : ∀ i, i < n → f (mk i) = some (match h i with | some m => .inr (yes m) | none => .inl (mk (i + 1)))) (he : f (mk n) = some (.inr no)) :
  iter f (mk 0) = some (((List.range n).findSome? h).elim no yes) := by
 rw [List.range_eq_range']
 exact wqc h mk yes no hs he n 0 (by omega)
def opG (s : List Int) (a : Nat) : Option (List Int) := if s.contains (a : Int) then none else some (ins (a : Int) s)
def clG (s : List Int) (a : Nat) : Option (List Int) := if s.contains (a : Int) ∧ 0 < (wo s (a : Int)).length then some (wo s (a : Int)) else none
def swG (s w : List Int) (b : Nat) : Option (List Int) := if s.contains (b : Int) then none else some (ins (b : Int) w)
def swsG (n : Nat) (s : List Int) (a : Nat) : List (List Int) := if s.contains (a : Int) then (List.range n).filterMap (swG s (wo s (a : Int))) else []
theorem wra {α : Type} (g : Nat → Option α) (a : Nat) : [a].filterMap g = (g a).toList := by
 rw [List.filterMap_cons]
 cases g a <;> rfl
theorem wbwk (n : Nat) (s w : List Int) (acc : List (List Int)) : swF n s w acc = acc ++ (List.range n).filterMap (swG s w) := by
 unfold swF
 induction n with
 | zero => simp
 | succ n ih =>
  rw [wal, ih, List.range_succ, List.filterMap_append, ← List.append_assoc, wra]
  cases hc : s.contains (n : Int) with
  | true =>
   have e : swG s w n = none := by unfold swG; rw [hc]; rfl
   rw [e, if_pos rfl]
   exact (List.append_nil _).symm
  | false =>
   have e : swG s w n = some (ins (n : Int) w) := by unfold swG; rw [hc]; rfl
   rw [e, if_neg (by simp)]
   rfl
theorem wxk (n : Nat) (s : List Int) : ∀ k, (List.range k).foldl (wfb n s) ([], [], []) = ((List.range k).filterMap (opG s), (List.range k).filterMap (clG s), (List.range k).flatMap (swsG n s))
 | 0 => rfl
 | k + 1 => by
  rw [wal, wxk n s k, List.range_succ, List.filterMap_append, List.filterMap_append, List.flatMap_append]
  unfold wfb
  cases hc : s.contains (k : Int) with
  | true =>
   simp only [if_true, wbwk]
   have h1 : [k].filterMap (opG s) = [] := by
    have : opG s k = none := by unfold opG; rw [hc]; rfl
    rw [wra, this]
    rfl
   have h3 : [k].flatMap (swsG n s) = (List.range n).filterMap (swG s (wo s (k : Int))) := by
    have : swsG n s k = (List.range n).filterMap (swG s (wo s (k : Int))) := by unfold swsG; rw [hc]; rfl
    rw [List.flatMap_cons, List.flatMap_nil, List.append_nil, this]
   rw [h1, h3, List.append_nil]
   by_cases hp : 0 < (wo s (k : Int)).length
   ·have h2 : [k].filterMap (clG s) = [wo s (k : Int)] := by
     have : clG s k = some (wo s (k : Int)) := by unfold clG; rw [if_pos ⟨hc, hp⟩]
     rw [wra, this]
     rfl
    rw [h2, if_pos hp]
   ·have h2 : [k].filterMap (clG s) = [] := by
     have : clG s k = none := by unfold clG; rw [if_neg fun h => hp h.2]
     rw [wra, this]
     rfl
    rw [h2, if_neg hp, List.append_nil]
  | false =>
   simp only [Bool.false_eq_true, if_false]
   have h1 : [k].filterMap (opG s) = [ins (k : Int) s] := by
    have : opG s k = some (ins (k : Int) s) := by unfold opG; rw [hc]; rfl
    rw [wra, this]
    rfl
   have h2 : [k].filterMap (clG s) = [] := by
    have : clG s k = none := by unfold clG; rw [hc]; simp
    rw [wra, this]
    rfl
   have h3 : [k].flatMap (swsG n s) = [] := by
    have : swsG n s k = [] := by unfold swsG; rw [hc]; rfl
    rw [List.flatMap_cons, List.flatMap_nil, List.append_nil, this]
   rw [h1, h2, h3, List.append_nil, List.append_nil]
def bet (q : List Int → Bool) (x : Option (List Int)) : Option (List Int) := match x with
 | some m => bif q m then some m else none
 | none => none
theorem wpp (g : Nat → Option (List Int)) (q : List Int → Bool) : ∀ l : List Nat, (l.filterMap g).find? q = l.findSome? fun a => bet q (g a)
 | [] => rfl
 | a :: l => by
  rw [List.filterMap_cons, List.findSome?_cons]
  cases ha : g a with
  | none =>
   show (l.filterMap g).find? q = l.findSome? fun a => bet q (g a)
   exact wpp g q l
  | some m =>
   show (m :: l.filterMap g).find? q = _
   rw [List.find?_cons]
   cases hq : q m with
   | true => simp only [bet, hq, cond_true]
   | false =>
    simp only [bet, hq, cond_false]
    exact wpp g q l
theorem wxl (g : Nat → List (List Int)) (q : List Int → Bool) : ∀ l : List Nat, (l.flatMap g).find? q = l.findSome? fun a => (g a).find? q
 | [] => rfl
 | a :: l => by
  rw [List.flatMap_cons, List.find?_append, List.findSome?_cons, wxl g q l]
  cases (g a).find? q <;> rfl
theorem wafs : ∀ {l m : List Int}, l.Pairwise (· < ·) → m.Pairwise (· < ·) → (∀ x, x ∈ l ↔ x ∈ m) → l = m
 | [], [], _, _, _ => rfl
 | [], y :: m, _, _, h => by have := (h y).2 (by simp); cases this
 | x :: l, [], _, _, h => by have := (h x).1 (by simp); cases this
 | x :: l, y :: m, h1, h2, h => by
  obtain ⟨a1, a2⟩ := List.pairwise_cons.1 h1
  obtain ⟨b1, b2⟩ := List.pairwise_cons.1 h2
  have e : x = y := by
   rcases List.mem_cons.1 ((h x).1 (by simp)) with e | hx
   ·exact e
   ·rcases List.mem_cons.1 ((h y).2 (by simp)) with e | hy
    ·exact e.symm
    ·have := b1 x hx
     have := a1 y hy
     omega
  subst e
  rw [wafs a2 b2 fun z => ?_]
  constructor
  ·intro hz
   rcases List.mem_cons.1 ((h z).1 (List.mem_cons_of_mem _ hz)) with e | hz'
   ·have := a1 z hz; omega
   ·exact hz'
  ·intro hz
   rcases List.mem_cons.1 ((h z).2 (List.mem_cons_of_mem _ hz)) with e | hz'
   ·have := b1 z hz; omega
   ·exact hz'
theorem wxm {n : Nat} {s : List Int} (h : ris n s) : s = ((List.range n).filter fun a : Nat => s.contains (a : Int)).map fun a : Nat => (a : Int) := by
 refine wafs h.2 ?_ fun x => ?_
 ·rw [List.pairwise_map]
  exact (List.pairwise_lt_range.filter _).imp fun h => by omega
 ·constructor
  ·intro hx
   have hb := h.1 x hx
   refine List.mem_map.2 ⟨x.toNat, List.mem_filter.2 ⟨List.mem_range.2 (by omega), ?_⟩, by omega⟩
   rw [show ((x.toNat : Nat) : Int) = x by omega]
   exact List.contains_iff_mem.2 hx
  ·intro hx
   obtain ⟨a, ha, rfl⟩ := List.mem_map.1 hx
   exact List.contains_iff_mem.1 (List.mem_filter.1 ha).2
theorem wct {α : Type} (p : Nat → Bool) (h : Int → Option α) : ∀ l : List Nat, ((l.filter p).map fun a : Nat => (a : Int)).findSome? h = l.findSome? fun a => if p a then h (a : Int) else none
 | [] => rfl
 | a :: l => by
  rw [List.filter_cons, List.findSome?_cons]
  cases hp : p a with
  | true =>
   simp only [if_true, List.map_cons, List.findSome?_cons]
   cases h (a : Int) with
   | some m => rfl
   | none => exact wct p h l
  | false =>
   simp only [Bool.false_eq_true, if_false]
   exact wct p h l
theorem wxn {s : List Int} (hp : s.Pairwise (· < ·)) {a : Int} (ha : a ∈ s) : (wo s a).length + 1 = s.length := by
 induction s with
 | nil => cases ha
 | cons x s ih =>
  obtain ⟨h1, h2⟩ := List.pairwise_cons.1 hp
  unfold wo
  rw [List.filter_cons]
  by_cases e : x = a
  ·subst e
   have hf : s.filter (fun y => y != x) = s := List.filter_eq_self.2 fun y hy => by
    have := h1 y hy
    simp
    omega
   simp [hf]
  ·have hm : a ∈ s := by
    rcases List.mem_cons.1 ha with h | h
    ·exact absurd h.symm e
    ·exact h
   have hb : (x != a) = true := by simpa using e
   have := ih h2 hm
   unfold wo at this
   rw [hb, if_pos rfl, List.length_cons, List.length_cons, this]
def opB (t : List Int → Bool) (s : List Int) (a : Nat) : Option (List Int) := bet t (opG s a)
def clB (t : List Int → Bool) (s : List Int) (x : Int) : Option (List Int) := if 1 < s.length then bet t (some (wo s x)) else none
def swB (t : List Int → Bool) (n : Nat) (s : List Int) (x : Int) : Option (List Int) := (List.range n).findSome? fun b => bet t (swG s (wo s x) b)
theorem wxo {n : Nat} {s : List Int} (h : ris n s) (t : List Int → Bool) : (wbm n s).find? t = (((List.range n).findSome? (opB t s)).or (s.findSome? (clB t s))).or (s.findSome? (swB t n s)) := by
 have e := wxk n s n
 have h2 : s.findSome? (clB t s) = (List.range n).findSome? fun a => bet t (clG s a) := by
  have h0 := wct (fun a : Nat => s.contains (a : Int)) (clB t s) (List.range n)
  rw [← wxm h] at h0
  rw [h0]
  congr 1
  funext a
  unfold clB clG
  cases hc : s.contains (a : Int) with
  | false => simp [bet]
  | true =>
   have hl := wxn h.2 (List.contains_iff_mem.1 hc)
   by_cases h1 : 1 < s.length
   ·rw [if_pos rfl, if_pos h1, if_pos ⟨rfl, by omega⟩]
   ·rw [if_pos rfl, if_neg h1, if_neg (by omega)]
    rfl
 have h3 : s.findSome? (swB t n s) = (List.range n).findSome? fun a => (swsG n s a).find? t := by
  have h0 := wct (fun a : Nat => s.contains (a : Int)) (swB t n s) (List.range n)
  rw [← wxm h] at h0
  rw [h0]
  congr 1
  funext a
  unfold swB swsG
  cases hc : s.contains (a : Int) with
  | false => simp
  | true =>
   rw [if_pos rfl, if_pos rfl, wpp]
 unfold wbm mvs
 rw [e, List.find?_append, List.find?_append, wpp, wpp, wxl, h2, h3]
 rfl
def ltB (o : List Int) (ds : List (List Int)) (T : Int) (m : List Int) : Bool := decide (wco o ds m < T)
theorem wli {o m : List Int} {ds : List (List Int)} (hf : Fld o ds) (hm : ris o.length m) (h0 : m ≠ []) (T : Int) :
  F_zg m o ds T = some (bif ltB o ds T m then .inr (m, (o, (ds, T))) else .inl (m, (o, (ds, T)))) := by
 have hp := List.length_pos_iff.2 h0
 have e : wzn o ds m = some (wco o ds m) := wjb hf (hm.places hf.len) hp
 unfold F_zg T_zg ltB
 rw [Tr.ev_c, e, Option.bind_some, Tr.ev_t, Tr.ev_g, decide_eq_true hp, cond_true]
 cases decide (wco o ds m < T) <;> rfl
theorem wbcm (x : Int) (l : List Int) : ins x l ≠ [] := fun e => by have := wtd x l; rw [e] at this; simp at this
theorem wbwl {o s : List Int} {ds : List (List Int)} (hf : Fld o ds) (hs : ris o.length s) (T : Int) :
  wbaw (s, ((bits s : Int), (((o.length : Nat) : Int), ((o.length : Nat) : Int)))) (0, (o, (ds, T))) = some (((List.range o.length).findSome? (opB (ltB o ds T) s)).elim (.inl (o, (ds, T))) fun m => .inr (o, (ds, (T, m)))) := by
 have h7 := hf.len
 have h := whe (f := fun v => (wvy (s, ((bits s : Int), (((o.length : Nat) : Int), ((o.length : Nat) : Int)))) v).ev) (n := o.length) (opB (ltB o ds T) s) (fun i => ((i : Int), (o, (ds, T)))) (fun m => .inr (o, (ds, (T, m)))) (.inl (o, (ds, T)))
  (fun i hi => by
   have e1 := wxf h7 hs (a := (i : Int)) (by omega) (by omega)
   have hlt : (i : Int) < ((o.length : Nat) : Int) := by omega
   have hw : IntKind.wrap .i64 ((i : Int) + 1) = ((i + 1 : Nat) : Int) := by rw [wrap64 (by omega) (by omega)]; rfl
   unfold opB opG wvy
   dsimp only
   rw [Tr.ev_t, decide_eq_true hlt, cond_true, Tr.ev_c, e1, Option.bind_some, Tr.ev_t, hw]
   cases hc : s.contains (i : Int) with
   | true => rfl
   | false =>
    have hn := wbd hc
    have e2 := warm h7 hs (a := (i : Int)) (by omega) (by omega) hn
    unfold orB at e2
    have e3 := wli hf (hs.ins (a := (i : Int)) (by omega) (by omega) hn) (wbcm _ _) T
    have g0 : (0 : Int) ≤ (i : Int) := by omega
    rw [Bool.not_false, cond_true, Tr.ev_g, decide_eq_true g0, cond_true, Tr.ev_c, e2, Option.bind_some, Tr.ev_c, e3, Option.bind_some]
    simp only [Bool.false_eq_true, if_false, bet]
    cases ltB o ds T (ins (i : Int) s) <;> rfl)
  (by
   have hlt : ¬ ((o.length : Nat) : Int) < ((o.length : Nat) : Int) := by omega
   unfold wvy
   dsimp only
   rw [Tr.ev_t, decide_eq_false hlt, cond_false, Tr.ev_l])
 exact h
theorem wji {α : Type} (h : Int → Option α) (s : List Int) : (List.range s.length).findSome? (fun i => h (s.getD i 0)) = s.findSome? h := by
 induction s with
 | nil => rfl
 | cons x s ih =>
  rw [List.length_cons, List.range_succ_eq_map, List.findSome?_cons, List.findSome?_cons, List.findSome?_map]
  cases hx : h x with
  | some m => simp [hx]
  | none =>
   have h1 : h ((x :: s).getD 0 0) = none := hx
   rw [h1]
   exact ih
theorem wbwm {o s : List Int} {ds : List (List Int)} (hf : Fld o ds) (hs : ris o.length s) (T : Int) :
  wbax (s, ((bits s : Int), (((o.length : Nat) : Int), (s, ((s.length : Nat) : Int))))) (0, (o, (ds, T))) = some ((s.findSome? (clB (ltB o ds T) s)).elim (.inl (o, (ds, T))) fun m => .inr (o, (ds, (T, m)))) := by
 have h7 := hf.len
 have hsl := hs.len
 rw [← wji]
 have h := whe (f := fun v => (wvz (s, ((bits s : Int), (((o.length : Nat) : Int), (s, ((s.length : Nat) : Int))))) v).ev) (n := s.length) (fun i => clB (ltB o ds T) s (s.getD i 0)) (fun i => ((i : Int), (o, (ds, T)))) (fun m => .inr (o, (ds, (T, m)))) (.inl (o, (ds, T)))
  (fun i hi => by
   have hlt : (i : Int) < ((s.length : Nat) : Int) := by omega
   have hw : IntKind.wrap .i64 ((i : Int) + 1) = ((i + 1 : Nat) : Int) := by rw [wrap64 (by omega) (by omega)]; rfl
   have hin := wcq hi
   have hm := getD_mem (d := 0) hi
   have hb := hs.1 _ hm
   unfold clB wvz
   dsimp only
   rw [Tr.ev_t, decide_eq_true hlt, cond_true, Tr.ev_g, hin, cond_true, Tr.ev_t, hw, Int.toNat_natCast]
   by_cases h1 : 1 < s.length
   ·have h1' : (1 : Int) < ((s.length : Nat) : Int) := by omega
    have e2 := warn h7 hs hb.1 (by omega)
    unfold anB at e2
    have hl := wxn hs.2 hm
    have e3 := wli hf (hs.wo (s.getD i 0)) (List.length_pos_iff.1 (by omega)) T
    rw [decide_eq_true h1', cond_true, Tr.ev_g, decide_eq_true hb.1, cond_true, Tr.ev_c, e2, Option.bind_some, Tr.ev_c, e3, Option.bind_some, if_pos h1]
    simp only [bet]
    cases ltB o ds T (wo s (s.getD i 0)) <;> rfl
   ·have h1' : ¬ (1 : Int) < ((s.length : Nat) : Int) := by omega
    rw [decide_eq_false h1', cond_false, if_neg h1]
    rfl)
  (by
   have hlt : ¬ ((s.length : Nat) : Int) < ((s.length : Nat) : Int) := by omega
   unfold wvz
   dsimp only
   rw [Tr.ev_t, decide_eq_false hlt, cond_false, Tr.ev_l])
 exact h
theorem wbwn {o s : List Int} {ds : List (List Int)} (hf : Fld o ds) (hs : ris o.length s) (T : Int) {a : Int} (ha : a ∈ s) (k : (List (Int)) × ((Int) × ((Int) × ((Int) × ((List (Int)) × ((Int) × ((Int) × (Int)))))))) (k1 : k.1 = s) (k2 : k.2.1 = (bits s : Int)) (k3 : k.2.2.2.1 = a) (k4 : k.2.2.2.2.2.2.2 = ((o.length : Nat) : Int)) :
  wbay k (0, (o, (ds, T))) = some ((swB (ltB o ds T) o.length s a).elim (.inl (o, (ds, T))) fun m => .inr (o, (ds, (T, m)))) := by
 have h7 := hf.len
 have hab := hs.1 a ha
 have h := whe (f := fun v => (wwa k v).ev) (n := o.length) (fun b => bet (ltB o ds T) (swG s (wo s a) b)) (fun i => ((i : Int), (o, (ds, T)))) (fun m => .inr (o, (ds, (T, m)))) (.inl (o, (ds, T)))
  (fun i hi => by
   have e1 := wxf h7 hs (a := (i : Int)) (by omega) (by omega)
   have hlt : (i : Int) < ((o.length : Nat) : Int) := by omega
   have hw : IntKind.wrap .i64 ((i : Int) + 1) = ((i + 1 : Nat) : Int) := by rw [wrap64 (by omega) (by omega)]; rfl
   unfold swG wwa
   dsimp only
   rw [k1, k2, k3, k4, Tr.ev_t, decide_eq_true hlt, cond_true, Tr.ev_c, e1, Option.bind_some, Tr.ev_t, hw]
   cases hc : s.contains (i : Int) with
   | true => rfl
   | false =>
    have hn := wbd hc
    have e2 := wahz h7 hs (a := a) (b := (i : Int)) (by omega) (by omega) (by omega) (by omega) hn
    have e3 := wli hf ((hs.wo a).ins (a := (i : Int)) (by omega) (by omega) (wha hn)) (wbcm _ _) T
    rw [Bool.not_false, cond_true, Tr.ev_c, e2, Option.bind_some, Tr.ev_c, e3, Option.bind_some]
    simp only [Bool.false_eq_true, if_false, bet]
    cases ltB o ds T (ins (i : Int) (wo s a)) <;> rfl)
  (by
   have hlt : ¬ ((o.length : Nat) : Int) < ((o.length : Nat) : Int) := by omega
   unfold wwa
   dsimp only
   rw [k4, Tr.ev_t, decide_eq_false hlt, cond_false, Tr.ev_l])
 exact h
theorem wbwo {o s : List Int} {ds : List (List Int)} (hf : Fld o ds) (hs : ris o.length s) (T : Int) :
  wbaz (s, ((bits s : Int), (((o.length : Nat) : Int), (s, ((s.length : Nat) : Int))))) (0, (o, (ds, T))) = some ((s.findSome? (swB (ltB o ds T) o.length s)).elim (.inl (o, (ds, T))) fun m => .inr (o, (ds, (T, m)))) := by
 have h7 := hf.len
 have hsl := hs.len
 rw [← wji]
 have h := whe (f := fun v => (wwb (s, ((bits s : Int), (((o.length : Nat) : Int), (s, ((s.length : Nat) : Int))))) v).ev) (n := s.length) (fun i => swB (ltB o ds T) o.length s (s.getD i 0)) (fun i => ((i : Int), (o, (ds, T)))) (fun m => .inr (o, (ds, (T, m)))) (.inl (o, (ds, T)))
  (fun i hi => by
   have hlt : (i : Int) < ((s.length : Nat) : Int) := by omega
   have hw : IntKind.wrap .i64 ((i : Int) + 1) = ((i + 1 : Nat) : Int) := by rw [wrap64 (by omega) (by omega)]; rfl
   have hin := wcq hi
   have hm := getD_mem (d := 0) hi
   have e1 := wbwn hf hs T hm (s, ((bits s : Int), (((o.length : Nat) : Int), ((s.getD i 0), (s, (((s.length : Nat) : Int), ((i : Int), ((o.length : Nat) : Int)))))))) rfl rfl rfl rfl
   unfold wwb
   dsimp only
   rw [Tr.ev_t, decide_eq_true hlt, cond_true, Tr.ev_g, hin, cond_true, Tr.ev_c, hw, Int.toNat_natCast, e1, Option.bind_some]
   cases swB (ltB o ds T) o.length s (s.getD i 0) <;> rfl)
  (by
   have hlt : ¬ ((s.length : Nat) : Int) < ((s.length : Nat) : Int) := by omega
   unfold wwb
   dsimp only
   rw [Tr.ev_t, decide_eq_false hlt, cond_false, Tr.ev_l])
 exact h
theorem wazu {o s : List Int} {ds : List (List Int)} (hf : Fld o ds) (hs : ris o.length s) (T : Int) :
  F_zk o ds s o ds T = some (((wbm o.length s).find? (ltB o ds T)).elim (.inl (o, (ds, T))) fun m => .inr (o, (ds, (T, m)))) := by
 have h7 := hf.len
 have e0 := wafp h7 hs
 have e1 := wbwl hf hs T
 have e2 := wbwm hf hs T
 have e3 := wbwo hf hs T
 rw [wxo hs]
 unfold F_zk T_zk
 rw [Tr.ev_c, e0, Option.bind_some, Tr.ev_c, e1, Option.bind_some]
 cases (List.range o.length).findSome? (opB (ltB o ds T) s) with
 | some m => rfl
 | none =>
  simp only [Option.elim_none, wafb, Tr.ev_c]
  rw [e2, Option.bind_some]
  cases s.findSome? (clB (ltB o ds T) s) with
  | some m => rfl
  | none =>
   simp only [Option.elim_none, wafb, Tr.ev_c]
   rw [e3, Option.bind_some]
   cases s.findSome? (swB (ltB o ds T) o.length s) <;> rfl
theorem wlj {o s : List Int} {ds : List (List Int)} (hf : Fld o ds) (hs : ris o.length s) (h0 : s ≠ []) : F_zf o ds s = some (match wah o ds s with | some m => (true, m) | none => (false, [])) := by
 have h7 := hf.len
 have e : wzn o ds s = some (wco o ds s) := wjb hf (hs.places h7) (List.length_pos_iff.2 h0)
 have e1 := wazu hf hs (wco o ds s)
 have e2 : (wbm o.length s).find? (ltB o ds (wco o ds s)) = wah o ds s := rfl
 rw [e2] at e1
 unfold F_zf T_zf
 rw [Tr.ev_c, e, Option.bind_some, Tr.ev_c, e1, Option.bind_some]
 cases hb : wah o ds s with
 | none => rfl
 | some m =>
  have hp := List.length_pos_iff.2 (wbq hs hb).2.1
  simp only [Option.elim_some, wafc, Tr.ev_g]
  rw [decide_eq_true hp]
  rfl
theorem wazv {o : List Int} {ds : List (List Int)} (hf : Fld o ds) : ∀ (m : Nat) {s : List Int} (many : Int), 0 ≤ many → many + (m : Int) ≤ 1000000000 → ris o.length s → s ≠ [] → wco o ds s ≤ (m : Int) →
  wwe (o, ds) (many, s) = some (many + ((wqa o ds m s).1 : Int), (wqa o ds m s).2) := by
 have out : ∀ {s : List Int} (many : Int), ris o.length s → s ≠ [] → wah o ds s = none → wwe (o, ds) (many, s) = some (many, s) := fun {s} many hs h0 hb => by
  have e1 := wlj hf hs h0
  rw [hb] at e1
  unfold wwe
  rw [wau]
  unfold wwc
  dsimp only
  rw [Tr.ev_c, e1]
  rfl
 intro m
 induction m with
 | zero =>
  intro s many h1 h2 hs h0 ht
  have hb : wah o ds s = none := by
   cases hb : wah o ds s with
   | none => rfl
   | some t =>
    obtain ⟨a, b, c⟩ := wbq hs hb
    have := wgm hf a b
    omega
  rw [out many hs h0 hb]
  simp [wqa]
 | succ m ih =>
  intro s many h1 h2 hs h0 ht
  cases hb : wah o ds s with
  | none =>
   rw [out many hs h0 hb]
   simp [wqa, hb]
  | some t =>
   obtain ⟨a, b, c⟩ := wbq hs hb
   have e1 := wlj hf hs h0
   rw [hb] at e1
   have hw : IntKind.wrap .i64 (many + 1) = many + 1 := wrap64 (by omega) (by omega)
   have ih' := ih (s := t) (many + 1) (by omega) (by omega) a b (by omega)
   unfold wwe at ih' ⊢
   rw [wau]
   have hst : (wwc (o, ds) (many, s)).ev = some (.inl (many + 1, t)) := by
    unfold wwc
    dsimp only
    rw [Tr.ev_c, e1, Option.bind_some, Tr.ev_t, hw]
    rfl
   rw [hst]
   simp only
   rw [ih']
   simp only [wqa, hb, Option.some.injEq, Prod.mk.injEq, and_true]
   omega
theorem waru {o : List Int} {ds : List (List Int)} (ho : wdp o) (hd : wul ds) {s : List Int} (hs : wdp s) : F_zy o ds s = some (bif wcx o ds s then (((wgn o ds s).1 : Int), (true, (wgn o ds s).2)) else (0, (false, []))) := by
 have e1 := whz ho hd hs
 unfold F_zy T_zy
 rw [Tr.ev_c, e1, Option.bind_some, Tr.ev_t]
 cases hb : wcx o ds s with
 | false => rfl
 | true =>
  obtain ⟨hf, hp, h0⟩ := wfa hs hb
  have hr : ris o.length s := by
   unfold wcx at hb
   simp only [Bool.and_eq_true] at hb
   exact wgl.1 hb.2.1
  have hne : s ≠ [] := List.length_pos_iff.1 h0
  have e2 : wahh s = some s := by
   unfold wdp at hs
   unfold wahh wqs
   rw [if_pos (by omega)]
  have e4 := wazv hf 103809717 (s := s) 0 (by omega) (by omega) hr hne (wgm hf hr hne).2
  rw [Bool.not_true, cond_false, Tr.ev_c, e2, Option.bind_some, Tr.ev_c, e4, Option.bind_some, Tr.ev_l, cond_true, Int.zero_add]
  rfl
theorem wazw {o : List Int} {ds : List (List Int)} (ho : wdp o) (hd : wul ds) (hf : Fld o ds) : F_zd o ds = some (true, whl o ds) := by
 have hS := wbpb hf.pos hf.len
 have hl := warc hS hf.len
 have hne := waan hf.pos hf.len
 obtain ⟨x, e1, e2, e3⟩ := hS.im
 have hxl : x.1.length = (wdu o.length).length := by rw [← e3, wwv]
 have hpos := List.length_pos_iff.2 hne
 have e4 := ward (x := x) e2 (by omega) (by omega) (p := fun h3_ => Option.bind (wzn o ds h3_.1) fun y4_ => some y4_) (g := wco o ds) (fun s hs => by
  rw [e3] at hs
  obtain ⟨a, b⟩ := wmm hf.pos hf.len hs
  have e : wzn o ds s = some (wco o ds s) := wjb hf (a.places hf.len) (List.length_pos_iff.2 b)
  show Option.bind (wzn o ds s) (fun y => some y) = _
  rw [e]
  rfl)
 unfold F_zd T_zd
 rw [Tr.ev_c, wgx ho hd, wcf.2 hf, Option.bind_some, Tr.ev_t, Bool.not_true, cond_false, Tr.ev_c, e1, Option.bind_some, Tr.ev_c, e4, Option.bind_some, Tr.ev_l, e3]
 rfl
end Go.Proofs.YtnagpmhaddfgmaaGreat
