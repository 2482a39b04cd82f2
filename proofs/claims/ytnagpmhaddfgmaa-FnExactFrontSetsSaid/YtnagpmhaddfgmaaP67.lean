/-
 Plain laws: fronts, as both sides find them.
-/
import Derived.Test.YtnagpmhaddfgmaaP64
import Derived.Test.YtnagpmhaddfgmaaP65
import Derived.Test.YtnagpmhaddfgmaaP66
import Derived.Test.YtnagpmhaddfgmaaP8
import Derived.Test.YtnagpmhaddfgmaaP7
import Derived.Test.YtnagpmhaddfgmaaPM
namespace Go.Proofs.Ytnagpmhaddfgmaa
theorem wgr {n : Nat} (h7 : n ≤ 7) (hS : SetsP n) {s : List Int} (hs : s ∈ wbe n) : Places s n ∧ 0 < s.length ∧ wgo s := by
 obtain ⟨h1, h2, h3⟩ := hS.rising s hs
 have hl : wgo s := by unfold wgo; omega
 exact ⟨Places.of hl h1, h2, hl⟩
theorem walz {o : List Int} {ds : List (List Int)} (hf : Fld o ds) : 1 ≤ o.length ∧ o.length ≤ 7 := by
 have h1 := hf.len
 have h2 := hf.pos
 omega
def wek (o : List Int) (ds : List (List Int)) (a b : Int) : Bool := wht o ds && (wnw a 1 5 && wnw b 1 5)
theorem wfx {o : List Int} {ds : List (List Int)} {a b : Int} (h : wek o ds a b = true) : Fld o ds := by
 unfold wek at h
 simp only [Bool.and_eq_true] at h
 exact waar.1 h.1
theorem wagy {o : List Int} {ds : List (List Int)} (ho : wgo o) (hd : wsa ds) (a b : Int) : wakb o ds a b = some (wek o ds a b) := by
 unfold wakb wasz waka wasx wek
 simp (disch := omega) only [EV, wagp ho hd, wux]
 cases wht o ds <;> cases wnw a 1 5 <;> rfl
theorem waay {o : List Int} {ds : List (List Int)} (ho : wgo o) (hd : wsa ds) (a b : Int) : F_zx o ds a b = some (wek o ds a b) := by
 unfold F_zx T_zx F_zy T_zy wek
 simp (disch := omega) only [EV, waas ho hd, wja]
 cases wht o ds <;> cases wnw a 1 5 <;> rfl
def marksOf (o : List Int) (ds : List (List Int)) (a b : Int) : List MkF := (wbe o.length).map fun s => ((valueOf o ds s a, valueOf o ds s b), s)
def wdb (o : List Int) (ds : List (List Int)) (a b : Int) : List MkF := pk none (wdv leM (marksOf o ds a b))
theorem wve (o : List Int) (ds : List (List Int)) (a b : Int) : (marksOf o ds a b).length = (wbe o.length).length := by simp [marksOf]
theorem pk_len : ∀ (l : List MkF) (c : Option Int), (pk c l).length ≤ l.length
 | [], _ => Nat.le_refl _
 | m :: l, c => by
  simp only [pk]
  split
  ·have := pk_len l (some m.1.2); simp; omega
  ·have := pk_len l c; simp; omega
theorem wvf {o : List Int} {ds : List (List Int)} {a b : Int} {q : MkF} (h : q ∈ wdb o ds a b) : q.2 ∈ wbe o.length ∧ q.1 = (valueOf o ds q.2 a, valueOf o ds q.2 b) := by
 have h1 := (wnh (le := leM) (marksOf o ds a b)).mem_iff.1 (wgb _ _ q h).1
 obtain ⟨s, hs, rfl⟩ := List.mem_map.1 h1
 exact ⟨hs, rfl⟩
theorem wvg {o : List Int} {ds : List (List Int)} (hf : Fld o ds) (a b : Int) : (wdb o ds a b).length ≤ 128 := by
 obtain ⟨h1, h7⟩ := walz hf
 have := pk_len (wdv leM (marksOf o ds a b)) none
 rw [wak, wve] at this
 have h2 := wnk (waly h1 h7) h7
 unfold wdb
 omega
theorem wama (a b : Int) : F_za a b = some (if a < b then -1 else if b < a then 1 else 0) := by
 unfold F_za T_za
 have e : ∀ x, F_zc x = some false := fun x => by
  unfold F_zc T_zc
  simp only [Tr.ev_l, bne_self_eq_false]
 rw [Tr.ev_c, e, Option.bind_some, Tr.ev_c, e, Option.bind_some]
 simp only [Tr.ev_t, cond_false, Tr.ev_l]
 by_cases h1 : a < b
 ·rw [decide_eq_true h1, if_pos h1]
  rfl
 ·rw [decide_eq_false h1, if_neg h1]
  by_cases h2 : b < a
  ·rw [decide_eq_true h2, if_pos h2]
   rfl
  ·rw [decide_eq_false h2, if_neg h2]
   rfl
theorem or2 (a b : Int) : F_zb [a, b] = some (if a = 0 then b else a) := by
 unfold F_zb T_zb wamz
 have hl : (List.length [a, b] : Nat) = 2 := rfl
 have g0 : List.getD [a, b] (Int.toNat 0) 0 = a := rfl
 have g1 : List.getD [a, b] (Int.toNat 1) 0 = b := rfl
 have i0 : inR (0 : Int) 2 = true := rfl
 have i1 : inR (1 : Int) 2 = true := rfl
 have s0 : (weu ((0 : Int), ([a, b], (2 : Int))) 0).ev = if a = 0 then some (.inl 1) else some (.inr (.inr a)) := by
  by_cases h : a = 0
  ·subst h
   simp (disch := omega) only [EV, weu, hl, g0, i0, bne_self_eq_false, show ((0 : Int) < 2) = True by simp, Int.zero_add, if_true]
  ·have : (a != 0) = true := by simp [h]
   simp (disch := omega) only [EV, weu, hl, g0, i0, h, this, show ((0 : Int) < 2) = True by simp]
 have s1 : (weu ((0 : Int), ([a, b], (2 : Int))) 1).ev = if b = 0 then some (.inl 2) else some (.inr (.inr b)) := by
  by_cases h : b = 0
  ·subst h
   simp (disch := omega) only [EV, weu, hl, g1, i1, bne_self_eq_false, show ((1 : Int) < 2) = True by simp, if_true]
   rfl
  ·have : (b != 0) = true := by simp [h]
   simp (disch := omega) only [EV, weu, hl, g1, i1, h, this, show ((1 : Int) < 2) = True by simp]
 have s2 : (weu ((0 : Int), ([a, b], (2 : Int))) 2).ev = some (.inr (.inl ())) := by simp (disch := omega) only [EV, weu, Int.lt_irrefl]
 have e : iter (fun v => (weu ((0 : Int), ([a, b], (((List.length [a, b] : Nat) : Int)))) v).ev) 0 = if a = 0 then (if b = 0 then some (.inl ()) else some (.inr b)) else some (.inr a) := by
  show iter (fun v => (weu ((0 : Int), ([a, b], (2 : Int))) v).ev) 0 = _
  rw [wac, s0]
  by_cases h : a = 0
  ·rw [if_pos h, if_pos h]
   simp only
   rw [wac, s1]
   by_cases h2 : b = 0
   ·rw [if_pos h2, if_pos h2]
    simp only
    rw [wac, s2]
   ·rw [if_neg h2, if_neg h2]
  ·rw [if_neg h, if_neg h]
 rw [Tr.ev_c, e]
 by_cases h : a = 0
 ·rw [if_pos h, if_pos h]
  by_cases h2 : b = 0
  ·rw [if_pos h2, h2]; rfl
  ·rw [if_neg h2]; rfl
 ·rw [if_neg h, if_neg h]; rfl
def leK (p q : Int × Int) : Bool := decide (p.1 < q.1) || (decide (p.1 = q.1) && decide (p.2 ≤ q.2))
def leH (x y : Mk) : Bool := leK x.1 y.1
theorem wbex : TO leH := ⟨fun x y h => leM_to.tot (x.1, []) (y.1, []) h, fun x y z h1 h2 => leM_to.tr (x.1, []) (y.1, []) (z.1, []) h1 h2⟩
theorem waaz : CmpS leH (fun h14_ => Option.bind (F_ze h14_.1.1.1 h14_.1.1.2 h14_.1.2 h14_.2.1.1.1 h14_.2.1.1.2 h14_.2.1.2) fun y15_ => some y15_) := by
 intro x y
 have e : F_ze x.1.1 x.1.2 x.2 y.1.1 y.1.2 y.2 = some (if (if x.1.1 < y.1.1 then (-1 : Int) else if y.1.1 < x.1.1 then 1 else 0) = 0 then (if x.1.2 < y.1.2 then (-1 : Int) else if y.1.2 < x.1.2 then 1 else 0) else (if x.1.1 < y.1.1 then (-1 : Int) else if y.1.1 < x.1.1 then 1 else 0)) := by
  unfold F_ze T_ze
  simp (disch := omega) only [EV, show inR (0 : Int) 2 = true from rfl, show inR (1 : Int) 2 = true from rfl, wama, or2]
 refine ⟨_, by show Option.bind (F_ze x.1.1 x.1.2 x.2 y.1.1 y.1.2 y.2) _ = _; rw [e]; rfl, ?_⟩
 cases h : leH y x with
 | true =>
  have h : leM (y.1, []) (x.1, []) = true := h
  rw [wjd] at h
  simp only at h
  rw [show (!true) = false from rfl, decide_eq_false_iff_not]
  repeat' split
  all_goals omega
 | false =>
  have h : leM (y.1, []) (x.1, []) = false := h
  rw [wnl] at h
  simp only at h
  rw [show (!false) = true from rfl, decide_eq_true_eq]
  repeat' split
  all_goals omega
theorem wyv {α β : Type} {le : α → α → Bool} {le' : β → β → Bool} {f : β → α} (h : ∀ x y, le (f x) (f y) = le' x y) (x : β) : ∀ l : List β, (wdu le' x l).map f = wdu le (f x) (l.map f)
 | [] => rfl
 | a :: l => by
  simp only [wdu, List.map_cons, h]
  cases le' a x with
  | true => simp only [List.map_cons, wyv h x l]
  | false => rfl
theorem wagz {α β : Type} {le : α → α → Bool} {le' : β → β → Bool} {f : β → α} (h : ∀ x y, le (f x) (f y) = le' x y) : ∀ R L : List β, (mrg le' L R).map f = mrg le (L.map f) (R.map f)
 | [], _ => rfl
 | x :: R, L => by
  show (mrg le' (wdu le' x L) R).map f = mrg le (wdu le (f x) (L.map f)) (R.map f)
  rw [wagz h R, wyv h]
theorem wyw {α β : Type} {le : α → α → Bool} {le' : β → β → Bool} {f : β → α} (h : ∀ x y, le (f x) (f y) = le' x y) (l : List β) : (wdv le' l).map f = wdv le (l.map f) := wagz h l []
def pkG {α : Type} : Option Int → List ((Int × Int) × α) → List ((Int × Int) × α)
 | _, [] => []
 | c, m :: l => if wjn c m.1.2 = true then m :: pkG (some m.1.2) l else pkG c l
theorem wqj {α β : Type} (f : (Int × Int) × α → (Int × Int) × β) (hf : ∀ q, (f q).1 = q.1) : ∀ (l : List ((Int × Int) × α)) (c : Option Int), (pkG c l).map f = pkG c (l.map f)
 | [], _ => rfl
 | m :: l, c => by
  simp only [pkG, List.map_cons, hf]
  split
  ·rw [List.map_cons, wqj f hf l]
  ·exact wqj f hf l c
theorem waod : ∀ (l : List MkF) (c : Option Int), pkG c l = pk c l
 | [], _ => rfl
 | m :: l, c => by simp only [pkG, pk, waod l]
theorem wvh {α : Type} : ∀ (l : List ((Int × Int) × α)) (c : Option Int), (pkG c l).Sublist l
 | [], _ => List.Sublist.refl _
 | m :: l, c => by
  simp only [pkG]
  split
  ·exact (wvh l _).cons_cons m
  ·exact (wvh l c).cons m
def lstG {α : Type} (acc : List ((Int × Int) × α)) : Option Int := acc.getLast?.map fun q => q.1.2
theorem wsv {α : Type} (acc : List ((Int × Int) × α)) (m : (Int × Int) × α) : lstG (acc ++ [m]) = some m.1.2 := by simp [lstG]
theorem wqk {α : Type} : ∀ (s acc : List ((Int × Int) × α)), s.foldl (fun acc m => if wjn (lstG acc) m.1.2 = true then acc ++ [m] else acc) acc = acc ++ pkG (lstG acc) s
 | [], acc => by simp [pkG]
 | m :: s, acc => by
  rw [List.foldl_cons]
  simp only [pkG]
  split
  ·rw [wqk s, wsv]; simp
  ·rw [wqk s]
abbrev hr0 : wlp := ((0, .slice none 0 0), [])
theorem waha (o : List Int) (ds : List (List Int)) (x : wlp) (k : Int) : F_zn o ds x k = F_zm o ds x.2 k := rfl
theorem wamb {o : List Int} {ds : List (List Int)} (hf : Fld o ds) (a b : Int) (L : List wlp) (hL : ∀ x ∈ L, Places x.2 o.length ∧ 0 < x.2.length) (hn : L.length ≤ 128) :
  wca (a, (b, (L, (((L.length : Nat) : Int), (o, ds))))) ((0 : Int), ([] : List Mk)) = some (L.map fun x => ((valueOf o ds x.2 a, valueOf o ds x.2 b), x)) := by
 have h := wej (f := fun v => (wav (a, (b, (L, (((L.length : Nat) : Int), (o, ds))))) v).ev) L hr0 (mk := fun i (acc : List Mk) => ((i : Int), acc)) (I := fun i acc => acc.length = i)
  (g := fun acc x => acc ++ [((valueOf o ds x.2 a, valueOf o ds x.2 b), x)]) (fin := fun acc => acc) (s0 := []) rfl
  (fun i acc hi hI => by
   obtain ⟨p1, p2⟩ := hL _ (getD_mem (d := hr0) hi)
   have hb : (acc.length + List.length [((valueOf o ds (L.getD i hr0).2 a, valueOf o ds (L.getD i hr0).2 b), L.getD i hr0)]) * 40 ≤ 140737488355328 := by
    simp only [List.length_singleton]
    omega
   refine ⟨?_, by simp [hI]⟩
   simp (disch := omega) only [EV, wav, hi, waha, walu hf p1 p2, hb]
   rfl)
  (fun acc _ => by simp (disch := omega) only [EV, wav, Nat.lt_irrefl])
 have e : wca (a, (b, (L, (((L.length : Nat) : Int), (o, ds))))) ((0 : Int), ([] : List Mk)) = _ := h.1
 rw [e]
 have key : ∀ (l : List wlp) (acc : List Mk), l.foldl (fun acc x => acc ++ [((valueOf o ds x.2 a, valueOf o ds x.2 b), x)]) acc = acc ++ l.map fun x => ((valueOf o ds x.2 a, valueOf o ds x.2 b), x) := by
  intro l
  induction l with
  | nil => intro acc; simp
  | cons s l ih => intro acc; rw [List.foldl_cons, ih]; simp
 rw [key, List.nil_append]
theorem wamc (s : List Mk) (hs : s.length ≤ 1000000) : wcb (((s.length : Nat) : Int), s) ((0 : Int), (([] : List (Int × Int)), ([] : List wlp))) = some ((pkG none s).map (·.1), (pkG none s).map (·.2)) := by
 have h := wej (f := fun v => (wan (((s.length : Nat) : Int), s) v).ev) s mk0 (mk := fun i (acc : List Mk) => ((i : Int), (acc.map (·.1), acc.map (·.2)))) (I := fun i acc => acc.length ≤ i)
  (g := fun acc m => if wjn (lstG acc) m.1.2 = true then acc ++ [m] else acc) (fin := fun acc => (acc.map (·.1), acc.map (·.2))) (s0 := []) (Nat.le_refl _)
  (fun i acc hi hI => by
   have hb1 : (List.length (acc.map (·.1)) + List.length [(s.getD i mk0).1]) * 16 ≤ 140737488355328 := by simp only [List.length_map, List.length_singleton]; omega
   have hb2 : (List.length (acc.map (·.2)) + List.length [(s.getD i mk0).2]) * 24 ≤ 140737488355328 := by simp only [List.length_map, List.length_singleton]; omega
   refine ⟨?_, by
    split
    ·rw [List.length_append, List.length_singleton]; omega
    ·omega⟩
   rcases List.eq_nil_or_concat acc with rfl | ⟨q, z, rfl⟩
   ·have hu : wjn (lstG ([] : List Mk)) (s.getD i mk0).1.2 = true := rfl
    rw [if_pos hu]
    have hz : (((List.length (List.map (·.1) ([] : List Mk)) : Nat) : Int) == 0) = true := rfl
    simp (disch := omega) only [EV, wan, hi, hz, hb1, hb2]
    rfl
   ·simp only [List.concat_eq_append] at hI hb1 hb2 ⊢
    rw [wsv]
    have hlen : List.length (List.map (·.1) (q ++ [z])) = q.length + 1 := by simp
    have hz : (((q.length + 1 : Nat) : Int) == 0) = false := beq_eq_false_iff_ne.2 (by omega)
    have hw : ((q.length + 1 : Nat) : Int) - 1 = (q.length : Int) := by omega
    have hq : q.length < q.length + 1 := by omega
    have hq2 : q.length < 1000001 := by simp at hI; omega
    have hg : (List.map (·.1) (q ++ [z])).getD q.length (0, 0) = z.1 := by
     rw [List.map_append, List.map_singleton]
     exact wce _ _ _ _ (by simp)
    rw [hlen] at hb1
    by_cases hc : (s.getD i mk0).1.2 < z.1.2
    ·have hu : wjn (some z.1.2) (s.getD i mk0).1.2 = true := by simp only [wjn, decide_eq_true_eq]; exact hc
     rw [if_pos hu]
     simp (disch := omega) only [EV, wan, hi, hlen, hz, hw, hq, hg, hc, hb1, hb2, show inR (1 : Int) 2 = true from rfl]
     simp
    ·have hu : ¬ wjn (some z.1.2) (s.getD i mk0).1.2 = true := by simp only [wjn, decide_eq_true_eq]; exact hc
     rw [if_neg hu]
     simp (disch := omega) only [EV, wan, hi, hlen, hz, hw, hq, hg, hc, show inR (1 : Int) 2 = true from rfl]
     rfl)
  (fun acc _ => by simp (disch := omega) only [EV, wan, Nat.lt_irrefl])
 have e : wcb (((s.length : Nat) : Int), s) ((0 : Int), (([] : List (Int × Int)), ([] : List wlp))) = _ := h.1
 rw [e, wqk, List.nil_append]
 rfl
theorem wvi {o : List Int} {ds : List (List Int)} (hf : Fld o ds) (a b : Int) : F_zd o ds a b = some ((wdb o ds a b).map (·.1), (wdb o ds a b).map (·.2)) := by
 obtain ⟨h1, h7⟩ := walz hf
 have hS := waly h1 h7
 have hl := wnk hS h7
 obtain ⟨ix, l, e1, e2, e3, e4⟩ := hS.im
 have hixl : ix.length = (wbe o.length).length := by rw [← e2]; simp [wgc]
 have hrows : (List.range ix.length).map (rowOf ix l) = wbe o.length := by
  rw [← e2]
  refine List.ext_getElem (by simp [wgc]) fun j hj _ => ?_
  simp only [List.length_map, List.length_range] at hj
  simp [wgc, rowOf, List.getD_eq_getElem?_getD, hj]
 have hrow : ∀ j, j < ix.length → rowOf ix l j ∈ wbe o.length := fun j hj => by
  rw [← hrows]
  exact List.mem_map.2 ⟨j, List.mem_range.2 hj, rfl⟩
 obtain ⟨base, hbase⟩ : ∃ base : List ((Int × Int) × Nat), base = (List.range ix.length).map fun j => ((valueOf o ds (rowOf ix l j) a, valueOf o ds (rowOf ix l j) b), j) := ⟨_, rfl⟩
 have hsnd : base.map (·.2) = List.range ix.length := by rw [hbase, List.map_map]; simp [Function.comp_def]
 have hblen : base.length = ix.length := by rw [hbase]; simp
 obtain ⟨leI, hleI⟩ : ∃ leI : (Int × Int) × Nat → (Int × Int) × Nat → Bool, leI = fun x y => leK x.1 y.1 := ⟨_, rfl⟩
 obtain ⟨q, hq⟩ : ∃ q, q = pkG none (wdv leI base) := ⟨_, rfl⟩
 have hperm : ((wdv leI base).map (·.2)).Perm (List.range ix.length) := by rw [← hsnd]; exact (wnh base).map _
 have hsub : (q.map (·.2)).Sublist ((wdv leI base).map (·.2)) := by rw [hq]; exact (wvh _ _).map _
 have hz : FrontR F_zz whn o ds a b (q.map (·.1), (q.map (·.2)).map (rowOf ix l)) := by
  refine ⟨ix, l, q.map (·.2), e1, e4, e3, (hperm.nodup_iff.2 List.nodup_range).sublist hsub, fun j hj => List.mem_range.1 (hperm.mem_iff.1 (hsub.subset hj)), rfl, fun hds _ => ?_⟩
  obtain ⟨L, hL⟩ : ∃ L, L = wdc ix l hds := ⟨_, rfl⟩
  have hLl : L.length = ix.length := by rw [hL]; simp [wdc]
  have hmem : ∀ x ∈ L, Places x.2 o.length ∧ 0 < x.2.length := fun x hx => by
   rw [hL] at hx
   obtain ⟨j, hj, rfl⟩ := List.mem_map.1 hx
   obtain ⟨p1, p2, _⟩ := wgr h7 hS (hrow j (List.mem_range.1 hj))
   exact ⟨p1, p2⟩
  have f0 := wamb hf a b L hmem (by omega)
  have hm : (L.map fun x => ((valueOf o ds x.2 a, valueOf o ds x.2 b), x)) = base.map fun q => (q.1, (((q.2, hOf ix hds q.2), rowOf ix l q.2) : wlp)) := by
   rw [hL, hbase]
   unfold wdc
   rw [List.map_map, List.map_map]
   rfl
  rw [hm] at f0
  have f1 := wqg wbex waaz (base.map fun q => (q.1, (((q.2, hOf ix hds q.2), rowOf ix l q.2) : wlp))) (by rw [List.length_map]; omega)
  rw [← wyw (le' := leI) (by rw [hleI]; intro x y; rfl) base] at f1
  have f2 := wamc ((wdv leI base).map fun q => (q.1, (((q.2, hOf ix hds q.2), rowOf ix l q.2) : wlp))) (by rw [List.length_map, wak]; omega)
  rw [← wqj (fun q => (q.1, (((q.2, hOf ix hds q.2), rowOf ix l q.2) : wlp))) (fun _ => rfl), ← hq] at f2
  rw [← hL]
  unfold whn
  simp (disch := omega) only [EV, f0, f1, f2]
  rw [List.map_map, List.map_map, List.map_map]
  rfl
 have hfr : q.map (fun x => ((x.1, rowOf ix l x.2) : MkF)) = wdb o ds a b := by
  rw [hq, wqj (fun x => ((x.1, rowOf ix l x.2) : MkF)) (fun _ => rfl), wyw (le := leM) (by rw [hleI]; intro x y; rfl), waod]
  unfold wdb marksOf
  rw [hbase, ← hrows, List.map_map, List.map_map]
  rfl
 have he : F_zd o ds a b = wlq F_zz whn o ds a b := rfl
 rw [he, wads hz, ← hfr, List.map_map, List.map_map, List.map_map]
 rfl
theorem web (a b c d : Int) : waah a b c d = some (decide (a ≤ c) && decide (b ≤ d) && !decide ((a, b) = (c, d))) := by
 unfold waah waun
 by_cases h1 : a ≤ c
 ·by_cases h2 : b ≤ d
  ·simp (disch := omega) only [EV, show inR (0 : Int) 2 = true from rfl, show inR (1 : Int) 2 = true from rfl, h1, h2]
   congr 1
   congr 1
   by_cases h3 : a = c
   ·by_cases h4 : b = d <;> simp [h3, h4]
   ·simp [h3]
  ·simp (disch := omega) only [EV, show inR (0 : Int) 2 = true from rfl, show inR (1 : Int) 2 = true from rfl, h1, h2]
 ·simp (disch := omega) only [EV, show inR (0 : Int) 2 = true from rfl, h1]
theorem wahb (F : List MkF) {i : Nat} (h : i < F.length) : (F.map (·.1)).getD i (0, 0) = (F.getD i mkf0).1 := by
 rw [List.getD_eq_getElem?_getD, List.getElem?_map, List.getD_eq_getElem?_getD, List.getElem?_eq_getElem h]; rfl
theorem wazc (F : List MkF) {i : Nat} (h : i < F.length) : (F.map (·.2)).getD i [] = (F.getD i mkf0).2 := by
 rw [List.getD_eq_getElem?_getD, List.getElem?_map, List.getD_eq_getElem?_getD, List.getElem?_eq_getElem h]; rfl
theorem wazd (F : List MkF) (x : MkF) (hF : F.length ≤ 1000000) (P' : List (Int × Int)) (L' : List (List Int)) :
  wafi (F.map (·.1), (F.map (·.2), (x.2, (false, (x.1.1, (x.1.2, (P', L'))))))) 0 = some (bif F.all (fun q => !(decide (q.1.1 ≤ x.1.1) && decide (q.1.2 ≤ x.1.2))) then .inl () else .inr ()) := by
 have h := whp (f := fun v => (wfn (F.map (·.1), (F.map (·.2), (x.2, (false, (x.1.1, (x.1.2, (P', L'))))))) v).ev) (n := F.length) (mk := fun i => (i : Int)) (p := fun i => !(decide ((F.getD i mkf0).1.1 ≤ x.1.1) && decide ((F.getD i mkf0).1.2 ≤ x.1.2))) (yes := .inl ()) (no := .inr ())
  (fun i hi _ => by
   have hl : (F.map (·.1)).length = F.length := List.length_map _
   have hg := wahb F hi
   generalize F.getD i mkf0 = q at hg
   by_cases h1 : q.1.1 = x.1.1 ∧ q.1.2 = x.1.2
   ·have e1 : (q.1.1 == x.1.1) = true := by simp [h1.1]
    have e2 : (q.1.2 == x.1.2) = true := by simp [h1.2]
    have e3 : (!(decide (q.1.1 ≤ x.1.1) && decide (q.1.2 ≤ x.1.2))) = false := by simp [h1.1, h1.2]
    simp (disch := omega) only [EV, wfn, hl, hi, hg, e1, e2, e3]
   ·have e0 : ((q.1.1 == x.1.1) && (q.1.2 == x.1.2)) = false := by
     by_cases h2 : q.1.1 = x.1.1
     ·have : ¬ q.1.2 = x.1.2 := fun h => h1 ⟨h2, h⟩
      simp [this]
     ·simp [h2]
    have e3 : (!decide ((q.1.1, q.1.2) = (x.1.1, x.1.2))) = true := by
     rw [Bool.not_eq_true', decide_eq_false_iff_not]
     exact fun h => h1 ⟨congrArg Prod.fst h, congrArg Prod.snd h⟩
    by_cases h3 : q.1.1 ≤ x.1.1
    ·by_cases h4 : q.1.2 ≤ x.1.2
     ·simp (disch := omega) only [EV, wfn, hl, hi, hg, e0, web, h3, h4, e3]
     ·simp (disch := omega) only [EV, wfn, hl, hi, hg, e0, web, h3, h4]
      rfl
    ·simp (disch := omega) only [EV, wfn, hl, hi, hg, e0, web, h3]
     rfl)
  (by
   have hl : (F.map (·.1)).length = F.length := List.length_map _
   simp (disch := omega) only [EV, wfn, hl, Nat.lt_irrefl])
 rw [wmw F mkf0 (fun q => !(decide (q.1.1 ≤ x.1.1) && decide (q.1.2 ≤ x.1.2)))] at h
 exact h
theorem wql (x : MkF) : ∀ (F : List MkF) (p : Bool), (wnt x p F).length ≤ F.length + 1
 | [], p => by simp only [wnt]; split <;> simp
 | q :: F, p => by
  have h1 := wql x F p
  have h2 := wql x F true
  simp only [wnt]
  split
  ·simp; omega
  ·split
   ·simp; have := insP_true_len x F; omega
   ·simp; omega
where insP_true_len (x : MkF) : ∀ F : List MkF, (wnt x true F).length ≤ F.length
 | [] => by simp [wnt]
 | q :: F => by
  have := insP_true_len x F
  simp only [wnt]
  split
  ·simp; omega
  ·simp; omega
end Go.Proofs.Ytnagpmhaddfgmaa
