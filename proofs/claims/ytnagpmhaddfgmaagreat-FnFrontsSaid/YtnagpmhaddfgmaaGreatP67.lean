/-
 Plain laws: fronts, as both sides find them.
-/
import Derived.Test.YtnagpmhaddfgmaaGreatP64
import Derived.Test.YtnagpmhaddfgmaaGreatP65
import Derived.Test.YtnagpmhaddfgmaaGreatP66
import Derived.Test.YtnagpmhaddfgmaaGreatP8
import Derived.Test.YtnagpmhaddfgmaaGreatP7
import Derived.Test.YtnagpmhaddfgmaaGreatPM
namespace Go.Proofs.YtnagpmhaddfgmaaGreat
theorem setP_places {n : Nat} (h7 : n ≤ 7) (hS : SetsP n) {s : List Int} (hs : s ∈ setsOf n) : Places s n ∧ 0 < s.length ∧ Low1 s := by
 obtain ⟨h1, h2, h3⟩ := hS.rising s hs
 have hl : Low1 s := by unfold Low1; omega
 exact ⟨Places.of hl h1, h2, hl⟩
theorem wfc {o : List Int} {ds : List (List Int)} (hf : Fld o ds) : 1 ≤ o.length ∧ o.length ≤ 7 := by
 have h1 := hf.len
 have h2 := hf.pos
 omega
def ww (o : List Int) (ds : List (List Int)) (a b : Int) : Bool := fieldB o ds && (isIn a 1 5 && isIn b 1 5)
theorem wac {o : List Int} {ds : List (List Int)} {a b : Int} (h : ww o ds a b = true) : Fld o ds := by
 unfold ww at h
 simp only [Bool.and_eq_true] at h
 exact fieldB_iff.1 h.1
theorem weq {o : List Int} {ds : List (List Int)} (ho : Low1 o) (hd : Low2 ds) (a b : Int) : wot o ds a b = some (ww o ds a b) := by
 unfold wot wafw wos www ww
 simp (disch := omega) only [EV, l2Good_eq ho hd, l1In_eq]
 cases fieldB o ds <;> cases isIn a 1 5 <;> rfl
theorem wci {o : List Int} {ds : List (List Int)} (ho : Low1 o) (hd : Low2 ds) (a b : Int) : wom o ds a b = some (ww o ds a b) := by
 unfold wom wadj wol wvf ww
 simp (disch := omega) only [EV, IsField_eq ho hd, between_eq]
 cases fieldB o ds <;> cases isIn a 1 5 <;> rfl
def marksOf (o : List Int) (ds : List (List Int)) (a b : Int) : List MkF := (setsOf o.length).map fun s => ((valueOf o ds s a, valueOf o ds s b), s)
def waa (o : List Int) (ds : List (List Int)) (a b : Int) : List MkF := pk none (wal leM (marksOf o ds a b))
theorem wer (o : List Int) (ds : List (List Int)) (a b : Int) : (marksOf o ds a b).length = (setsOf o.length).length := by simp [marksOf]
theorem pk_len : ∀ (l : List MkF) (c : Option Int), (pk c l).length ≤ l.length
 | [], _ => Nat.le_refl _
 | m :: l, c => by
  simp only [pk]
  split
  ·have := pk_len l (some m.1.2); simp; omega
  ·have := pk_len l c; simp; omega
theorem wbl {o : List Int} {ds : List (List Int)} {a b : Int} {q : MkF} (h : q ∈ waa o ds a b) : q.2 ∈ setsOf o.length ∧ q.1 = (valueOf o ds q.2 a, valueOf o ds q.2 b) := by
 have h1 := (wek (le := leM) (marksOf o ds a b)).mem_iff.1 (wax _ _ q h).1
 obtain ⟨s, hs, rfl⟩ := List.mem_map.1 h1
 exact ⟨hs, rfl⟩
theorem waw {o : List Int} {ds : List (List Int)} (hf : Fld o ds) (a b : Int) : (waa o ds a b).length ≤ 128 := by
 obtain ⟨h1, h7⟩ := wfc hf
 have := pk_len (wal leM (marksOf o ds a b)) none
 rw [wu, wer] at this
 have h2 := setsP_len (setsP h1 h7) h7
 unfold waa
 omega
def lst (acc : List MkF) : Option Int := acc.getLast?.map fun q => q.1.2
theorem woc (acc : List MkF) (m : MkF) : lst (acc ++ [m]) = some m.1.2 := by simp [lst]
theorem wug : ∀ (s acc : List MkF), s.foldl (fun acc m => if wch (lst acc) m.1.2 = true then acc ++ [m] else acc) acc = acc ++ pk (lst acc) s
 | [], acc => by simp [pk]
 | m :: s, acc => by
  rw [List.foldl_cons, wug s]
  simp only [pk]
  split
  next h => rw [woc]; simp
  next h => rfl
theorem wzv (a b : Int) : wwh a b = some (if a < b then -1 else if b < a then 1 else 0) := by
 unfold wwh T_za
 have e : ∀ x, F_zc x = some false := fun x => by
  unfold F_zc T_zc
  simp only [Tr.ev_l, bne_self_eq_false]
 rw [Tr.ev_c, e, Option.bind_some, Tr.ev_c, e, Option.bind_some]
 simp only [Tr.ev_t, cond_false, Tr.ev_l]
 by_cases h1 : a < b
 ·rw [decide_eq_true h1, if_pos h1]
  rfl
 ·rw [decide_eq_false h1, if_neg h1]
  by_cases h2 : b < a
  ·rw [decide_eq_true h2, if_pos h2]
   rfl
  ·rw [decide_eq_false h2, if_neg h2]
   rfl
theorem or2 (a b : Int) : F_zb [a, b] = some (if a = 0 then b else a) := by
 unfold F_zb T_zb wme
 have hl : (List.length [a, b] : Nat) = 2 := rfl
 have g0 : List.getD [a, b] (Int.toNat 0) 0 = a := rfl
 have g1 : List.getD [a, b] (Int.toNat 1) 0 = b := rfl
 have i0 : inR (0 : Int) 2 = true := rfl
 have i1 : inR (1 : Int) 2 = true := rfl
 have s0 : (wak ((0 : Int), ([a, b], (2 : Int))) 0).ev = if a = 0 then some (.inl 1) else some (.inr (.inr a)) := by
  by_cases h : a = 0
  ·subst h
   simp (disch := omega) only [EV, wak, hl, g0, i0, bne_self_eq_false, show ((0 : Int) < 2) = True by simp, Int.zero_add, if_true]
  ·have : (a != 0) = true := by simp [h]
   simp (disch := omega) only [EV, wak, hl, g0, i0, h, this, show ((0 : Int) < 2) = True by simp]
 have s1 : (wak ((0 : Int), ([a, b], (2 : Int))) 1).ev = if b = 0 then some (.inl 2) else some (.inr (.inr b)) := by
  by_cases h : b = 0
  ·subst h
   simp (disch := omega) only [EV, wak, hl, g1, i1, bne_self_eq_false, show ((1 : Int) < 2) = True by simp, if_true]
   rfl
  ·have : (b != 0) = true := by simp [h]
   simp (disch := omega) only [EV, wak, hl, g1, i1, h, this, show ((1 : Int) < 2) = True by simp]
 have s2 : (wak ((0 : Int), ([a, b], (2 : Int))) 2).ev = some (.inr (.inl ())) := by simp (disch := omega) only [EV, wak, Int.lt_irrefl]
 have e : iter (fun v => (wak ((0 : Int), ([a, b], (((List.length [a, b] : Nat) : Int)))) v).ev) 0 = if a = 0 then (if b = 0 then some (.inl ()) else some (.inr b)) else some (.inr a) := by
  show iter (fun v => (wak ((0 : Int), ([a, b], (2 : Int))) v).ev) 0 = _
  rw [iter_eq, s0]
  by_cases h : a = 0
  ·rw [if_pos h, if_pos h]
   simp only
   rw [iter_eq, s1]
   by_cases h2 : b = 0
   ·rw [if_pos h2, if_pos h2]
    simp only
    rw [iter_eq, s2]
   ·rw [if_neg h2, if_neg h2]
  ·rw [if_neg h, if_neg h]
 rw [Tr.ev_c, e]
 by_cases h : a = 0
 ·rw [if_pos h, if_pos h]
  by_cases h2 : b = 0
  ·rw [if_pos h2, h2]; rfl
  ·rw [if_neg h2]; rfl
 ·rw [if_neg h, if_neg h]; rfl
theorem wuh : wpe leM (fun h14_ => Option.bind (F_zh h14_.1.1.1 h14_.1.1.2 h14_.1.2 h14_.2.1.1.1 h14_.2.1.1.2 h14_.2.1.2) fun y15_ => some y15_) := by
 intro x y
 have e : F_zh x.1.1 x.1.2 x.2 y.1.1 y.1.2 y.2 = some (if (if x.1.1 < y.1.1 then (-1 : Int) else if y.1.1 < x.1.1 then 1 else 0) = 0 then (if x.1.2 < y.1.2 then (-1 : Int) else if y.1.2 < x.1.2 then 1 else 0) else (if x.1.1 < y.1.1 then (-1 : Int) else if y.1.1 < x.1.1 then 1 else 0)) := by
  unfold F_zh T_zh
  simp (disch := omega) only [EV, show inR (0 : Int) 2 = true from rfl, show inR (1 : Int) 2 = true from rfl, wzv, or2]
 refine ⟨_, by show Option.bind (F_zh x.1.1 x.1.2 x.2 y.1.1 y.1.2 y.2) _ = _; rw [e]; rfl, ?_⟩
 cases h : leM y x with
 | true =>
  rw [wav] at h
  rw [show (!true) = false from rfl, decide_eq_false_iff_not]
  repeat' split
  all_goals omega
 | false =>
  rw [wen] at h
  rw [show (!false) = true from rfl, decide_eq_true_eq]
  repeat' split
  all_goals omega
theorem wamz {o : List Int} {ds : List (List Int)} (hf : Fld o ds) (a b : Int) :
  wrb (a, (b, ((((setsOf o.length).length : Nat) : Int), (o, (ds, setsOf o.length))))) ((0 : Int), ([] : List MkF)) = some (marksOf o ds a b) := by
 obtain ⟨h1, h7⟩ := wfc hf
 have hS := setsP h1 h7
 have hl := setsP_len hS h7
 have h := iter_foldl (f := fun v => (wih (a, (b, ((((setsOf o.length).length : Nat) : Int), (o, (ds, setsOf o.length))))) v).ev) (setsOf o.length) [] (mk := fun i (acc : List MkF) => ((i : Int), acc)) (I := fun i acc => acc.length = i)
  (g := fun acc s => acc ++ [((valueOf o ds s a, valueOf o ds s b), s)]) (fin := fun acc => acc) (s0 := []) rfl
  (fun i acc hi hI => by
   obtain ⟨p1, p2, _⟩ := setP_places h7 hS (getD_mem (d := []) hi)
   have hb : (acc.length + List.length [((valueOf o ds ((setsOf o.length).getD i []) a, valueOf o ds ((setsOf o.length).getD i []) b), (setsOf o.length).getD i [])]) * 40 ≤ 140737488355328 := by
    simp only [List.length_singleton]
    omega
   refine ⟨?_, by simp [hI]⟩
   simp (disch := omega) only [EV, wih, hi, wct hf p1 p2, hb]
   rfl)
  (fun acc _ => by simp (disch := omega) only [EV, wih, Nat.lt_irrefl])
 have e : wrb (a, (b, ((((setsOf o.length).length : Nat) : Int), (o, (ds, setsOf o.length))))) ((0 : Int), ([] : List MkF)) = _ := h.1
 rw [e]
 have key : ∀ (l : List (List Int)) (acc : List MkF), l.foldl (fun acc s => acc ++ [((valueOf o ds s a, valueOf o ds s b), s)]) acc = acc ++ l.map fun s => ((valueOf o ds s a, valueOf o ds s b), s) := by
  intro l
  induction l with
  | nil => intro acc; simp
  | cons s l ih => intro acc; rw [List.foldl_cons, ih]; simp
 rw [key, List.nil_append]
 rfl
theorem wana (s : List MkF) (hs : s.length ≤ 1000000) : wrd (((s.length : Nat) : Int), s) ((0 : Int), (([] : List (Int × Int)), ([] : List (List Int)))) = some ((pk none s).map (·.1), (pk none s).map (·.2)) := by
 have h := iter_foldl (f := fun v => (wdu (((s.length : Nat) : Int), s) v).ev) s mk0 (mk := fun i (acc : List MkF) => ((i : Int), (acc.map (·.1), acc.map (·.2)))) (I := fun i acc => acc.length ≤ i)
  (g := fun acc m => if wch (lst acc) m.1.2 = true then acc ++ [m] else acc) (fin := fun acc => (acc.map (·.1), acc.map (·.2))) (s0 := []) (Nat.le_refl _)
  (fun i acc hi hI => by
   have hb1 : (List.length (acc.map (·.1)) + List.length [(s.getD i mk0).1]) * 16 ≤ 140737488355328 := by simp only [List.length_map, List.length_singleton]; omega
   have hb2 : (List.length (acc.map (·.2)) + List.length [(s.getD i mk0).2]) * 24 ≤ 140737488355328 := by simp only [List.length_map, List.length_singleton]; omega
   refine ⟨?_, by
    split
    ·rw [List.length_append, List.length_singleton]; omega
    ·omega⟩
   rcases List.eq_nil_or_concat acc with rfl | ⟨q, z, rfl⟩
   ·have hu : wch (lst ([] : List MkF)) (s.getD i mk0).1.2 = true := rfl
    rw [if_pos hu]
    have hz : (((List.length (List.map (·.1) ([] : List MkF)) : Nat) : Int) == 0) = true := rfl
    simp (disch := omega) only [EV, wdu, hi, hz, hb1, hb2]
    rfl
   ·simp only [List.concat_eq_append] at hI hb1 hb2 ⊢
    rw [woc]
    have hlen : List.length (List.map (·.1) (q ++ [z])) = q.length + 1 := by simp
    have hz : (((q.length + 1 : Nat) : Int) == 0) = false := beq_eq_false_iff_ne.2 (by omega)
    have hw : ((q.length + 1 : Nat) : Int) - 1 = (q.length : Int) := by omega
    have hq : q.length < q.length + 1 := by omega
    have hq2 : q.length < 1000001 := by simp at hI; omega
    have hg : (List.map (·.1) (q ++ [z])).getD q.length (0, 0) = z.1 := by
     rw [List.map_append, List.map_singleton]
     exact waf _ _ _ _ (by simp)
    rw [hlen] at hb1
    by_cases hc : (s.getD i mk0).1.2 < z.1.2
    ·have hu : wch (some z.1.2) (s.getD i mk0).1.2 = true := by simp only [wch, decide_eq_true_eq]; exact hc
     rw [if_pos hu]
     simp (disch := omega) only [EV, wdu, hi, hlen, hz, hw, hq, hg, hc, hb1, hb2, show inR (1 : Int) 2 = true from rfl]
     simp
    ·have hu : ¬ wch (some z.1.2) (s.getD i mk0).1.2 = true := by simp only [wch, decide_eq_true_eq]; exact hc
     rw [if_neg hu]
     simp (disch := omega) only [EV, wdu, hi, hlen, hz, hw, hq, hg, hc, show inR (1 : Int) 2 = true from rfl]
     rfl)
  (fun acc _ => by simp (disch := omega) only [EV, wdu, Nat.lt_irrefl])
 have e : wrd (((s.length : Nat) : Int), s) ((0 : Int), (([] : List (Int × Int)), ([] : List (List Int)))) = _ := h.1
 rw [e, wug, List.nil_append]
 rfl
theorem wes {o : List Int} {ds : List (List Int)} (hf : Fld o ds) (a b : Int) : F_zg o ds a b = some ((waa o ds a b).map (·.1), (waa o ds a b).map (·.2)) := by
 obtain ⟨h1, h7⟩ := wfc hf
 have hS := setsP h1 h7
 have hl := setsP_len hS h7
 have hml := wer o ds a b
 have e2 := wgo leM_to wuh (marksOf o ds a b) (by omega)
 have e3 := wana (wal leM (marksOf o ds a b)) (by rw [wu]; omega)
 unfold F_zg T_zg
 simp (disch := omega) only [EV, hS.im, wamz hf a b, e2, e3]
 rfl
theorem wan (a b c d : Int) : wov a b c d = some (decide (a ≤ c) && decide (b ≤ d) && !decide ((a, b) = (c, d))) := by
 unfold wov waha
 by_cases h1 : a ≤ c
 ·by_cases h2 : b ≤ d
  ·simp (disch := omega) only [EV, show inR (0 : Int) 2 = true from rfl, show inR (1 : Int) 2 = true from rfl, h1, h2]
   congr 1
   congr 1
   by_cases h3 : a = c
   ·by_cases h4 : b = d <;> simp [h3, h4]
   ·simp [h3]
  ·simp (disch := omega) only [EV, show inR (0 : Int) 2 = true from rfl, show inR (1 : Int) 2 = true from rfl, h1, h2]
 ·simp (disch := omega) only [EV, show inR (0 : Int) 2 = true from rfl, h1]
theorem wcj (F : List MkF) {i : Nat} (h : i < F.length) : (F.map (·.1)).getD i (0, 0) = (F.getD i mk0).1 := by
 rw [List.getD_eq_getElem?_getD, List.getElem?_map, List.getD_eq_getElem?_getD, List.getElem?_eq_getElem h]; rfl
theorem wui (F : List MkF) {i : Nat} (h : i < F.length) : (F.map (·.2)).getD i [] = (F.getD i mk0).2 := by
 rw [List.getD_eq_getElem?_getD, List.getElem?_map, List.getD_eq_getElem?_getD, List.getElem?_eq_getElem h]; rfl
theorem wanb (F : List MkF) (x : MkF) (hF : F.length ≤ 1000000) (P' : List (Int × Int)) (L' : List (List Int)) :
  wrs (F.map (·.1), (F.map (·.2), (x.2, (false, (x.1.1, (x.1.2, (P', L'))))))) 0 = some (bif F.all (fun q => !(decide (q.1.1 ≤ x.1.1) && decide (q.1.2 ≤ x.1.2))) then .inl () else .inr ()) := by
 have h := iter_allR (f := fun v => (wbc (F.map (·.1), (F.map (·.2), (x.2, (false, (x.1.1, (x.1.2, (P', L'))))))) v).ev) (n := F.length) (mk := fun i => (i : Int)) (p := fun i => !(decide ((F.getD i mk0).1.1 ≤ x.1.1) && decide ((F.getD i mk0).1.2 ≤ x.1.2))) (yes := .inl ()) (no := .inr ())
  (fun i hi _ => by
   have hl : (F.map (·.1)).length = F.length := List.length_map _
   have hg := wcj F hi
   generalize F.getD i mk0 = q at hg
   by_cases h1 : q.1.1 = x.1.1 ∧ q.1.2 = x.1.2
   ·have e1 : (q.1.1 == x.1.1) = true := by simp [h1.1]
    have e2 : (q.1.2 == x.1.2) = true := by simp [h1.2]
    have e3 : (!(decide (q.1.1 ≤ x.1.1) && decide (q.1.2 ≤ x.1.2))) = false := by simp [h1.1, h1.2]
    simp (disch := omega) only [EV, wbc, hl, hi, hg, e1, e2, e3]
   ·have e0 : ((q.1.1 == x.1.1) && (q.1.2 == x.1.2)) = false := by
     by_cases h2 : q.1.1 = x.1.1
     ·have : ¬ q.1.2 = x.1.2 := fun h => h1 ⟨h2, h⟩
      simp [this]
     ·simp [h2]
    have e3 : (!decide ((q.1.1, q.1.2) = (x.1.1, x.1.2))) = true := by
     rw [Bool.not_eq_true', decide_eq_false_iff_not]
     exact fun h => h1 ⟨congrArg Prod.fst h, congrArg Prod.snd h⟩
    by_cases h3 : q.1.1 ≤ x.1.1
    ·by_cases h4 : q.1.2 ≤ x.1.2
     ·simp (disch := omega) only [EV, wbc, hl, hi, hg, e0, wan, h3, h4, e3]
     ·simp (disch := omega) only [EV, wbc, hl, hi, hg, e0, wan, h3, h4]
      rfl
    ·simp (disch := omega) only [EV, wbc, hl, hi, hg, e0, wan, h3]
     rfl)
  (by
   have hl : (F.map (·.1)).length = F.length := List.length_map _
   simp (disch := omega) only [EV, wbc, hl, Nat.lt_irrefl])
 rw [all_range F mk0 (fun q => !(decide (q.1.1 ≤ x.1.1) && decide (q.1.2 ≤ x.1.2)))] at h
 exact h
theorem whv (x : MkF) : ∀ (F : List MkF) (p : Bool), (wfa x p F).length ≤ F.length + 1
 | [], p => by simp only [wfa]; split <;> simp
 | q :: F, p => by
  have h1 := whv x F p
  have h2 := whv x F true
  simp only [wfa]
  split
  ·simp; omega
  ·split
   ·simp; have := insP_true_len x F; omega
   ·simp; omega
where insP_true_len (x : MkF) : ∀ F : List MkF, (wfa x true F).length ≤ F.length
 | [] => by simp [wfa]
 | q :: F => by
  have := insP_true_len x F
  simp only [wfa]
  split
  ·simp; omega
  ·simp; omega
end Go.Proofs.YtnagpmhaddfgmaaGreat
