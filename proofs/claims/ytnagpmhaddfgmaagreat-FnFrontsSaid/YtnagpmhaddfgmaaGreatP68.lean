/-
 Plain laws: the reference's front, mark by mark; both fronts are alike.
-/
import Derived.Test.YtnagpmhaddfgmaaGreatP67
namespace Go.Proofs.YtnagpmhaddfgmaaGreat
theorem wjb {n : Nat} (h : n ≤ 2000) : (n + 1) * 16 ≤ 140737488355328 ∧ (n + 1) * 24 ≤ 140737488355328 ∧ (n + 1 + 1) * 16 ≤ 140737488355328 ∧ (n + 1 + 1) * 24 ≤ 140737488355328 := by
 refine ⟨by omega, by omega, by omega, by omega⟩
set_option maxHeartbeats 1600000 in
theorem wanc (F : List MkF) (x : MkF) (hF : F.length ≤ 1000) : ∀ (k i : Nat) (p : Bool) (acc : List MkF), i + k = F.length → acc.length ≤ 2 * i →
  ∃ (p' : Bool) (acc' : List MkF), wea (F.map (·.1), (F.map (·.2), (x.2, (x.1.1, x.1.2)))) (p, ((i : Int), (acc.map (·.1), acc.map (·.2)))) = some (p', (acc'.map (·.1), acc'.map (·.2))) ∧ acc'.length ≤ 2 * F.length ∧ (if p' = true then acc' else acc' ++ [x]) = acc ++ wfa x p (F.drop i) := by
 intro k
 have hl : (F.map (·.1)).length = F.length := List.length_map _
 have hl2 : (F.map (·.2)).length = F.length := List.length_map _
 induction k with
 | zero =>
  intro i p acc hi ha
  have hi' : i = F.length := by omega
  subst hi'
  refine ⟨p, acc, ?_, ha, ?_⟩
  ·unfold wea
   rw [iter_eq]
   simp (disch := omega) only [EV, wao, hl, Nat.lt_irrefl]
  ·rw [List.drop_length]
   simp only [wfa]
   cases p <;> simp
 | succ k ih =>
  intro i p acc hi ha
  have hi' : i < F.length := by omega
  have hg := wcj F hi'
  have hg2 := wui F hi'
  have hd : F.drop i = F.getD i mk0 :: F.drop (i + 1) := by
   rw [List.drop_eq_getElem_cons hi', List.getD_eq_getElem?_getD, List.getElem?_eq_getElem hi']; rfl
  rw [hd]
  generalize F.getD i mk0 = q at hg hg2
  have hm1 : ∀ l : List MkF, List.length (List.map (fun q : MkF => q.1) l) = l.length := fun l => List.length_map _
  have hm2 : ∀ l : List MkF, List.length (List.map (fun q : MkF => q.2) l) = l.length := fun l => List.length_map _
  have hone : ∀ (α : Type) (y : α), List.length [y] = 1 := fun _ _ => rfl
  obtain ⟨b1, b2, b3, b4⟩ := wjb (n := acc.length) (by omega)
  have hw : ((i : Int) + 1) = ((i + 1 : Nat) : Int) := by omega
  have hdm : wov x.1.1 x.1.2 q.1.1 q.1.2 = some (domM x q) := wan _ _ _ _
  unfold wea at ih ⊢
  cases hdom : domM x q with
  | true =>
   obtain ⟨p', acc', e1, e2, e3⟩ := ih (i + 1) p acc (by omega) (by omega)
   refine ⟨p', acc', ?_, e2, ?_⟩
   ·rw [iter_eq]
    have e : (wao (F.map (·.1), (F.map (·.2), (x.2, (x.1.1, x.1.2)))) (p, ((i : Int), (acc.map (·.1), acc.map (·.2))))).ev = some (.inl (p, (((i + 1 : Nat) : Int), (acc.map (·.1), acc.map (·.2))))) := by
     simp (disch := omega) only [EV, wao, hl, hi', hg, hdm, hdom, hw]
    rw [e]
    exact e1
   ·simp only [wfa, hdom]
    exact e3
  | false =>
   by_cases hc : p = false ∧ x.1.1 < q.1.1
   ·obtain ⟨hp, hc⟩ := hc
    subst hp
    obtain ⟨p', acc', e1, e2, e3⟩ := ih (i + 1) true (acc ++ [x] ++ [q]) (by omega) (by simp; omega)
    refine ⟨p', acc', ?_, e2, ?_⟩
    ·rw [iter_eq]
     have e : (wao (F.map (·.1), (F.map (·.2), (x.2, (x.1.1, x.1.2)))) (false, ((i : Int), (acc.map (·.1), acc.map (·.2))))).ev = some (.inl (true, (((i + 1 : Nat) : Int), ((acc ++ [x] ++ [q]).map (·.1), (acc ++ [x] ++ [q]).map (·.2))))) := by
      simp (disch := omega) only [EV, wao, hl, hl2, hi', hg, hg2, hdm, hdom, hw, hc, show inR (0 : Int) 2 = true from rfl, hm1, hm2, hone, b1, b2, b3, b4, List.length_append, List.map_append, List.map_cons, List.map_nil]
     rw [e]
     exact e1
    ·simp only [wfa, hdom]
     rw [e3, if_neg (by simp), if_pos ⟨trivial, hc⟩]
     simp
   ·obtain ⟨p', acc', e1, e2, e3⟩ := ih (i + 1) p (acc ++ [q]) (by omega) (by simp; omega)
    refine ⟨p', acc', ?_, e2, ?_⟩
    ·rw [iter_eq]
     have e : (wao (F.map (·.1), (F.map (·.2), (x.2, (x.1.1, x.1.2)))) (p, ((i : Int), (acc.map (·.1), acc.map (·.2))))).ev = some (.inl (p, (((i + 1 : Nat) : Int), ((acc ++ [q]).map (·.1), (acc ++ [q]).map (·.2))))) := by
      cases p with
      | true => simp (disch := omega) only [EV, wao, hl, hl2, hi', hg, hg2, hdm, hdom, hw, hm1, hm2, hone, b1, b2, List.map_append, List.map_cons, List.map_nil]
      | false =>
       have hc' : ¬ x.1.1 < q.1.1 := fun h => hc ⟨rfl, h⟩
       simp (disch := omega) only [EV, wao, hl, hl2, hi', hg, hg2, hdm, hdom, hw, hc', show inR (0 : Int) 2 = true from rfl, hm1, hm2, hone, b1, b2, List.map_append, List.map_cons, List.map_nil]
     rw [e]
     exact e1
    ·simp only [wfa, hdom]
     rw [e3, if_neg (by simp), if_neg hc]
     simp
theorem wuj (F : List MkF) (x : MkF) (hF : F.length ≤ 1000) : wxn (F.map (·.1)) (F.map (·.2)) x.1.1 x.1.2 x.2 = some ((wpf F x).map (·.1), (wpf F x).map (·.2)) := by
 have h0 := wanb F x (by omega) [] []
 obtain ⟨p', acc', e1, e2, e3⟩ := wanc F x hF F.length 0 false [] (by omega) (Nat.le_refl _)
 have e1' : wea (F.map (·.1), (F.map (·.2), (x.2, (x.1.1, x.1.2)))) (false, ((0 : Int), (([] : List (Int × Int)), ([] : List (List Int))))) = some (p', (acc'.map (·.1), acc'.map (·.2))) := e1
 rw [List.nil_append, List.drop_zero] at e3
 have hany : (F.all fun q => !(decide (q.1.1 ≤ x.1.1) && decide (q.1.2 ≤ x.1.2))) = !(F.any fun q => decide (q.1.1 ≤ x.1.1) && decide (q.1.2 ≤ x.1.2)) := by
  rw [List.not_any_eq_all_not]
 rw [hany] at h0
 have hm1 : List.length (List.map (fun q : MkF => q.1) acc') = acc'.length := List.length_map _
 have hm2 : List.length (List.map (fun q : MkF => q.2) acc') = acc'.length := List.length_map _
 have hone : ∀ (α : Type) (y : α), List.length [y] = 1 := fun _ _ => rfl
 obtain ⟨b1, b2, _, _⟩ := wjb (n := acc'.length) (by omega)
 unfold wxn wahc wpf
 cases ha : F.any fun q => decide (q.1.1 ≤ x.1.1) && decide (q.1.2 ≤ x.1.2) with
 | true =>
  rw [ha] at h0
  simp (disch := omega) only [EV, h0, if_true]
 | false =>
  rw [ha] at h0
  rw [if_neg (by simp), ← e3]
  cases p' with
  | true =>
   simp (disch := omega) only [EV, h0, e1', if_true]
  | false =>
   simp (disch := omega) only [EV, h0, e1', hm1, hm2, hone, b1, b2]
   simp
theorem wzw (F : List MkF) (x : MkF) : (wpf F x).length ≤ F.length + 1 := by
 unfold wpf
 split
 ·omega
 ·exact whv x F false
theorem wet {o : List Int} {ds : List (List Int)} (hf : Fld o ds) (a b : Int) : wru o ds a b = some ((waa o ds a b).map (·.1), (waa o ds a b).map (·.2)) := by
 obtain ⟨h1, h7⟩ := wfc hf
 have hS := setsP h1 h7
 have hl := setsP_len hS h7
 have h := iter_foldl (f := fun v => (web (a, (b, (setsOf o.length, (o, ds)))) v).ev) (setsOf o.length) [] (mk := fun i (F : List MkF) => (F.map (·.1), (F.map (·.2), (i : Int)))) (I := fun i F => F.length ≤ i)
  (g := fun F s => wpf F ((valueOf o ds s a, valueOf o ds s b), s)) (fin := fun F => (F.map (·.1), F.map (·.2))) (s0 := []) (Nat.le_refl _)
  (fun i F hi hI => by
   obtain ⟨p1, p2, _⟩ := setP_places h7 hS (getD_mem (d := []) hi)
   have hp := wuj F ((valueOf o ds ((setsOf o.length).getD i []) a, valueOf o ds ((setsOf o.length).getD i []) b), (setsOf o.length).getD i []) (by omega)
   simp only at hp
   have hi2 : i < 1000 := by omega
   refine ⟨?_, ?_⟩
   ·simp (disch := omega) only [EV, web, hi, wad hf p1 p2, hp]
    rfl
   ·have := wzw F ((valueOf o ds ((setsOf o.length).getD i []) a, valueOf o ds ((setsOf o.length).getD i []) b), (setsOf o.length).getD i [])
    omega)
  (fun F _ => by simp (disch := omega) only [EV, web, Nat.lt_irrefl])
 have e : wrt (a, (b, (setsOf o.length, (o, ds)))) (([] : List (Int × Int)), (([] : List (List Int)), (0 : Int))) = _ := h.1
 have hff : (setsOf o.length).foldl (fun F s => wpf F ((valueOf o ds s a, valueOf o ds s b), s)) [] = waa o ds a b := by
  unfold waa
  rw [wpa, marksOf, List.foldl_map]
 rw [hff] at e
 unfold wru wahe
 simp (disch := omega) only [EV, hS.sp, e]
def wz (o : List Int) (ds : List (List Int)) (a b : Int) : List MkF := bif ww o ds a b then waa o ds a b else []
theorem whw {o : List Int} {ds : List (List Int)} (ho : Low1 o) (hd : Low2 ds) (a b : Int) : wxs o ds a b = some ((wz o ds a b).map (·.1), ww o ds a b) := by
 unfold wxs wahj wz
 simp (disch := omega) only [EV, weq ho hd]
 cases hb : ww o ds a b with
 | false => rfl
 | true =>
  simp (disch := omega) only [EV, wet (wac hb)]
theorem wbn {o : List Int} {ds : List (List Int)} (ho : Low1 o) (hd : Low2 ds) (a b : Int) : F_zr o ds a b = some (ww o ds a b, (wz o ds a b).map (·.1)) := by
 unfold F_zr T_zr wz
 simp (disch := omega) only [EV, wci ho hd]
 cases hb : ww o ds a b with
 | false => rfl
 | true =>
  simp (disch := omega) only [EV, wes (wac hb)]
theorem wpb {o : List Int} {ds : List (List Int)} {a b : Int} : (wz o ds a b).length ≤ 128 := by
 unfold wz
 cases hb : ww o ds a b with
 | false => simp
 | true => exact waw (wac hb) a b
theorem weu {o : List Int} {ds : List (List Int)} (ho : Low1 o) (hd : Low2 ds) (a b : Int) : wxt o ds a b = some ((wz o ds a b).map (·.2), ww o ds a b) := by
 unfold wxt wahl wz
 simp (disch := omega) only [EV, weq ho hd]
 cases hb : ww o ds a b with
 | false => rfl
 | true =>
  simp (disch := omega) only [EV, wet (wac hb)]
theorem wev {o : List Int} {ds : List (List Int)} (ho : Low1 o) (hd : Low2 ds) (a b : Int) : F_zs o ds a b = some (ww o ds a b, (wz o ds a b).map (·.2)) := by
 unfold F_zs T_zs wz
 simp (disch := omega) only [EV, wci ho hd]
 cases hb : ww o ds a b with
 | false => rfl
 | true =>
  simp (disch := omega) only [EV, wes (wac hb)]
end Go.Proofs.YtnagpmhaddfgmaaGreat
