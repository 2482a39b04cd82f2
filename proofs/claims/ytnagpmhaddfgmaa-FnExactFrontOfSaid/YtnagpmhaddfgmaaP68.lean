/-
 Plain laws: the reference's front, mark by mark; both fronts are alike.
-/
import Derived.Test.YtnagpmhaddfgmaaP67
namespace Go.Proofs.Ytnagpmhaddfgmaa
theorem wtr {n : Nat} (h : n ≤ 2000) : (n + 1) * 16 ≤ 140737488355328 ∧ (n + 1) * 24 ≤ 140737488355328 ∧ (n + 1 + 1) * 16 ≤ 140737488355328 ∧ (n + 1 + 1) * 24 ≤ 140737488355328 := by
 refine ⟨by omega, by omega, by omega, by omega⟩
set_option maxHeartbeats 1600000 in
theorem wbds (F : List MkF) (x : MkF) (hF : F.length ≤ 1000) : ∀ (k i : Nat) (p : Bool) (acc : List MkF), i + k = F.length → acc.length ≤ 2 * i →
  ∃ (p' : Bool) (acc' : List MkF), wlh (F.map (·.1), (F.map (·.2), (x.2, (x.1.1, x.1.2)))) (p, ((i : Int), (acc.map (·.1), acc.map (·.2)))) = some (p', (acc'.map (·.1), acc'.map (·.2))) ∧ acc'.length ≤ 2 * F.length ∧ (if p' = true then acc' else acc' ++ [x]) = acc ++ wmy x p (F.drop i) := by
 intro k
 have hl : (F.map (·.1)).length = F.length := List.length_map _
 have hl2 : (F.map (·.2)).length = F.length := List.length_map _
 induction k with
 | zero =>
  intro i p acc hi ha
  have hi' : i = F.length := by omega
  subst hi'
  refine ⟨p, acc, ?_, ha, ?_⟩
  ·unfold wlh
   rw [waa]
   simp (disch := omega) only [EV, wdo, hl, Nat.lt_irrefl]
  ·rw [List.drop_length]
   simp only [wmy]
   cases p <;> simp
 | succ k ih =>
  intro i p acc hi ha
  have hi' : i < F.length := by omega
  have hg := wajn F hi'
  have hg2 := wbdq F hi'
  have hd : F.drop i = F.getD i mk0 :: F.drop (i + 1) := by
   rw [List.drop_eq_getElem_cons hi', List.getD_eq_getElem?_getD, List.getElem?_eq_getElem hi']; rfl
  rw [hd]
  generalize F.getD i mk0 = q at hg hg2
  have hm1 : ∀ l : List MkF, List.length (List.map (fun q : MkF => q.1) l) = l.length := fun l => List.length_map _
  have hm2 : ∀ l : List MkF, List.length (List.map (fun q : MkF => q.2) l) = l.length := fun l => List.length_map _
  have hone : ∀ (α : Type) (y : α), List.length [y] = 1 := fun _ _ => rfl
  obtain ⟨b1, b2, b3, b4⟩ := wtr (n := acc.length) (by omega)
  have hw : ((i : Int) + 1) = ((i + 1 : Nat) : Int) := by omega
  have hdm : wabw x.1.1 x.1.2 q.1.1 q.1.2 = some (domM x q) := wdl _ _ _ _
  unfold wlh at ih ⊢
  cases hdom : domM x q with
  | true =>
   obtain ⟨p', acc', e1, e2, e3⟩ := ih (i + 1) p acc (by omega) (by omega)
   refine ⟨p', acc', ?_, e2, ?_⟩
   ·rw [waa]
    have e : (wdo (F.map (·.1), (F.map (·.2), (x.2, (x.1.1, x.1.2)))) (p, ((i : Int), (acc.map (·.1), acc.map (·.2))))).ev = some (.inl (p, (((i + 1 : Nat) : Int), (acc.map (·.1), acc.map (·.2))))) := by
     simp (disch := omega) only [EV, wdo, hl, hi', hg, hdm, hdom, hw]
    rw [e]
    exact e1
   ·simp only [wmy, hdom]
    exact e3
  | false =>
   by_cases hc : p = false ∧ x.1.1 < q.1.1
   ·obtain ⟨hp, hc⟩ := hc
    subst hp
    obtain ⟨p', acc', e1, e2, e3⟩ := ih (i + 1) true (acc ++ [x] ++ [q]) (by omega) (by simp; omega)
    refine ⟨p', acc', ?_, e2, ?_⟩
    ·rw [waa]
     have e : (wdo (F.map (·.1), (F.map (·.2), (x.2, (x.1.1, x.1.2)))) (false, ((i : Int), (acc.map (·.1), acc.map (·.2))))).ev = some (.inl (true, (((i + 1 : Nat) : Int), ((acc ++ [x] ++ [q]).map (·.1), (acc ++ [x] ++ [q]).map (·.2))))) := by
      simp (disch := omega) only [EV, wdo, hl, hl2, hi', hg, hg2, hdm, hdom, hw, hc, show inR (0 : Int) 2 = true from rfl, hm1, hm2, hone, b1, b2, b3, b4, List.length_append, List.map_append, List.map_cons, List.map_nil]
     rw [e]
     exact e1
    ·simp only [wmy, hdom]
     rw [e3, if_neg (by simp), if_pos ⟨trivial, hc⟩]
     simp
   ·obtain ⟨p', acc', e1, e2, e3⟩ := ih (i + 1) p (acc ++ [q]) (by omega) (by simp; omega)
    refine ⟨p', acc', ?_, e2, ?_⟩
    ·rw [waa]
     have e : (wdo (F.map (·.1), (F.map (·.2), (x.2, (x.1.1, x.1.2)))) (p, ((i : Int), (acc.map (·.1), acc.map (·.2))))).ev = some (.inl (p, (((i + 1 : Nat) : Int), ((acc ++ [q]).map (·.1), (acc ++ [q]).map (·.2))))) := by
      cases p with
      | true => simp (disch := omega) only [EV, wdo, hl, hl2, hi', hg, hg2, hdm, hdom, hw, hm1, hm2, hone, b1, b2, List.map_append, List.map_cons, List.map_nil]
      | false =>
       have hc' : ¬ x.1.1 < q.1.1 := fun h => hc ⟨rfl, h⟩
       simp (disch := omega) only [EV, wdo, hl, hl2, hi', hg, hg2, hdm, hdom, hw, hc', show inR (0 : Int) 2 = true from rfl, hm1, hm2, hone, b1, b2, List.map_append, List.map_cons, List.map_nil]
     rw [e]
     exact e1
    ·simp only [wmy, hdom]
     rw [e3, if_neg (by simp), if_neg hc]
     simp
theorem wajo (F : List MkF) (x : MkF) (hF : F.length ≤ 1000) : wamp (F.map (·.1)) (F.map (·.2)) x.1.1 x.1.2 x.2 = some ((putM F x).map (·.1), (putM F x).map (·.2)) := by
 have h0 := wbdr F x (by omega) [] []
 obtain ⟨p', acc', e1, e2, e3⟩ := wbds F x hF F.length 0 false [] (by omega) (Nat.le_refl _)
 have e1' : wlh (F.map (·.1), (F.map (·.2), (x.2, (x.1.1, x.1.2)))) (false, ((0 : Int), (([] : List (Int × Int)), ([] : List (List Int))))) = some (p', (acc'.map (·.1), acc'.map (·.2))) := e1
 rw [List.nil_append, List.drop_zero] at e3
 have hany : (F.all fun q => !(decide (q.1.1 ≤ x.1.1) && decide (q.1.2 ≤ x.1.2))) = !(F.any fun q => decide (q.1.1 ≤ x.1.1) && decide (q.1.2 ≤ x.1.2)) := by
  rw [List.not_any_eq_all_not]
 rw [hany] at h0
 have hm1 : List.length (List.map (fun q : MkF => q.1) acc') = acc'.length := List.length_map _
 have hm2 : List.length (List.map (fun q : MkF => q.2) acc') = acc'.length := List.length_map _
 have hone : ∀ (α : Type) (y : α), List.length [y] = 1 := fun _ _ => rfl
 obtain ⟨b1, b2, _, _⟩ := wtr (n := acc'.length) (by omega)
 unfold wamp wawo putM
 cases ha : F.any fun q => decide (q.1.1 ≤ x.1.1) && decide (q.1.2 ≤ x.1.2) with
 | true =>
  rw [ha] at h0
  simp (disch := omega) only [EV, h0, if_true]
 | false =>
  rw [ha] at h0
  rw [if_neg (by simp), ← e3]
  cases p' with
  | true =>
   simp (disch := omega) only [EV, h0, e1', if_true]
  | false =>
   simp (disch := omega) only [EV, h0, e1', hm1, hm2, hone, b1, b2]
   simp
theorem waqs (F : List MkF) (x : MkF) : (putM F x).length ≤ F.length + 1 := by
 unfold putM
 split
 ·omega
 ·exact wrd x F false
theorem wwr {o : List Int} {ds : List (List Int)} (hf : Fld o ds) (a b : Int) : wamt o ds a b = some ((wef o ds a b).map (·.1), (wef o ds a b).map (·.2)) := by
 obtain ⟨h1, h7⟩ := waqq hf
 have hS := waqp h1 h7
 have hl := whd hS h7
 have h := wdx (f := fun v => (wli (a, (b, (waq o.length, (o, ds)))) v).ev) (waq o.length) [] (mk := fun i (F : List MkF) => (F.map (·.1), (F.map (·.2), (i : Int)))) (I := fun i F => F.length ≤ i)
  (g := fun F s => putM F ((valueOf o ds s a, valueOf o ds s b), s)) (fin := fun F => (F.map (·.1), F.map (·.2))) (s0 := []) (Nat.le_refl _)
  (fun i F hi hI => by
   obtain ⟨p1, p2, _⟩ := wmu h7 hS (getD_mem (d := []) hi)
   have hp := wajo F ((valueOf o ds ((waq o.length).getD i []) a, valueOf o ds ((waq o.length).getD i []) b), (waq o.length).getD i []) (by omega)
   simp only at hp
   have hi2 : i < 1000 := by omega
   refine ⟨?_, ?_⟩
   ·simp (disch := omega) only [EV, wli, hi, wwo hf p1 p2, hp]
    rfl
   ·have := waqs F ((valueOf o ds ((waq o.length).getD i []) a, valueOf o ds ((waq o.length).getD i []) b), (waq o.length).getD i [])
    omega)
  (fun F _ => by simp (disch := omega) only [EV, wli, Nat.lt_irrefl])
 have e : waga (a, (b, (waq o.length, (o, ds)))) (([] : List (Int × Int)), (([] : List (List Int)), (0 : Int))) = _ := h.1
 have hff : (waq o.length).foldl (fun F s => putM F ((valueOf o ds s a, valueOf o ds s b), s)) [] = wef o ds a b := by
  unfold wef
  rw [wacr, marksOf, List.foldl_map]
 rw [hff] at e
 unfold wamt wawq
 simp (disch := omega) only [EV, hS.sp, e]
def wix (o : List Int) (ds : List (List Int)) (a b : Int) : List MkF := bif wei o ds a b then wef o ds a b else []
theorem wre {o : List Int} {ds : List (List Int)} (ho : wgb o) (hd : wwa ds) (a b : Int) : wamu o ds a b = some ((wix o ds a b).map (·.1), wei o ds a b) := by
 unfold wamu waww wix
 simp (disch := omega) only [EV, wajk ho hd]
 cases hb : wei o ds a b with
 | false => rfl
 | true =>
  simp (disch := omega) only [EV, wwr (wio hb)]
theorem wrf {o : List Int} {ds : List (List Int)} (ho : wgb o) (hd : wwa ds) (a b : Int) : F_zn o ds a b = some (wei o ds a b, (wix o ds a b).map (·.1)) := by
 unfold F_zn T_zn wix
 simp (disch := omega) only [EV, wacs ho hd]
 cases hb : wei o ds a b with
 | false => rfl
 | true =>
  simp (disch := omega) only [EV, wwq (wio hb)]
theorem wact {o : List Int} {ds : List (List Int)} {a b : Int} : (wix o ds a b).length ≤ 128 := by
 unfold wix
 cases hb : wei o ds a b with
 | false => simp
 | true => exact wwp (wio hb) a b
end Go.Proofs.Ytnagpmhaddfgmaa
