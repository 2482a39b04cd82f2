/-
 Plain laws: the reference's front, mark by mark; both fronts are alike.
-/
import Derived.Test.YtnagpmhaddfgmaaP67
namespace Go.Proofs.Ytnagpmhaddfgmaa
theorem wsw {n : Nat} (h : n ≤ 2000) : (n + 1) * 16 ≤ 140737488355328 ∧ (n + 1) * 24 ≤ 140737488355328 ∧ (n + 1 + 1) * 16 ≤ 140737488355328 ∧ (n + 1 + 1) * 24 ≤ 140737488355328 := by
 refine ⟨by omega, by omega, by omega, by omega⟩
set_option maxHeartbeats 1600000 in
theorem waze (F : List MkF) (x : MkF) (hF : F.length ≤ 1000) : ∀ (k i : Nat) (p : Bool) (acc : List MkF), i + k = F.length → acc.length ≤ 2 * i →
  ∃ (p' : Bool) (acc' : List MkF), wmm (F.map (·.1), (F.map (·.2), (x.2, (x.1.1, x.1.2)))) (p, ((i : Int), (acc.map (·.1), acc.map (·.2)))) = some (p', (acc'.map (·.1), acc'.map (·.2))) ∧ acc'.length ≤ 2 * F.length ∧ (if p' = true then acc' else acc' ++ [x]) = acc ++ wnt x p (F.drop i) := by
 intro k
 have hl : (F.map (·.1)).length = F.length := List.length_map _
 have hl2 : (F.map (·.2)).length = F.length := List.length_map _
 induction k with
 | zero =>
  intro i p acc hi ha
  have hi' : i = F.length := by omega
  subst hi'
  refine ⟨p, acc, ?_, ha, ?_⟩
  ·unfold wmm
   rw [wac]
   simp (disch := omega) only [EV, wec, hl, Nat.lt_irrefl]
  ·rw [List.drop_length]
   simp only [wnt]
   cases p <;> simp
 | succ k ih =>
  intro i p acc hi ha
  have hi' : i < F.length := by omega
  have hg := wahb F hi'
  have hg2 := wazc F hi'
  have hd : F.drop i = F.getD i mkf0 :: F.drop (i + 1) := by
   rw [List.drop_eq_getElem_cons hi', List.getD_eq_getElem?_getD, List.getElem?_eq_getElem hi']; rfl
  rw [hd]
  generalize F.getD i mkf0 = q at hg hg2
  have hm1 : ∀ l : List MkF, List.length (List.map (fun q : MkF => q.1) l) = l.length := fun l => List.length_map _
  have hm2 : ∀ l : List MkF, List.length (List.map (fun q : MkF => q.2) l) = l.length := fun l => List.length_map _
  have hone : ∀ (α : Type) (y : α), List.length [y] = 1 := fun _ _ => rfl
  obtain ⟨b1, b2, b3, b4⟩ := wsw (n := acc.length) (by omega)
  have hw : ((i : Int) + 1) = ((i + 1 : Nat) : Int) := by omega
  have hdm : waah x.1.1 x.1.2 q.1.1 q.1.2 = some (domM x q) := web _ _ _ _
  unfold wmm at ih ⊢
  cases hdom : domM x q with
  | true =>
   obtain ⟨p', acc', e1, e2, e3⟩ := ih (i + 1) p acc (by omega) (by omega)
   refine ⟨p', acc', ?_, e2, ?_⟩
   ·rw [wac]
    have e : (wec (F.map (·.1), (F.map (·.2), (x.2, (x.1.1, x.1.2)))) (p, ((i : Int), (acc.map (·.1), acc.map (·.2))))).ev = some (.inl (p, (((i + 1 : Nat) : Int), (acc.map (·.1), acc.map (·.2))))) := by
     simp (disch := omega) only [EV, wec, hl, hi', hg, hdm, hdom, hw]
    rw [e]
    exact e1
   ·simp only [wnt, hdom]
    exact e3
  | false =>
   by_cases hc : p = false ∧ x.1.1 < q.1.1
   ·obtain ⟨hp, hc⟩ := hc
    subst hp
    obtain ⟨p', acc', e1, e2, e3⟩ := ih (i + 1) true (acc ++ [x] ++ [q]) (by omega) (by simp; omega)
    refine ⟨p', acc', ?_, e2, ?_⟩
    ·rw [wac]
     have e : (wec (F.map (·.1), (F.map (·.2), (x.2, (x.1.1, x.1.2)))) (false, ((i : Int), (acc.map (·.1), acc.map (·.2))))).ev = some (.inl (true, (((i + 1 : Nat) : Int), ((acc ++ [x] ++ [q]).map (·.1), (acc ++ [x] ++ [q]).map (·.2))))) := by
      simp (disch := omega) only [EV, wec, hl, hl2, hi', hg, hg2, hdm, hdom, hw, hc, show inR (0 : Int) 2 = true from rfl, hm1, hm2, hone, b1, b2, b3, b4, List.length_append, List.map_append, List.map_cons, List.map_nil]
     rw [e]
     exact e1
    ·simp only [wnt, hdom]
     rw [e3, if_neg (by simp), if_pos ⟨trivial, hc⟩]
     simp
   ·obtain ⟨p', acc', e1, e2, e3⟩ := ih (i + 1) p (acc ++ [q]) (by omega) (by simp; omega)
    refine ⟨p', acc', ?_, e2, ?_⟩
    ·rw [wac]
     have e : (wec (F.map (·.1), (F.map (·.2), (x.2, (x.1.1, x.1.2)))) (p, ((i : Int), (acc.map (·.1), acc.map (·.2))))).ev = some (.inl (p, (((i + 1 : Nat) : Int), ((acc ++ [q]).map (·.1), (acc ++ [q]).map (·.2))))) := by
      cases p with
      | true => simp (disch := omega) only [EV, wec, hl, hl2, hi', hg, hg2, hdm, hdom, hw, hm1, hm2, hone, b1, b2, List.map_append, List.map_cons, List.map_nil]
      | false =>
       have hc' : ¬ x.1.1 < q.1.1 := fun h => hc ⟨rfl, h⟩
       simp (disch := omega) only [EV, wec, hl, hl2, hi', hg, hg2, hdm, hdom, hw, hc', show inR (0 : Int) 2 = true from rfl, hm1, hm2, hone, b1, b2, List.map_append, List.map_cons, List.map_nil]
     rw [e]
     exact e1
    ·simp only [wnt, hdom]
     rw [e3, if_neg (by simp), if_neg hc]
     simp
theorem wahc (F : List MkF) (x : MkF) (hF : F.length ≤ 1000) : wakp (F.map (·.1)) (F.map (·.2)) x.1.1 x.1.2 x.2 = some ((putM F x).map (·.1), (putM F x).map (·.2)) := by
 have h0 := wazd F x (by omega) [] []
 obtain ⟨p', acc', e1, e2, e3⟩ := waze F x hF F.length 0 false [] (by omega) (Nat.le_refl _)
 have e1' : wmm (F.map (·.1), (F.map (·.2), (x.2, (x.1.1, x.1.2)))) (false, ((0 : Int), (([] : List (Int × Int)), ([] : List (List Int))))) = some (p', (acc'.map (·.1), acc'.map (·.2))) := e1
 rw [List.nil_append, List.drop_zero] at e3
 have hany : (F.all fun q => !(decide (q.1.1 ≤ x.1.1) && decide (q.1.2 ≤ x.1.2))) = !(F.any fun q => decide (q.1.1 ≤ x.1.1) && decide (q.1.2 ≤ x.1.2)) := by
  rw [List.not_any_eq_all_not]
 rw [hany] at h0
 have hm1 : List.length (List.map (fun q : MkF => q.1) acc') = acc'.length := List.length_map _
 have hm2 : List.length (List.map (fun q : MkF => q.2) acc') = acc'.length := List.length_map _
 have hone : ∀ (α : Type) (y : α), List.length [y] = 1 := fun _ _ => rfl
 obtain ⟨b1, b2, _, _⟩ := wsw (n := acc'.length) (by omega)
 unfold wakp waup putM
 cases ha : F.any fun q => decide (q.1.1 ≤ x.1.1) && decide (q.1.2 ≤ x.1.2) with
 | true =>
  rw [ha] at h0
  simp (disch := omega) only [EV, h0, if_true]
 | false =>
  rw [ha] at h0
  rw [if_neg (by simp), ← e3]
  cases p' with
  | true =>
   simp (disch := omega) only [EV, h0, e1', if_true]
  | false =>
   simp (disch := omega) only [EV, h0, e1', hm1, hm2, hone, b1, b2]
   simp
theorem wamd (F : List MkF) (x : MkF) : (putM F x).length ≤ F.length + 1 := by
 unfold putM
 split
 ·omega
 ·exact wql x F false
theorem wvj {o : List Int} {ds : List (List Int)} (hf : Fld o ds) (a b : Int) : wakt o ds a b = some ((wdb o ds a b).map (·.1), (wdb o ds a b).map (·.2)) := by
 obtain ⟨h1, h7⟩ := walz hf
 have hS := waly h1 h7
 have hl := wnk hS h7
 have h := wej (f := fun v => (wmn (a, (b, (wbe o.length, (o, ds)))) v).ev) (wbe o.length) [] (mk := fun i (F : List MkF) => (F.map (·.1), (F.map (·.2), (i : Int)))) (I := fun i F => F.length ≤ i)
  (g := fun F s => putM F ((valueOf o ds s a, valueOf o ds s b), s)) (fin := fun F => (F.map (·.1), F.map (·.2))) (s0 := []) (Nat.le_refl _)
  (fun i F hi hI => by
   obtain ⟨p1, p2, _⟩ := wgr h7 hS (getD_mem (d := []) hi)
   have hp := wahc F ((valueOf o ds ((wbe o.length).getD i []) a, valueOf o ds ((wbe o.length).getD i []) b), (wbe o.length).getD i []) (by omega)
   simp only at hp
   have hi2 : i < 1000 := by omega
   refine ⟨?_, ?_⟩
   ·simp (disch := omega) only [EV, wmn, hi, wvd hf p1 p2, hp]
    rfl
   ·have := wamd F ((valueOf o ds ((wbe o.length).getD i []) a, valueOf o ds ((wbe o.length).getD i []) b), (wbe o.length).getD i [])
    omega)
  (fun F _ => by simp (disch := omega) only [EV, wmn, Nat.lt_irrefl])
 have e : wafj (a, (b, (wbe o.length, (o, ds)))) (([] : List (Int × Int)), (([] : List (List Int)), (0 : Int))) = _ := h.1
 have hff : (wbe o.length).foldl (fun F s => putM F ((valueOf o ds s a, valueOf o ds s b), s)) [] = wdb o ds a b := by
  unfold wdb
  rw [waax, marksOf, List.foldl_map]
 rw [hff] at e
 unfold wakt waur
 simp (disch := omega) only [EV, hS.sp, e]
def whu (o : List Int) (ds : List (List Int)) (a b : Int) : List MkF := bif wek o ds a b then wdb o ds a b else []
theorem waba {o : List Int} {ds : List (List Int)} {a b : Int} : (whu o ds a b).length ≤ 128 := by
 unfold whu
 cases hb : wek o ds a b with
 | false => simp
 | true => exact wvg (wfx hb) a b
theorem wnq {o : List Int} {ds : List (List Int)} (ho : wgo o) (hd : wsa ds) (a b : Int) : waku o ds a b = some ((whu o ds a b).map (·.2), wek o ds a b) := by
 unfold waku waux whu
 simp (disch := omega) only [EV, wagy ho hd]
 cases hb : wek o ds a b with
 | false => rfl
 | true =>
  simp (disch := omega) only [EV, wvj (wfx hb)]
theorem wnr {o : List Int} {ds : List (List Int)} (ho : wgo o) (hd : wsa ds) (a b : Int) : F_zo o ds a b = some (wek o ds a b, (whu o ds a b).map (·.2)) := by
 unfold F_zo T_zo whu
 simp (disch := omega) only [EV, waay ho hd]
 cases hb : wek o ds a b with
 | false => rfl
 | true =>
  simp (disch := omega) only [EV, wvi (wfx hb)]
end Go.Proofs.Ytnagpmhaddfgmaa
