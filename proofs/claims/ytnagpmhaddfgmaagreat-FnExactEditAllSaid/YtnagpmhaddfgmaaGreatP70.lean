/-
 Plain laws: edits one by one, as both sides make them; atlases compared; what undoes an edit.
-/
import Derived.Test.YtnagpmhaddfgmaaGreatQ33
namespace Go.Proofs.YtnagpmhaddfgmaaGreat
abbrev At := Int × List Int × List (List Int) × List Int
abbrev Ed := Int × Int × Int × Int × List Int
abbrev ed0 : Ed := ((0 : Int), ((0 : Int), ((0 : Int), ((0 : Int), ([] : List Int)))))
def stepOf (x : At) (e : Ed) : Option At := doOf x.2.1 x.2.2.1 x.2.2.2 x.1 e.1 e.2.1 e.2.2.1 e.2.2.2.1 e.2.2.2.2
def allN : List Ed → At → Nat × At
 | [], x => (0, x)
 | e :: l, x => match stepOf x e with
  | some y => ((allN l y).1 + 1, (allN l y).2)
  | none => (0, x)
def AtA (x : At) : Prop := Atl x.2.1 x.2.2.1 x.2.2.2 x.1
theorem allN_ok : ∀ (l : List Ed) (x : At), AtA x → AtA (allN l x).2 ∧ (allN l x).1 ≤ l.length
 | [], _, h => ⟨h, Nat.le_refl _⟩
 | e :: l, x, h => by
  unfold allN
  cases hs : stepOf x e with
  | none => exact ⟨h, Nat.zero_le _⟩
  | some y =>
   obtain ⟨h1, h2⟩ := allN_ok l y (doOf_atl hs)
   exact ⟨h1, by simp only [List.length_cons]; omega⟩
theorem im_all_loop (L : List Ed) (hL : ∀ e ∈ L, Low1 e.2.2.2.2) (hn : L.length ≤ 1048576) (k3 : Int) : ∀ (l : List Ed) (i : Nat) (x : At), i + l.length = L.length → L.drop i = l → AtA x →
  wcw (L, (L, (((L.length : Nat) : Int), k3))) ((i : Int), x) = some (if (allN l x).1 = l.length then .inl (allN l x).2 else .inr (((i + (allN l x).1 : Nat) : Int), (allN l x).2)) := by
 intro l
 induction l with
 | nil =>
  intro i x hi hd hx
  simp only [List.length_nil, Nat.add_zero] at hi
  subst hi
  unfold wcw
  rw [iter_eq]
  simp (disch := omega) only [EV, wbp, Nat.lt_irrefl]
  rfl
 | cons e l ih =>
  intro i x hi hd hx
  simp only [List.length_cons] at hi
  have hi' : i < L.length := by omega
  have hg : L.getD i ed0 = e := by
   have := congrArg (fun l : List Ed => l[0]?) hd
   simp only [List.getElem?_drop, Nat.add_zero, List.getElem?_cons_zero] at this
   rw [List.getD_eq_getElem?_getD, this]; rfl
  have hm : e ∈ L := by rw [← hg]; exact getD_mem hi'
  have he := iedit_eq hx e.1 e.2.1 e.2.2.1 e.2.2.2.1 (hL e hm)
  have hd2 : L.drop (i + 1) = l := by
   have := congrArg (List.drop 1) hd
   rw [List.drop_drop] at this
   exact this
  unfold wcw at ih ⊢
  rw [iter_eq]
  unfold allN
  cases hs : stepOf x e with
  | none =>
   have hs' : doOf x.2.1 x.2.2.1 x.2.2.2 x.1 e.1 e.2.1 e.2.2.1 e.2.2.2.1 e.2.2.2.2 = none := hs
   rw [hs'] at he
   have hev : (wbp (L, (L, (((L.length : Nat) : Int), k3))) ((i : Int), x)).ev = some (.inr (.inr ((i : Int), x))) := by
    simp (disch := omega) only [EV, wbp, hi', hg, he, doT]
   rw [hev]
   simp only
   rw [if_neg (by simp)]
   rfl
  | some y =>
   have hs' : doOf x.2.1 x.2.2.1 x.2.2.2 x.1 e.1 e.2.1 e.2.2.1 e.2.2.2.1 e.2.2.2.2 = some y := hs
   rw [hs'] at he
   have hev : (wbp (L, (L, (((L.length : Nat) : Int), k3))) ((i : Int), x)).ev = some (.inl (((i + 1 : Nat) : Int), y)) := by
    simp (disch := omega) only [EV, wbp, hi', hg, he, doT]
    rfl
   rw [hev]
   simp only
   rw [ih (i + 1) y (by omega) hd2 (doOf_atl hs)]
   by_cases hc : (allN l y).1 = l.length
   ·rw [if_pos hc, if_pos (by simp [hc])]
   ·rw [if_neg hc, if_neg (by simp [hc]), show i + 1 + (allN l y).1 = i + ((allN l y).1 + 1) by omega]
theorem sp_all_loop (L : List Ed) (hL : ∀ e ∈ L, Low1 e.2.2.2.2) (hn : L.length ≤ 1048576) (k3 : Int) : ∀ (l : List Ed) (i : Nat) (x : At), i + l.length = L.length → L.drop i = l → AtA x →
  wbj (L, k3) ((i : Int), (x.2.1, (x.2.2.1, (x.2.2.2, x.1)))) = some (if (allN l x).1 = l.length then .inl ((allN l x).2.2.1, ((allN l x).2.2.2.1, ((allN l x).2.2.2.2, (allN l x).2.1))) else .inr (((i + (allN l x).1 : Nat) : Int), ((allN l x).2.2.1, ((allN l x).2.2.2.1, ((allN l x).2.2.2.2, (allN l x).2.1))))) := by
 intro l
 induction l with
 | nil =>
  intro i x hi hd hx
  simp only [List.length_nil, Nat.add_zero] at hi
  subst hi
  unfold wbj
  rw [iter_eq]
  simp (disch := omega) only [EV, wz, Nat.lt_irrefl]
  rfl
 | cons e l ih =>
  intro i x hi hd hx
  simp only [List.length_cons] at hi
  have hi' : i < L.length := by omega
  have hg : L.getD i ed0 = e := by
   have := congrArg (fun l : List Ed => l[0]?) hd
   simp only [List.getElem?_drop, Nat.add_zero, List.getElem?_cons_zero] at this
   rw [List.getD_eq_getElem?_getD, this]; rfl
  have hm : e ∈ L := by rw [← hg]; exact getD_mem hi'
  have he := edo_eq hx e.1 e.2.1 e.2.2.1 e.2.2.2.1 (hL e hm)
  have hd2 : L.drop (i + 1) = l := by
   have := congrArg (List.drop 1) hd
   rw [List.drop_drop] at this
   exact this
  unfold wbj at ih ⊢
  rw [iter_eq]
  unfold allN
  cases hs : stepOf x e with
  | none =>
   have hs' : doOf x.2.1 x.2.2.1 x.2.2.2 x.1 e.1 e.2.1 e.2.2.1 e.2.2.2.1 e.2.2.2.2 = none := hs
   rw [hs'] at he
   have hev : (wz (L, k3) ((i : Int), (x.2.1, (x.2.2.1, (x.2.2.2, x.1))))).ev = some (.inr (.inr ((i : Int), (x.2.1, (x.2.2.1, (x.2.2.2, x.1)))))) := by
    simp (disch := omega) only [EV, wz, hi', hg, he, doT]
   rw [hev]
   simp only
   rw [if_neg (by simp)]
   rfl
  | some y =>
   have hs' : doOf x.2.1 x.2.2.1 x.2.2.2 x.1 e.1 e.2.1 e.2.2.1 e.2.2.2.1 e.2.2.2.2 = some y := hs
   rw [hs'] at he
   have hev : (wz (L, k3) ((i : Int), (x.2.1, (x.2.2.1, (x.2.2.2, x.1))))).ev = some (.inl (((i + 1 : Nat) : Int), (y.2.1, (y.2.2.1, (y.2.2.2, y.1))))) := by
    simp (disch := omega) only [EV, wz, hi', hg, he, doT]
    rfl
   rw [hev]
   simp only
   rw [ih (i + 1) y (by omega) hd2 (doOf_atl hs)]
   by_cases hc : (allN l y).1 = l.length
   ·rw [if_pos hc, if_pos (by simp [hc])]
   ·rw [if_neg hc, if_neg (by simp [hc]), show i + 1 + (allN l y).1 = i + ((allN l y).1 + 1) by omega]
def allOf (o : List Int) (ds : List (List Int)) (s : List Int) (n : Int) (L : List Ed) : At × Int × Bool :=
 bif atlasB o ds s n then ((allN L (n, (o, (ds, s)))).2, (((allN L (n, (o, (ds, s)))).1 : Nat) : Int), true) else ((0, ([], ([], []))), 0, false)
theorem im_EditAll_eq {o s : List Int} {ds : List (List Int)} (ho : Low1 o) (hd : Low2 ds) (hs : Low1 s) (n : Int) (L : List Ed) (hL : ∀ e ∈ L, Low1 e.2.2.2.2) (hn : L.length ≤ 1048576) :
  F_zf o ds s n L = some ((allOf o ds s n L).1.1, ((allOf o ds s n L).2.1, ((allOf o ds s n L).2.2, ((allOf o ds s n L).1.2.1, ((allOf o ds s n L).1.2.2.1, (allOf o ds s n L).1.2.2.2))))) := by
 unfold F_zf T_zf allOf
 rw [Tr.ev_c, im_IsAtlas_eq ho hd hs, Option.bind_some, Tr.ev_t]
 cases hb : atlasB o ds s n with
 | false => rfl
 | true =>
  have hx : AtA (n, (o, (ds, s))) := atl_iff.1 hb
  have hl := im_all_loop L hL hn 0 L 0 (n, (o, (ds, s))) (by omega) rfl hx
  rw [Bool.not_true, cond_false, Tr.ev_c, ecopied_eq ho hd hs, Option.bind_some, Tr.ev_c]
  have hl' : wcw (L, (L, (((L.length : Nat) : Int), (0 : Int)))) ((0 : Int), (n, (o, (ds, s)))) = _ := hl
  simp only at hl' ⊢
  rw [hl', Option.bind_some]
  by_cases hc : (allN L (n, (o, (ds, s)))).1 = L.length
  ·rw [if_pos hc, ev_s_inl, Tr.ev_l, hc]
   rfl
  ·rw [if_neg hc, ev_s_inr, Tr.ev_l, Nat.zero_add]
   rfl
theorem sp_EditAll_eq {o s : List Int} {ds : List (List Int)} (ho : Low1 o) (hd : Low2 ds) (hs : Low1 s) (hsm : o.length ≤ 1000 ∧ ds.length ≤ 1000 ∧ (∀ r ∈ ds, r.length ≤ 1000) ∧ s.length ≤ 1000) (n : Int) (L : List Ed) (hL : ∀ e ∈ L, Low1 e.2.2.2.2) (hn : L.length ≤ 1048576) :
  wgb o ds s n L = some ((allOf o ds s n L).1.2.1, ((allOf o ds s n L).1.2.2.1, ((allOf o ds s n L).1.2.2.2, ((allOf o ds s n L).1.1, ((allOf o ds s n L).2.1, (allOf o ds s n L).2.2))))) := by
 unfold wgb wlk allOf
 rw [Tr.ev_c, l12Good_eq ho hd hs, Option.bind_some, Tr.ev_t]
 cases hb : atlasB o ds s n with
 | false => rfl
 | true =>
  have hx : AtA (n, (o, (ds, s))) := atl_iff.1 hb
  have hl := sp_all_loop L hL hn 0 L 0 (n, (o, (ds, s))) (by omega) rfl hx
  rw [Bool.not_true, cond_false, Tr.ev_c, eown12_eq hsm.1 hsm.2.1 hsm.2.2.1 hsm.2.2.2, Option.bind_some, Tr.ev_c]
  have hl' : wbj (L, (0 : Int)) ((0 : Int), (o, (ds, (s, n)))) = _ := hl
  simp only at hl' ⊢
  rw [hl', Option.bind_some]
  by_cases hc : (allN L (n, (o, (ds, s)))).1 = L.length
  ·rw [if_pos hc, ev_s_inl, Tr.ev_l, hc]
   rfl
  ·rw [if_neg hc, ev_s_inr, Tr.ev_l, Nat.zero_add]
   rfl
theorem allOf_low (o s : List Int) (ds : List (List Int)) (n : Int) (L : List Ed) : Low1 (allOf o ds s n L).1.2.1 ∧ Low2 (allOf o ds s n L).1.2.2.1 ∧ Low1 (allOf o ds s n L).1.2.2.2 ∧ ((allOf o ds s n L).2.2 = true → atlasB (allOf o ds s n L).1.2.1 (allOf o ds s n L).1.2.2.1 (allOf o ds s n L).1.2.2.2 (allOf o ds s n L).1.1 = true) := by
 unfold allOf
 cases hb : atlasB o ds s n with
 | false => exact ⟨elow0, elow00, elow0, fun h => by cases h⟩
 | true =>
  have hx : AtA (n, (o, (ds, s))) := atl_iff.1 hb
  have h := (allN_ok L _ hx).1
  obtain ⟨h1, h2⟩ := fld_low h.fld
  exact ⟨h1, h2, h.set.low h.fld.len, fun _ => atl_iff.2 h⟩
end Go.Proofs.YtnagpmhaddfgmaaGreat
