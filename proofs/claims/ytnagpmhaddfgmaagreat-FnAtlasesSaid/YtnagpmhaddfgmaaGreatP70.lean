/-
 Plain laws: edits one by one, as both sides make them; atlases compared; what undoes an edit.
-/
import Derived.Test.YtnagpmhaddfgmaaGreatP49
import Derived.Test.YtnagpmhaddfgmaaGreatQ33
namespace Go.Proofs.YtnagpmhaddfgmaaGreat
theorem vInts_eq {a b : List Int} (ha : Low1 a) : wai a b = some (a == b) := by
 unfold Low1 at ha
 unfold wai waav
 by_cases h : a.length = b.length
 ·have hs := eq_loop (f := fun v => (wcq (a, b) v).ev) (a := a) (b := b) 0 h (fun i hi => by
   have hi' : i < b.length := by omega
   simp (disch := omega) only [EV, wcq, hi, hi']
   cases hq : (a.getD i 0 == b.getD i 0) <;> simp only [bne, hq] <;> rfl) (by simp (disch := omega) only [EV, wcq, Nat.lt_irrefl])
  simp (disch := omega) only [EV, int_ne, h, wmf, hs]
  cases (a == b) <;> rfl
 ·have : (a == b) = false := by
   rw [beq_eq_false_iff_ne]
   exact fun e => h (by rw [e])
  simp (disch := omega) only [EV, int_ne, h, this]
theorem vTable_eq {a b : List (List Int)} (ha : Low2 a) : wpj a b = some (a == b) := by
 obtain ⟨ha, hr⟩ := ha
 unfold wpj waaz
 by_cases h : a.length = b.length
 ·have hs := eq_loop (f := fun v => (wcr (a, b) v).ev) (a := a) (b := b) [] h (fun i hi => by
   have hi' : i < b.length := by omega
   simp (disch := omega) only [EV, wcr, hi, hi', vInts_eq (hr _ (getD_mem (d := []) hi))]
   cases (a.getD i [] == b.getD i []) <;> rfl) (by simp (disch := omega) only [EV, wcr, Nat.lt_irrefl])
  simp (disch := omega) only [EV, int_ne, h, wmg, hs]
  cases (a == b) <;> rfl
 ·have : (a == b) = false := by
   rw [beq_eq_false_iff_ne]
   exact fun e => h (by rw [e])
  simp (disch := omega) only [EV, int_ne, h, this]
theorem vField_self {o : List Int} {ds : List (List Int)} (ho : Low1 o) (hd : Low2 ds) : wbj o ds o ds = some true := by
 unfold wbj wabe
 simp (disch := omega) only [EV, vInts_eq ho, vTable_eq hd, beq_self_eq_true]
theorem vAtlas_self {o s : List Int} {ds : List (List Int)} (ho : Low1 o) (hd : Low2 ds) (hs : Low1 s) (n : Int) : web o ds s n o ds s n = some true := by
 unfold web wabf
 simp (disch := omega) only [EV, vField_self ho hd, vInts_eq hs, beq_self_eq_true]
def newOf (o : List Int) (ds : List (List Int)) : Int × Bool × List Int × List (List Int) × List Int := bif fieldB o ds then (0, true, o, ds, []) else (0, false, [], [], [])
theorem im_NewAtlas_eq {o : List Int} {ds : List (List Int)} (ho : Low1 o) (hd : Low2 ds) : F_zy o ds = some (newOf o ds) := by
 unfold F_zy T_zy newOf
 simp (disch := omega) only [EV, IsField_eq ho hd, ecopied_eq ho hd elow0]
 cases fieldB o ds <;> rfl
theorem sp_NewAtlas_eq {o : List Int} {ds : List (List Int)} (ho : Low1 o) (hd : Low2 ds) (h : o.length ≤ 1000 ∧ ds.length ≤ 1000 ∧ ∀ r ∈ ds, r.length ≤ 1000) : wnj o ds = some (newOf o ds) := by
 have e : atlasB o ds [] 0 = fieldB o ds := by
  unfold atlasB
  rw [show risingB [] 0 ((o.length : Int) - 1) = true from ris_iff.2 ⟨(fun x hx => by cases hx), List.Pairwise.nil⟩, show isIn 0 0 1000 = true from rfl]
  simp
 unfold wnj wud newOf
 simp (disch := omega) only [EV, l12Good_eq ho hd elow0, e, eown12_eq h.1 h.2.1 h.2.2 (show ([] : List Int).length ≤ 1000 by simp)]
 cases fieldB o ds <;> rfl
abbrev At := Int × List Int × List (List Int) × List Int
abbrev Ed := Int × Int × Int × Int × List Int
abbrev ed0 : Ed := ((0 : Int), ((0 : Int), ((0 : Int), ((0 : Int), ([] : List Int)))))
def stepOf (x : At) (e : Ed) : Option At := doOf x.2.1 x.2.2.1 x.2.2.2 x.1 e.1 e.2.1 e.2.2.1 e.2.2.2.1 e.2.2.2.2
def allN : List Ed → At → Nat × At
 | [], x => (0, x)
 | e :: l, x => match stepOf x e with
  | some y => ((allN l y).1 + 1, (allN l y).2)
  | none => (0, x)
def AtA (x : At) : Prop := Atl x.2.1 x.2.2.1 x.2.2.2 x.1
theorem allN_ok : ∀ (l : List Ed) (x : At), AtA x → AtA (allN l x).2 ∧ (allN l x).1 ≤ l.length
 | [], _, h => ⟨h, Nat.le_refl _⟩
 | e :: l, x, h => by
  unfold allN
  cases hs : stepOf x e with
  | none => exact ⟨h, Nat.zero_le _⟩
  | some y =>
   obtain ⟨h1, h2⟩ := allN_ok l y (doOf_atl hs)
   exact ⟨h1, by simp only [List.length_cons]; omega⟩
theorem im_all_loop (L : List Ed) (hL : ∀ e ∈ L, Low1 e.2.2.2.2) (hn : L.length ≤ 1000000) (k3 : Int) : ∀ (l : List Ed) (i : Nat) (x : At), i + l.length = L.length → L.drop i = l → AtA x →
  wea (L, (L, (((L.length : Nat) : Int), k3))) ((i : Int), x) = some (if (allN l x).1 = l.length then .inl (allN l x).2 else .inr (((i + (allN l x).1 : Nat) : Int), (allN l x).2)) := by
 intro l
 induction l with
 | nil =>
  intro i x hi hd hx
  simp only [List.length_nil, Nat.add_zero] at hi
  subst hi
  unfold wea
  rw [iter_eq]
  simp (disch := omega) only [EV, wco, Nat.lt_irrefl]
  rfl
 | cons e l ih =>
  intro i x hi hd hx
  simp only [List.length_cons] at hi
  have hi' : i < L.length := by omega
  have hg : L.getD i ed0 = e := by
   have := congrArg (fun l : List Ed => l[0]?) hd
   simp only [List.getElem?_drop, Nat.add_zero, List.getElem?_cons_zero] at this
   rw [List.getD_eq_getElem?_getD, this]; rfl
  have hm : e ∈ L := by rw [← hg]; exact getD_mem hi'
  have he := iedit_eq hx e.1 e.2.1 e.2.2.1 e.2.2.2.1 (hL e hm)
  have hd2 : L.drop (i + 1) = l := by
   have := congrArg (List.drop 1) hd
   rw [List.drop_drop] at this
   exact this
  unfold wea at ih ⊢
  rw [iter_eq]
  unfold allN
  cases hs : stepOf x e with
  | none =>
   have hs' : doOf x.2.1 x.2.2.1 x.2.2.2 x.1 e.1 e.2.1 e.2.2.1 e.2.2.2.1 e.2.2.2.2 = none := hs
   rw [hs'] at he
   have hev : (wco (L, (L, (((L.length : Nat) : Int), k3))) ((i : Int), x)).ev = some (.inr (.inr ((i : Int), x))) := by
    simp (disch := omega) only [EV, wco, hi', hg, he, doT]
   rw [hev]
   simp only
   rw [if_neg (by simp)]
   rfl
  | some y =>
   have hs' : doOf x.2.1 x.2.2.1 x.2.2.2 x.1 e.1 e.2.1 e.2.2.1 e.2.2.2.1 e.2.2.2.2 = some y := hs
   rw [hs'] at he
   have hev : (wco (L, (L, (((L.length : Nat) : Int), k3))) ((i : Int), x)).ev = some (.inl (((i + 1 : Nat) : Int), y)) := by
    simp (disch := omega) only [EV, wco, hi', hg, he, doT]
    rfl
   rw [hev]
   simp only
   rw [ih (i + 1) y (by omega) hd2 (doOf_atl hs)]
   by_cases hc : (allN l y).1 = l.length
   ·rw [if_pos hc, if_pos (by simp [hc])]
   ·rw [if_neg hc, if_neg (by simp [hc]), show i + 1 + (allN l y).1 = i + ((allN l y).1 + 1) by omega]
theorem sp_all_loop (L : List Ed) (hL : ∀ e ∈ L, Low1 e.2.2.2.2) (hn : L.length ≤ 1000000) (k3 : Int) : ∀ (l : List Ed) (i : Nat) (x : At), i + l.length = L.length → L.drop i = l → AtA x →
  wcp (L, k3) ((i : Int), (x.2.1, (x.2.2.1, (x.2.2.2, x.1)))) = some (if (allN l x).1 = l.length then .inl ((allN l x).2.2.1, ((allN l x).2.2.2.1, ((allN l x).2.2.2.2, (allN l x).2.1))) else .inr (((i + (allN l x).1 : Nat) : Int), ((allN l x).2.2.1, ((allN l x).2.2.2.1, ((allN l x).2.2.2.2, (allN l x).2.1))))) := by
 intro l
 induction l with
 | nil =>
  intro i x hi hd hx
  simp only [List.length_nil, Nat.add_zero] at hi
  subst hi
  unfold wcp
  rw [iter_eq]
  simp (disch := omega) only [EV, wah, Nat.lt_irrefl]
  rfl
 | cons e l ih =>
  intro i x hi hd hx
  simp only [List.length_cons] at hi
  have hi' : i < L.length := by omega
  have hg : L.getD i ed0 = e := by
   have := congrArg (fun l : List Ed => l[0]?) hd
   simp only [List.getElem?_drop, Nat.add_zero, List.getElem?_cons_zero] at this
   rw [List.getD_eq_getElem?_getD, this]; rfl
  have hm : e ∈ L := by rw [← hg]; exact getD_mem hi'
  have he := edo_eq hx e.1 e.2.1 e.2.2.1 e.2.2.2.1 (hL e hm)
  have hd2 : L.drop (i + 1) = l := by
   have := congrArg (List.drop 1) hd
   rw [List.drop_drop] at this
   exact this
  unfold wcp at ih ⊢
  rw [iter_eq]
  unfold allN
  cases hs : stepOf x e with
  | none =>
   have hs' : doOf x.2.1 x.2.2.1 x.2.2.2 x.1 e.1 e.2.1 e.2.2.1 e.2.2.2.1 e.2.2.2.2 = none := hs
   rw [hs'] at he
   have hev : (wah (L, k3) ((i : Int), (x.2.1, (x.2.2.1, (x.2.2.2, x.1))))).ev = some (.inr (.inr ((i : Int), (x.2.1, (x.2.2.1, (x.2.2.2, x.1)))))) := by
    simp (disch := omega) only [EV, wah, hi', hg, he, doT]
   rw [hev]
   simp only
   rw [if_neg (by simp)]
   rfl
  | some y =>
   have hs' : doOf x.2.1 x.2.2.1 x.2.2.2 x.1 e.1 e.2.1 e.2.2.1 e.2.2.2.1 e.2.2.2.2 = some y := hs
   rw [hs'] at he
   have hev : (wah (L, k3) ((i : Int), (x.2.1, (x.2.2.1, (x.2.2.2, x.1))))).ev = some (.inl (((i + 1 : Nat) : Int), (y.2.1, (y.2.2.1, (y.2.2.2, y.1))))) := by
    simp (disch := omega) only [EV, wah, hi', hg, he, doT]
    rfl
   rw [hev]
   simp only
   rw [ih (i + 1) y (by omega) hd2 (doOf_atl hs)]
   by_cases hc : (allN l y).1 = l.length
   ·rw [if_pos hc, if_pos (by simp [hc])]
   ·rw [if_neg hc, if_neg (by simp [hc]), show i + 1 + (allN l y).1 = i + ((allN l y).1 + 1) by omega]
def allOf (o : List Int) (ds : List (List Int)) (s : List Int) (n : Int) (L : List Ed) : At × Int × Bool :=
 bif atlasB o ds s n then ((allN L (n, (o, (ds, s)))).2, (((allN L (n, (o, (ds, s)))).1 : Nat) : Int), true) else ((0, ([], ([], []))), 0, false)
theorem im_EditAll_eq {o s : List Int} {ds : List (List Int)} (ho : Low1 o) (hd : Low2 ds) (hs : Low1 s) (n : Int) (L : List Ed) (hL : ∀ e ∈ L, Low1 e.2.2.2.2) (hn : L.length ≤ 1000000) :
  F_zg o ds s n L = some ((allOf o ds s n L).1.1, ((allOf o ds s n L).2.1, ((allOf o ds s n L).2.2, ((allOf o ds s n L).1.2.1, ((allOf o ds s n L).1.2.2.1, (allOf o ds s n L).1.2.2.2))))) := by
 unfold F_zg T_zg allOf
 rw [Tr.ev_c, im_IsAtlas_eq ho hd hs, Option.bind_some, Tr.ev_t]
 cases hb : atlasB o ds s n with
 | false => rfl
 | true =>
  have hx : AtA (n, (o, (ds, s))) := atl_iff.1 hb
  have hl := im_all_loop L hL hn 0 L 0 (n, (o, (ds, s))) (by omega) rfl hx
  rw [Bool.not_true, cond_false, Tr.ev_c, ecopied_eq ho hd hs, Option.bind_some, Tr.ev_c]
  have hl' : wea (L, (L, (((L.length : Nat) : Int), (0 : Int)))) ((0 : Int), (n, (o, (ds, s)))) = _ := hl
  simp only at hl' ⊢
  rw [hl', Option.bind_some]
  by_cases hc : (allN L (n, (o, (ds, s)))).1 = L.length
  ·rw [if_pos hc, ev_s_inl, Tr.ev_l, hc]
   rfl
  ·rw [if_neg hc, ev_s_inr, Tr.ev_l, Nat.zero_add]
   rfl
theorem sp_EditAll_eq {o s : List Int} {ds : List (List Int)} (ho : Low1 o) (hd : Low2 ds) (hs : Low1 s) (hsm : o.length ≤ 1000 ∧ ds.length ≤ 1000 ∧ (∀ r ∈ ds, r.length ≤ 1000) ∧ s.length ≤ 1000) (n : Int) (L : List Ed) (hL : ∀ e ∈ L, Low1 e.2.2.2.2) (hn : L.length ≤ 1000000) :
  wpi o ds s n L = some ((allOf o ds s n L).1.2.1, ((allOf o ds s n L).1.2.2.1, ((allOf o ds s n L).1.2.2.2, ((allOf o ds s n L).1.1, ((allOf o ds s n L).2.1, (allOf o ds s n L).2.2))))) := by
 unfold wpi waaq allOf
 rw [Tr.ev_c, l12Good_eq ho hd hs, Option.bind_some, Tr.ev_t]
 cases hb : atlasB o ds s n with
 | false => rfl
 | true =>
  have hx : AtA (n, (o, (ds, s))) := atl_iff.1 hb
  have hl := sp_all_loop L hL hn 0 L 0 (n, (o, (ds, s))) (by omega) rfl hx
  rw [Bool.not_true, cond_false, Tr.ev_c, eown12_eq hsm.1 hsm.2.1 hsm.2.2.1 hsm.2.2.2, Option.bind_some, Tr.ev_c]
  have hl' : wcp (L, (0 : Int)) ((0 : Int), (o, (ds, (s, n)))) = _ := hl
  simp only at hl' ⊢
  rw [hl', Option.bind_some]
  by_cases hc : (allN L (n, (o, (ds, s)))).1 = L.length
  ·rw [if_pos hc, ev_s_inl, Tr.ev_l, hc]
   rfl
  ·rw [if_neg hc, ev_s_inr, Tr.ev_l, Nat.zero_add]
   rfl
theorem allOf_low (o s : List Int) (ds : List (List Int)) (n : Int) (L : List Ed) : Low1 (allOf o ds s n L).1.2.1 ∧ Low2 (allOf o ds s n L).1.2.2.1 ∧ Low1 (allOf o ds s n L).1.2.2.2 ∧ ((allOf o ds s n L).2.2 = true → atlasB (allOf o ds s n L).1.2.1 (allOf o ds s n L).1.2.2.1 (allOf o ds s n L).1.2.2.2 (allOf o ds s n L).1.1 = true) := by
 unfold allOf
 cases hb : atlasB o ds s n with
 | false => exact ⟨elow0, elow00, elow0, fun h => by cases h⟩
 | true =>
  have hx : AtA (n, (o, (ds, s))) := atl_iff.1 hb
  have h := (allN_ok L _ hx).1
  obtain ⟨h1, h2⟩ := fld_low h.fld
  exact ⟨h1, h2, h.set.low h.fld.len, fun _ => atl_iff.2 h⟩
theorem doOf_parts {o s : List Int} {ds : List (List Int)} {n k a b c : Int} {l : List Int} {y : At} (h : doOf o ds s n k a b c l = some y) : plainB k a b c l = true ∧ mayB o.length ds.length s k a b l = true ∧ y = (n + 1, editOf o ds s k a b c l) := by
 unfold doOf at h
 cases hb : (plainB k a b c l && (mayB o.length ds.length s k a b l && atlasB (editOf o ds s k a b c l).1 (editOf o ds s k a b c l).2.1 (editOf o ds s k a b c l).2.2 (n + 1))) with
 | false => rw [hb] at h; cases h
 | true =>
  rw [hb] at h
  simp only [Bool.and_eq_true] at hb
  exact ⟨hb.1, hb.2.1, (Option.some.inj h).symm⟩
theorem doOf_back {o s o' s' : List Int} {ds ds' : List (List Int)} {n n' k a : Int} (h : Atl o ds s n) (hn : n' = n + 1) (hlt : n' < 1000) (hp : plainB k a 0 0 [] = true) (hm : mayB o'.length ds'.length s' k a 0 [] = true) (he : editOf o' ds' s' k a 0 0 [] = (o, (ds, s))) :
  doOf o' ds' s' n' k a 0 0 [] = some (n' + 1, (o, (ds, s))) := by
 unfold doOf
 rw [he, hp, hm]
 have hc := h.count
 have : atlasB o ds s (n' + 1) = true := atl_iff.2 ⟨h.fld, h.set, by omega⟩
 rw [this]
 rfl
theorem cut_last {α : Type} (l : List α) (x : α) : cutAt ((l.length : Nat) : Int) (l ++ [x]) = l := by
 unfold cutAt
 simp
theorem cut_zip : ∀ (ds : List (List Int)) (l : List Int) (n : Nat), l.length = ds.length → (∀ r ∈ ds, r.length = n) → (List.zipWith (fun r x => r ++ [x]) ds l).map (cutAt (n : Int)) = ds
 | [], [], _, _, _ => rfl
 | [], _ :: _, _, h, _ => by simp at h
 | _ :: _, [], _, h, _ => by simp at h
 | r :: ds, x :: l, n, h, hr => by
  simp only [List.zipWith_cons_cons, List.map_cons]
  rw [cut_zip ds l n (by simpa using h) fun q hq => hr q (List.mem_cons_of_mem _ hq)]
  congr 1
  have := hr r List.mem_cons_self
  rw [← this]
  exact cut_last r x
theorem dec_ris {n : Nat} {s : List Int} (h : ris n s) : s.map (decAbove (n : Int)) = s := by
 have : s.map (decAbove (n : Int)) = s.map id := List.map_congr_left fun x hx => by
  have := h.1 x hx
  unfold decAbove
  rw [if_neg (by omega)]
  rfl
 rw [this, List.map_id]
theorem wo_ins {x : Int} : ∀ {s : List Int}, x ∉ s → wo (ins x s) x = s
 | [], _ => by simp [wo, ins]
 | y :: s, h => by
  have hy : y ≠ x := fun e => h (by rw [e]; exact List.mem_cons_self)
  have hs : x ∉ s := fun hm => h (List.mem_cons_of_mem _ hm)
  have hf : s.filter (fun z => z != x) = s := List.filter_eq_self.2 fun z hz => by
   simp only [bne_iff_ne]
   exact fun e => hs (e ▸ hz)
  unfold ins
  split
  ·unfold wo
   rw [List.filter_cons, if_pos (by simpa using hy)]
   congr 1
   exact wo_ins hs
  ·unfold wo
   rw [List.filter_cons, if_neg (by simp), List.filter_cons, if_pos (by simpa using hy), hf]
def eintB : Int → Int → Bool
 | .ofNat a, .ofNat b => Nat.beq a b
 | _, _ => false
def elstB : List Int → List Int → Bool
 | [], [] => true
 | a :: l, b :: r => eintB a b && elstB l r
 | _, _ => false
theorem elstB_eq : ∀ {a b : List Int}, elstB a b = true → a = b
 | [], [], _ => rfl
 | [], _ :: _, h => by cases h
 | _ :: _, [], h => by cases h
 | x :: a, y :: b, h => by
  unfold elstB at h
  rw [Bool.and_eq_true] at h
  have e : x = y := by
   have h1 := h.1
   unfold eintB at h1
   split at h1
   ·exact congrArg Int.ofNat (Nat.eq_of_beq_eq_true h1)
   ·cases h1
  rw [e, elstB_eq h.2]
def echkM (n : Nat) : Bool := (esubs n).all fun s => s.isEmpty || (setsOf n).any fun t => elstB s t
theorem echkM_all : ∀ n : Nat, 1 ≤ n → n ≤ 7 → echkM n = true
 | 0, h, _ => by omega
 | 1, _, _ => by kernel_rfl
 | 2, _, _ => by kernel_rfl
 | 3, _, _ => by kernel_rfl
 | 4, _, _ => by kernel_rfl
 | 5, _, _ => by kernel_rfl
 | 6, _, _ => by kernel_rfl
 | 7, _, _ => by kernel_rfl
 | n + 8, _, h => by omega
theorem ris_sets {n : Nat} (h1 : 1 ≤ n) (h7 : n ≤ 7) {s : List Int} (hs : ris n s) (h0 : s ≠ []) : s ∈ setsOf n := by
 have h := List.all_eq_true.1 (echkM_all n h1 h7) s (esubs_mem n hs.2 hs.1)
 rw [Bool.or_eq_true] at h
 rcases h with h | h
 ·exact absurd (List.isEmpty_iff.1 h) h0
 ·obtain ⟨t, ht, e⟩ := List.any_eq_true.1 h
  rw [elstB_eq e]
  exact ht
end Go.Proofs.YtnagpmhaddfgmaaGreat
