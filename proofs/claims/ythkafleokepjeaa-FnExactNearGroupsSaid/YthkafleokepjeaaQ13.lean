/-
  The law of near groups.
-/
import Derived.Test.YthkafleokepjeaaP3
import Derived.Test.YthkafleokepjeaaP7
import Derived.Test.YthkafleokepjeaaP20
namespace Go.Proofs.Ythkafleokepjeaa

def nearG (m : List (List Int)) (d : Int) (x : Nat) (g : List Int) : Bool := g.all fun b => decide (at2 m x b.toNat < d)
def placeAt (o : Option Nat) (out : List (List Int)) (x : Nat) : List (List Int) := match o with
  | none => out ++ [[(x : Int)]]
  | some k => out.set k (out.getD k [] ++ [(x : Int)])
def groupStep (m : List (List Int)) (d : Int) (out : List (List Int)) (x : Nat) : List (List Int) := placeAt (out.findIdx? (nearG m d x)) out x
def groupsOf (m : List (List Int)) (d : Int) : List (List Int) := (List.range m.length).foldl (groupStep m d) []
/-- What the groups of the first x places are. -/
def GI (x : Nat) (out : List (List Int)) : Prop := out.length ≤ x ∧ ∀ g ∈ out, g.length ≤ x ∧ ∀ b ∈ g, 0 ≤ b ∧ b < (x : Int)
theorem GI.step {x : Nat} {out : List (List Int)} (h : GI x out) (o : Option Nat) : GI (x + 1) (placeAt o out x) := by
  obtain ⟨h1, h2⟩ := h
  have h3 : ∀ g ∈ out, g.length ≤ x + 1 ∧ ∀ b ∈ g, 0 ≤ b ∧ b < ((x + 1 : Nat) : Int) := fun g hg => ⟨by have := (h2 g hg).1; omega, fun b hb => by have := (h2 g hg).2 b hb; omega⟩
  cases o with
  | none =>
    refine ⟨by simp [placeAt]; omega, fun g hg => ?_⟩
    simp only [placeAt, List.mem_append, List.mem_singleton] at hg
    rcases hg with hg | rfl
    · exact h3 g hg
    · refine ⟨by simp, fun b hb => ?_⟩
      simp only [List.mem_singleton] at hb
      omega
  | some k =>
    refine ⟨by simp [placeAt]; omega, fun g hg => ?_⟩
    rcases List.mem_or_eq_of_mem_set hg with hg | rfl
    · exact h3 g hg
    · by_cases hk : k < out.length
      · have h4 := h2 _ (getD_mem (d := []) hk)
        refine ⟨by rw [List.length_append, List.length_singleton]; omega, fun b hb => ?_⟩
        rw [List.mem_append] at hb
        rcases hb with hb | hb
        · have := h4.2 b hb; omega
        · simp only [List.mem_singleton] at hb
          omega
      · have e : out.getD k [] = [] := by rw [List.getD_eq_getElem?_getD, List.getElem?_eq_none (by omega)]; rfl
        rw [e]
        refine ⟨by simp, fun b hb => ?_⟩
        simp only [List.nil_append, List.mem_singleton] at hb
        omega
theorem foldl_and {α : Type} (p : α → Bool) : ∀ (l : List α) (b : Bool), l.foldl (fun s x => s && p x) b = (b && l.all p)
  | [], b => by simp
  | x :: l, b => by simp only [List.foldl_cons, foldl_and p l, List.all_cons, Bool.and_assoc]
/-- The first of all that are so, looked for from the end. -/
theorem fold_down {α : Type} (l : List α) (d : α) (p : α → Bool) : ∀ j, j ≤ l.length → (List.range j).foldl (fun (s : Int) i => if p (l.getD (l.length - 1 - i) d) then ((l.length - 1 - i : Nat) : Int) else s) (l.length : Int) =
    ((l.drop (l.length - j)).findIdx? p).elim (l.length : Int) (fun k => ((k + (l.length - j) : Nat) : Int))
  | 0, _ => by simp
  | j + 1, h => by
    rw [foldl_range_succ, fold_down l d p j (by omega)]
    have e : l.length - (j + 1) = l.length - 1 - j := by omega
    have hlt : l.length - 1 - j < l.length := by omega
    have e2 : l.drop (l.length - (j + 1)) = l.getD (l.length - 1 - j) d :: l.drop (l.length - j) := by
      rw [e, List.drop_eq_getElem_cons hlt, List.getD_eq_getElem?_getD, List.getElem?_eq_getElem hlt, show l.length - 1 - j + 1 = l.length - j by omega]
      rfl
    rw [e2, List.findIdx?_cons]
    cases p (l.getD (l.length - 1 - j) d) with
    | true =>
      simp only [if_true, Option.elim_some]
      omega
    | false =>
      simp only [Bool.false_eq_true, if_false]
      cases (l.drop (l.length - j)).findIdx? p with
      | none => rfl
      | some k =>
        simp only [Option.map_some, Option.elim_some]
        omega
theorem GI.groups (m : List (List Int)) (d : Int) : GI m.length (groupsOf m d) := by
  have key : ∀ n, GI n ((List.range n).foldl (groupStep m d) []) := by
    intro n
    induction n with
    | zero => exact ⟨by simp, fun g hg => by simp at hg⟩
    | succ n ih =>
      rw [foldl_range_succ]
      exact ih.step _
  exact key _
theorem GI.low {m : List (List Int)} (hm : Ground m) (d : Int) : Low2 (groupsOf m d) := by
  obtain ⟨h1, h2⟩ := GI.groups m d
  have := hm.len
  refine ⟨by omega, fun r hr => ?_⟩
  have := (h2 r hr).1
  unfold Low1
  omega
theorem findIdx_lt {α : Type} {l : List α} {p : α → Bool} {k : Nat} (h : l.findIdx? p = some k) : k < l.length := by
  obtain ⟨h1, _⟩ := List.findIdx?_eq_some_iff_getElem.1 h
  exact h1

theorem isNear_eq {m : List (List Int)} (hm : Ground m) (d : Int) {x : Nat} (hx : x < m.length) {g : List Int} (hg : g.length ≤ x ∧ ∀ b ∈ g, 0 ≤ b ∧ b < (x : Int)) : F_im_isNear m (x : Int) g d = some (nearG m d x g) := by
  have := hm.len
  unfold F_im_isNear T_im_isNear
  rw [Tr.ev_c, containsFunc_int (by omega) (q := fun b => !(decide (at2 m x b.toNat < d))) fun b hb => by
    obtain ⟨h0, h1⟩ := hg.2 b hb
    obtain ⟨k, rfl⟩ := Int.eq_ofNat_of_zero_le h0
    have hk : k < m.length := by omega
    have e1 : (m.getD x []).getD k 0 = at2 m x k := rfl
    unfold F_im_isNear_1 T_im_isNear_1
    simp (disch := omega) only [EV, hx, hm.rowLen hx, hk, e1]
    by_cases h : at2 m x k < d
    · rw [decide_eq_true h, decide_eq_false (by omega)]; rfl
    · rw [decide_eq_false h, decide_eq_true (by omega)]; rfl]
  simp (disch := omega) only [EV]
  unfold nearG
  rw [List.any_eq_not_all_not]
  simp
theorem im_groups {m : List (List Int)} (hm : Ground m) (d : Int) : L_im_NearGroups_0 ((m.length : Int), (m, d)) ((0 : Int), []) = some (groupsOf m d) := by
  have hl := hm.len
  have := (iter_fold (f := fun v => (S_im_NearGroups_0 ((m.length : Int), (m, d)) v).ev) (n := m.length) (mk := fun i s => ((i : Int), s)) (I := GI) (g := groupStep m d) (fin := fun s => s) (s0 := []) ⟨by simp, fun g hg => by simp at hg⟩
    (fun x out hx hI => ⟨by
      have h1 := hI.1
      have hi := indexFunc_Sint (l := out) (by omega) (p := fun h8_ => Option.bind (F_im_NearGroups_1 h8_.1 m (x : Int) d) fun y9_ => some y9_) (q := nearG m d x) fun g hg => by
        unfold F_im_NearGroups_1 T_im_NearGroups_1
        simp (disch := omega) only [EV, isNear_eq hm d hx (hI.2 g hg)]
      simp (disch := omega) only [EV, S_im_NearGroups_0, hx, hi]
      unfold groupStep
      cases hf : out.findIdx? (nearG m d x) with
      | none =>
        have hm1 : (-1 : Int) < 0 := by omega
        have hg : (out.length + 1) * 24 ≤ 140737488355328 := by omega
        simp (disch := omega) only [EV, Option.elim_none, hm1, hg]
        simp [placeAt]
      | some k =>
        have hk := findIdx_lt hf
        have h2 := (hI.2 _ (getD_mem (d := []) hk)).1
        have hm1 : ¬ (k : Int) < 0 := by omega
        have hg : ((out.getD k []).length + 1) * 8 ≤ 140737488355328 := by omega
        simp (disch := omega) only [EV, Option.elim_some, hm1, hk, List.length_singleton, hg]
        rfl, hI.step _⟩)
    (fun s _ => by simp (disch := omega) only [EV, S_im_NearGroups_0, Nat.lt_irrefl])).1
  exact this
theorem im_NearGroups_eq {m : List (List Int)} (hm : Low2 m) (d : Int) : F_im_NearGroups m d = some (bif groundB m && isIn d 1 100 then (true, groupsOf m d) else (false, [])) := by
  unfold F_im_NearGroups T_im_NearGroups
  simp (disch := omega) only [EV, im_IsGround_eq hm, between_eq]
  cases h : groundB m with
  | false => rfl
  | true =>
    simp (disch := omega) only [EV, im_groups ((groundB_iff m).1 h)]
    cases isIn d 1 100 <;> rfl
theorem sp_near {m : List (List Int)} (hm : Ground m) (d : Int) {x : Nat} (hx : x < m.length) (at_ : Int) {out : List (List Int)} (hI : GI x out) {i : Nat} (hi : i < out.length) :
    L_sp_NearGroups_4 (m, (d, ((x : Int), (at_, ((i : Int), out))))) (true, (0 : Int)) = some (nearG m d x (out.getD i [])) := by
  have hl := hm.len
  obtain ⟨h1, h2⟩ := hI.2 _ (getD_mem (d := []) hi)
  have := (iter_foldl (f := fun v => (S_sp_NearGroups_4 (m, (d, ((x : Int), (at_, ((i : Int), out))))) v).ev) (out.getD i []) 0 (mk := fun i s => (s, (i : Int))) (I := fun _ _ => True) (g := fun s b => s && decide (at2 m x b.toNat < d)) (fin := fun s => s) (s0 := true) trivial
    (fun j s hj _ => ⟨by
      obtain ⟨h0, h1⟩ := h2 _ (getD_mem (d := 0) hj)
      simp (disch := omega) only [EV, S_sp_NearGroups_4, hi, hj]
      generalize (out.getD i []).getD j 0 = b at h0 h1 ⊢
      obtain ⟨k, rfl⟩ := Int.eq_ofNat_of_zero_le h0
      have hk : k < m.length := by omega
      have e1 : (m.getD k []).getD x 0 = at2 m x k := hm.sym k x hk hx
      simp (disch := omega) only [EV, hk, hm.rowLen hk, hx, e1]
      cases s <;> rfl, trivial⟩)
    (fun s _ => by simp (disch := omega) only [EV, S_sp_NearGroups_4, hi, Nat.lt_irrefl])).1
  unfold L_sp_NearGroups_4 nearG
  rw [foldl_and, Bool.true_and] at this
  exact this
theorem sp_groups {m : List (List Int)} (hm : Ground m) (d : Int) : L_sp_NearGroups_0 (m, d) ((0 : Int), []) = some (groupsOf m d) := by
  have hl := hm.len
  have := (iter_fold (f := fun v => (S_sp_NearGroups_0 (m, d) v).ev) (n := m.length) (mk := fun i s => ((i : Int), s)) (I := GI) (g := groupStep m d) (fin := fun s => s) (s0 := []) ⟨by simp, fun g hg => by simp at hg⟩
    (fun x out hx hI => ⟨by
      have h1 := hI.1
      have hn := (iter_fold (f := fun v => (S_sp_NearGroups_2 (m, (d, ((x : Int), out))) v).ev) (n := out.length) (mk := fun j s => (s, (out.length : Int) - 1 - (j : Int))) (I := fun _ _ => True)
        (g := fun (s : Int) i => if nearG m d x (out.getD (out.length - 1 - i) []) then ((out.length - 1 - i : Nat) : Int) else s) (fin := fun s => s) (s0 := (out.length : Int)) trivial
        (fun j s hj _ => ⟨by
          have e : (out.length : Int) - 1 - (j : Int) = ((out.length - 1 - j : Nat) : Int) := by omega
          have hlt : out.length - 1 - j < out.length := by omega
          have hge : (0 : Int) ≤ ((out.length - 1 - j : Nat) : Int) := by omega
          rw [e]
          simp (disch := omega) only [EV, S_sp_NearGroups_2, hge, sp_near hm d hx s hI hlt]
          have e2 : ((out.length - 1 - j : Nat) : Int) - 1 = (out.length : Int) - 1 - ((j + 1 : Nat) : Int) := by omega
          rw [e2]
          cases nearG m d x (out.getD (out.length - 1 - j) []) <;> rfl, trivial⟩)
        (fun s _ => by
          have hge : ¬ (0 : Int) ≤ (out.length : Int) - 1 - (out.length : Int) := by omega
          simp (disch := omega) only [EV, S_sp_NearGroups_2, hge])).1
      rw [fold_down out [] (nearG m d x) _ (Nat.le_refl _), Nat.sub_self, List.drop_zero] at hn
      have hw : (out.length : Int) - 1 = (out.length : Int) - 1 - ((0 : Nat) : Int) := by omega
      have hn2 : L_sp_NearGroups_2 (m, (d, ((x : Int), out))) ((out.length : Int), (out.length : Int) - 1) = some ((out.findIdx? (nearG m d x)).elim (out.length : Int) fun k => ((k + 0 : Nat) : Int)) := by
        rw [hw]
        exact hn
      simp (disch := omega) only [EV, S_sp_NearGroups_0, hx, hn2]
      unfold groupStep
      cases hf : out.findIdx? (nearG m d x) with
      | none =>
        have hs : (out ++ [[]]).set out.length ([] : List Int) = out ++ [[]] := by simp
        have hg : (out ++ [[]]).getD out.length ([] : List Int) = [] := by simp
        have hlt : out.length < (out ++ [([] : List Int)]).length := by simp
        have hlen : (out ++ [([] : List Int)]).length = out.length + 1 := by simp
        have hgd : (out.length + 1) * 24 ≤ 140737488355328 := by omega
        simp (disch := omega) only [EV, Option.elim_none, beq_self_eq_true, hgd, hs, hg, hlen, List.length_singleton, List.length_nil, Nat.lt_succ_self]
        simp [placeAt]
      | some k =>
        have hk := findIdx_lt hf
        have h2 := (hI.2 _ (getD_mem (d := []) hk)).1
        have hne : ((k : Int) == (out.length : Int)) = false := by rw [beq_eq_false_iff_ne]; omega
        have hgd : ((out.getD k []).length + 1) * 8 ≤ 140737488355328 := by omega
        simp (disch := omega) only [EV, Option.elim_some, Nat.add_zero, hne, hk, List.length_singleton, hgd]
        rfl, hI.step _⟩)
    (fun s _ => by simp (disch := omega) only [EV, S_sp_NearGroups_0, Nat.lt_irrefl])).1
  exact this
theorem sp_NearGroups_eq {m : List (List Int)} (hm : Low2 m) (d : Int) : F_sp_NearGroups m d = some (bif groundB m && isIn d 1 100 then (true, groupsOf m d) else (false, [])) := by
  unfold F_sp_NearGroups T_sp_NearGroups F_sp_l11Number T_sp_l11Number
  simp (disch := omega) only [EV, l11Ground_eq hm, l1In_eq]
  cases h : groundB m with
  | false => rfl
  | true =>
    simp (disch := omega) only [EV, sp_groups ((groundB_iff m).1 h)]
    cases isIn d 1 100 <;> rfl
theorem law_NearGroups (m : List (List Int)) (d : Int) (hm : Fit tLL m) (_ : Fit tI d) : F_lw_FnExactNearGroups m d = some true := by
  unfold F_lw_FnExactNearGroups T_lw_FnExactNearGroups
  obtain ⟨r, e1, _, k2⟩ := szIntSS_sz (fit2 hm) (b := 1048576) (by omega) (by omega)
  simp (disch := omega) only [EV, e1]
  by_cases hr : r < 0
  · simp (disch := omega) only [EV, hr]
  · have h1 := k2 (by omega)
    have hlow : Low2 (bif groundB m && isIn d 1 100 then (true, groupsOf m d) else (false, [])).2 := by
      cases h : groundB m with
      | false => exact ⟨by simp, fun r hr => by simp at hr⟩
      | true =>
        cases isIn d 1 100 with
        | false => exact ⟨by simp, fun r hr => by simp at hr⟩
        | true => exact GI.low ((groundB_iff m).1 h) d
    have hb1 := tot_take h1 (k := 1) m.length
    have hb2 := tot_take hlow (k := 1) (bif groundB m && isIn d 1 100 then (true, groupsOf m d) else (false, [])).2.length
    rw [List.take_length] at hb1 hb2
    have hn1 : ¬ tot 1 m < 0 := by omega
    have hn2 : ¬ tot 1 (bif groundB m && isIn d 1 100 then (true, groupsOf m d) else (false, [])).2 < 0 := by omega
    simp (disch := omega) only [EV, hr, toIntSS_eq h1, sp_NearGroups_eq h1, im_NearGroups_eq h1, eqIntSS_eq hlow, eqIntSS_eq h1, beq_self_eq_true, bne_self_eq_false, markIntSS_eq h1 (k := 1) (by omega) (by omega), markIntSS_eq hlow (k := 1) (by omega) (by omega), hn1, hn2, heldIntSS_eq hlow (k := 1) (by omega) (by omega)]
end Go.Proofs.Ythkafleokepjeaa
