/-
  The laws of the greedy plan and of the best one.
-/
import Derived.Test.YtlmbhkmaflhagaaQ16
namespace Go.Proofs.Ytlmbhkmaflhagaa
theorem find_filter' {m q : List Int → Bool} : ∀ (l : List (List Int)), (l.filter m).find? q = l.find? fun s => m s && q s
  | [] => rfl
  | a :: l => by
    cases hm : m a with
    | false => rw [List.filter_cons_of_neg (by simp [hm]), find_filter' l, List.find?_cons, hm]; rfl
    | true =>
      rw [List.filter_cons_of_pos hm, List.find?_cons, List.find?_cons, hm, Bool.true_and]
      cases q a with
      | true => rfl
      | false => exact find_filter' l
theorem firstMin_filter {g : List Int → Int} {m : List Int → Bool} {l : List (List Int)} {b : Nat} (hb : b < l.length) (hm : m (l.getD b []) = true) (h1 : ∀ i, i < l.length → m (l.getD i []) = true → g (l.getD b []) ≤ g (l.getD i [])) (h2 : ∀ i, i < b → m (l.getD i []) = true → g (l.getD b []) < g (l.getD i [])) :
    firstMin g (l.filter m) = l.getD b [] := by
  have hM : lstMin ((l.filter m).map g) = g (l.getD b []) := by
    refine lstMin_eq (List.mem_map_of_mem (List.mem_filter.2 ⟨getD_mem hb, hm⟩)) fun x hx => ?_
    obtain ⟨s, hs, rfl⟩ := List.mem_map.1 hx
    obtain ⟨hs, hms⟩ := List.mem_filter.1 hs
    obtain ⟨i, hi, e⟩ := List.getElem_of_mem hs
    have e' : l.getD i [] = s := by rw [List.getD_eq_getElem?_getD, List.getElem?_eq_getElem hi, Option.getD_some, e]
    rw [← e']
    exact h1 i hi (by rw [e']; exact hms)
  unfold firstMin
  rw [hM, find_filter', find_first hb (by rw [hm]; simp) fun i hi => ?_]
  · rfl
  · cases hmi : m (l.getD i []) with
    | false => rfl
    | true =>
      have := h2 i hi hmi
      simp only [Bool.true_and, decide_eq_false_iff_not]
      omega
theorem first_ix {p : List Int → Bool} : ∀ {l : List (List Int)}, (∃ s ∈ l, p s = true) → ∃ b, b < l.length ∧ p (l.getD b []) = true ∧ ∀ i, i < b → p (l.getD i []) = false
  | [], h => by obtain ⟨s, hs, _⟩ := h; cases hs
  | a :: l, h => by
    cases ha : p a with
    | true => exact ⟨0, by simp, by simpa using ha, fun i hi => by omega⟩
    | false =>
      obtain ⟨s, hs, hp⟩ := h
      rcases List.mem_cons.1 hs with rfl | hs
      · rw [ha] at hp; cases hp
      · obtain ⟨b, h1, h2, h3⟩ := first_ix (l := l) ⟨s, hs, hp⟩
        refine ⟨b + 1, by simpa using h1, by simpa using h2, fun i hi => ?_⟩
        cases i with
        | zero => simpa using ha
        | succ i => simpa using h3 i (by omega)
theorem set_app {l : List (List Int)} (x : List Int) : List.set (l ++ [[]]) l.length x = l ++ [x] := by
  rw [List.set_append_right _ _ (Nat.le_refl _)]
  simp
def planStep (f : Nat → List Int → List Int) (st : List Int × List (List Int)) (r : Nat) : List Int × List (List Int) := (f r st.1, st.2 ++ [f r st.1])
def planFrom (f : Nat → List Int → List Int) (n : Nat) : List (List Int) := ((List.range n).foldl (planStep f) ([], [])).2
def PlI (n i : Nat) (st : List Int × List (List Int)) : Prop := st.1 ∈ allSets n ∧ st.2.length = i ∧ ∀ s ∈ st.2, s ∈ allSets n
theorem PlI.zero {n : Nat} (hS : SetsOK n) : PlI n 0 ([], []) := ⟨nil_mem hS, rfl, fun s hs => by cases hs⟩
theorem PlI.step {n i : Nat} {f : Nat → List Int → List Int} {st : List Int × List (List Int)} (hI : PlI n i st) (hf : f i st.1 ∈ allSets n) : PlI n (i + 1) (planStep f st i) := by
  refine ⟨hf, by simp [planStep, hI.2.1], fun s hs => ?_⟩
  simp only [planStep, List.mem_append, List.mem_singleton] at hs
  rcases hs with hs | rfl
  · exact hI.2.2 s hs
  · exact hf
theorem PlI.low {n i : Nat} (h7 : n ≤ 7) (hi : i ≤ 5) (hS : SetsOK n) {st : List Int × List (List Int)} (hI : PlI n i st) : Low2 st.2 := by
  have := hI.2.1
  exact ⟨by omega, fun r hr => low_of h7 hS (hI.2.2 r hr)⟩
def gsel (o c k : List Int) (rs : List (List (List Int))) (r : Nat) (a : List Int) : List Int := firstMin (mv o c k rs r a) (choice o rs r)
def bsel (o c k : List Int) (rs : List (List (List Int))) (t : List (List Int)) (r : Nat) (a : List Int) : List Int := firstMin (cst o c k rs r (t.getD (r + 1) []) a) (choice o rs r)
theorem sel_mem {o c k : List Int} {rs : List (List (List Int))} (h : Ssn o c k rs) (hS : SetsOK o.length) (r : Nat) (g : List Int → Int) : firstMin g (choice o rs r) ∈ allSets o.length ∧ mayB o rs r (firstMin g (choice o rs r)) = true := by
  obtain ⟨h1, _⟩ := firstMin_spec (g := g) (l := choice o rs r) (List.ne_nil_of_length_pos (choice_bound h hS r).1)
  exact List.mem_filter.1 h1
theorem own_set {s : List Int} (hl : Low1 s) : F_sp_l1Own s = some s := by
  unfold Low1 at hl
  unfold F_sp_l1Own T_sp_l1Own
  simp (disch := omega) only [EV, show ([] : List Int).length = 0 from rfl, show (0 + s.length) * 8 ≤ 140737488355328 by omega, List.nil_append]
theorem clone_set {s : List Int} (hl : Low1 s) : F_slices_Clone_Sint_int s = some s := by
  unfold Low1 at hl
  show cloneF s = some s
  unfold cloneF
  rw [if_pos (by omega)]
def greedyOf (o c k : List Int) (rs : List (List (List Int))) : Bool × List (List Int) := bif seasonB o c k rs then (true, planFrom (gsel o c k rs) rs.length) else (false, [])
def GM (n : Nat) (m : Nat → Bool) (g : Nat → Int) (j : Nat) (b : Int) : Prop :=
  (b = -1 ∧ ∀ i, i < j → m i = false) ∨ ∃ q : Nat, b = (q : Int) ∧ q < j ∧ j ≤ n ∧ m q = true ∧ (∀ i, i < j → m i = true → g q ≤ g i) ∧ ∀ i, i < q → m i = true → g q < g i
theorem sp_greedy_sel {o c k : List Int} {rs : List (List (List Int))} (h : Ssn o c k rs) (hS : SetsOK o.length) {r : Nat} (hr : r < rs.length) {a : List Int} (ha : a ∈ allSets o.length) (out : List (List Int)) :
    ∃ b : Nat, b < 2 ^ o.length ∧ L_sp_GreedyPlan_2 (a, ((r : Int), (o, (c, (k, (rs, (out, allSets o.length))))))) ((-1 : Int), (0 : Int)) = some (b : Int) ∧ setAt o.length b = gsel o c k rs r a := by
  have h5 := h.n5
  have hlen := hS.len
  have hp := pow_le (n := o.length) (by omega)
  have h0 := iter_fold (f := fun v => (S_sp_GreedyPlan_2 (a, ((r : Int), (o, (c, (k, (rs, (out, allSets o.length))))))) v).ev) (n := 2 ^ o.length) (mk := fun j m => (m, (j : Int))) (I := fun j m => GM (2 ^ o.length) (fun i => mayB o rs r (setAt o.length i)) (fun i => mv o c k rs r a (setAt o.length i)) j m)
    (g := fun m j => if mayB o rs r (setAt o.length j) = true then (if m < 0 then (j : Int) else if mv o c k rs r a (setAt o.length j) < mv o c k rs r a (setAt o.length m.toNat) then (j : Int) else m) else m) (fin := fun m => m) (s0 := (-1 : Int)) (.inl ⟨rfl, fun i hi => by omega⟩)
    (fun j m hj hI => by
      have hja := setAt_mem hS hj
      have e1 : (allSets o.length).getD j [] = setAt o.length j := rfl
      cases hm : mayB o rs r (setAt o.length j) with
      | false =>
        refine ⟨?_, ?_⟩
        · simp (disch := omega) only [EV, S_sp_GreedyPlan_2, hlen, hj, e1, l10May_eq h hr (low_of (by omega) hS hja), hm]
          rfl
        · simp only [Bool.false_eq_true, if_false]
          rcases hI with ⟨e, hno⟩ | ⟨q, e, hq, hqn, hmq, hle, hlt⟩
          · exact .inl ⟨e, fun i hi => by
              by_cases ei : i = j
              · rw [ei]; exact hm
              · exact hno i (by omega)⟩
          · refine .inr ⟨q, e, by omega, by omega, hmq, fun i hi hmi => ?_, hlt⟩
            by_cases ei : i = j
            · rw [ei] at hmi; simp only at hmi; rw [hm] at hmi; cases hmi
            · exact hle i (by omega) hmi
      | true =>
        simp only [if_true]
        rcases hI with ⟨rfl, hno⟩ | ⟨q, rfl, hq, hqn, hmq, hle, hlt⟩
        · refine ⟨?_, .inr ⟨j, by simp, by omega, by omega, hm, fun i hi hmi => ?_, fun i hi hmi => ?_⟩⟩
          · simp (disch := omega) only [EV, S_sp_GreedyPlan_2, hlen, hj, e1, l10May_eq h hr (low_of (by omega) hS hja), hm, show ((-1 : Int) < 0) by omega, decide_true]
            rfl
          · by_cases ei : i = j
            · rw [ei]; exact Int.le_refl _
            · rw [hno i (by omega)] at hmi; cases hmi
          · rw [hno i (by omega)] at hmi; cases hmi
        · have hqa := setAt_mem hS (show q < 2 ^ o.length by omega)
          have e2 : (allSets o.length).getD q [] = setAt o.length q := rfl
          have hq2 : q < 2 ^ o.length := by omega
          have hnn : ¬ (q : Int) < 0 := by omega
          simp only [hnn, if_false, Int.toNat_natCast]
          by_cases hc : mv o c k rs r a (setAt o.length j) < mv o c k rs r a (setAt o.length q)
          · refine ⟨?_, ?_⟩
            · simp (disch := omega) only [EV, S_sp_GreedyPlan_2, hlen, hj, hq2, e1, e2, l10May_eq h hr (low_of (by omega) hS hja), hm, hnn, l10Move_eq h hS hr ha hja hm, l10Move_eq h hS hr ha hqa hmq, hc]
              rfl
            · rw [if_pos hc]
              refine .inr ⟨j, rfl, by omega, by omega, hm, fun i hi hmi => ?_, fun i hi hmi => ?_⟩
              · by_cases ei : i = j
                · rw [ei]; exact Int.le_refl _
                · have := hle i (by omega) hmi; simp only at this ⊢; omega
              · have := hle i hi hmi; simp only at this ⊢; omega
          · refine ⟨?_, ?_⟩
            · simp (disch := omega) only [EV, S_sp_GreedyPlan_2, hlen, hj, hq2, e1, e2, l10May_eq h hr (low_of (by omega) hS hja), hm, hnn, l10Move_eq h hS hr ha hja hm, l10Move_eq h hS hr ha hqa hmq, hc]
              rfl
            · rw [if_neg hc]
              refine .inr ⟨q, rfl, by omega, by omega, hmq, fun i hi hmi => ?_, hlt⟩
              by_cases ei : i = j
              · rw [ei]; simp only; omega
              · exact hle i (by omega) hmi)
    (fun s _ => by simp (disch := omega) only [EV, S_sp_GreedyPlan_2, hlen, Nat.lt_irrefl])
  have h1 : L_sp_GreedyPlan_2 (a, ((r : Int), (o, (c, (k, (rs, (out, allSets o.length))))))) ((-1 : Int), (0 : Int)) = _ := h0.1
  rcases h0.2 with ⟨_, hno⟩ | ⟨q, e, hq, _, hmq, hle, hlt⟩
  · exfalso
    have hc := List.mem_filter.1 (choice_pos h hS r)
    obtain ⟨j, hj, e⟩ := List.getElem_of_mem hc.1
    have := hno j (by rw [← hlen]; exact hj)
    simp only at this
    rw [show setAt o.length j = [0] by unfold setAt; rw [List.getD_eq_getElem?_getD, List.getElem?_eq_getElem hj, Option.getD_some, e], hc.2] at this
    cases this
  · rw [e] at h1
    refine ⟨q, hq, h1, ?_⟩
    exact (firstMin_filter (g := mv o c k rs r a) (m := mayB o rs r) (l := allSets o.length) (b := q) (by rw [hlen]; exact hq) hmq (fun i hi hmi => hle i (by rw [← hlen]; exact hi) hmi) hlt).symm
theorem sp_GreedyPlan_eq {o c k : List Int} {rs : List (List (List Int))} (ho : Low1 o) (hc : Low1 c) (hk : Low1 k) (hr : Low3 rs) : F_sp_GreedyPlan o c k rs = some (greedyOf o c k rs) ∧ Low2 (greedyOf o c k rs).2 := by
  unfold F_sp_GreedyPlan T_sp_GreedyPlan greedyOf
  simp (disch := omega) only [EV, l10Good_eq ho hc hk hr]
  cases hs : seasonB o c k rs with
  | false => exact ⟨rfl, by simp, fun r hr => by simp at hr⟩
  | true =>
    have h := ssn_of hs
    have hS := sets_of h
    have h5 := h.n5
    have hR := h.R
    have hlen := hS.len
    have h0 := iter_fold (f := fun v => (S_sp_GreedyPlan_0 (o, (c, (k, (rs, allSets o.length)))) v).ev) (n := rs.length) (mk := fun i st => (st.1, ((i : Int), st.2))) (I := PlI o.length) (g := planStep (gsel o c k rs)) (fin := fun st => st.2) (s0 := (([] : List Int), ([] : List (List Int)))) (PlI.zero hS)
      (fun i st hi hI => by
        have hsel : gsel o c k rs i st.1 ∈ allSets o.length := (sel_mem h hS i (mv o c k rs i st.1)).1
        refine ⟨?_, hI.step hsel⟩
        obtain ⟨b, hb, e1, e2⟩ := sp_greedy_sel h hS hi hI.1 st.2
        have e3 : (allSets o.length).getD b [] = gsel o c k rs i st.1 := e2
        have hl := hI.2.1
        simp (disch := omega) only [EV, S_sp_GreedyPlan_0, hi, e1, hlen, hb, e3, own_set (low_of (by omega) hS hsel), show (st.2.length + 1) * 24 ≤ 140737488355328 by omega, set_app]
        rfl)
      (fun s _ => by simp (disch := omega) only [EV, S_sp_GreedyPlan_0, Nat.lt_irrefl])
    have h1 : L_sp_GreedyPlan_0 (o, (c, (k, (rs, allSets o.length)))) (([] : List Int), ((0 : Int), ([] : List (List Int)))) = some (planFrom (gsel o c k rs) rs.length) := h0.1
    refine ⟨?_, PlI.low (by omega) hR hS h0.2⟩
    simp (disch := omega) only [EV, l10Sets_eq c k rs (by omega) hS, h1]
theorem im_GreedyPlan_eq {o c k : List Int} {rs : List (List (List Int))} (ho : Low1 o) (hc : Low1 c) (hk : Low1 k) (hr : Low3 rs) : F_im_GreedyPlan o c k rs = some (greedyOf o c k rs) := by
  unfold F_im_GreedyPlan T_im_GreedyPlan greedyOf
  simp (disch := omega) only [EV, IsSeason_eq ho hc hk hr]
  cases hs : seasonB o c k rs with
  | false => rfl
  | true =>
    have h := ssn_of hs
    have hS := sets_of h
    have h5 := h.n5
    have hR := h.R
    have h0 := iter_fold (f := fun v => (S_im_GreedyPlan_0 ((rs.length : Int), (o, (c, (k, rs)))) v).ev) (n := rs.length) (mk := fun i st => ((i : Int), (st.2, st.1))) (I := PlI o.length) (g := planStep (gsel o c k rs)) (fin := fun st => st.2) (s0 := (([] : List Int), ([] : List (List Int)))) (PlI.zero hS)
      (fun i st hi hI => by
        have hsel : gsel o c k rs i st.1 ∈ allSets o.length := (sel_mem h hS i (mv o c k rs i st.1)).1
        refine ⟨?_, hI.step hsel⟩
        obtain ⟨hc1, hc2⟩ := choice_bound h hS i
        have hle := least_eq (l := choice o rs i) hc1 hc2 (p := fun h24_ => Option.bind (F_im_GreedyPlan_1 h24_.1 o c k rs (i : Int) st.1) fun y25_ => some y25_) (g := mv o c k rs i st.1) fun s hs => by
          show Option.bind (F_im_GreedyPlan_1 s o c k rs (i : Int) st.1) _ = _
          unfold F_im_GreedyPlan_1 T_im_GreedyPlan_1
          simp (disch := omega) only [EV, move_eq h hS hi hI.1 (List.mem_filter.1 hs).1]
        have hch : F_im_Season_choices o c k rs (i : Int) = some (choice o rs i) := choices_eq h hS hi
        have hle' : F_im_least (choice o rs i) (fun h24_ => Option.bind (F_im_GreedyPlan_1 h24_.1 o c k rs (i : Int) st.1) fun y25_ => some y25_) = some (gsel o c k rs i st.1) := hle
        have hl := hI.2.1
        simp (disch := omega) only [EV, S_im_GreedyPlan_0, hi, hch, hle', clone_set (low_of (by omega) hS hsel), show (st.2.length + 1) * 24 ≤ 140737488355328 by omega, set_app]
        rfl)
      (fun s _ => by simp (disch := omega) only [EV, S_im_GreedyPlan_0, Nat.lt_irrefl])
    have h1 : L_im_GreedyPlan_0 ((rs.length : Int), (o, (c, (k, rs)))) ((0 : Int), (([] : List (List Int)), ([] : List Int))) = some (planFrom (gsel o c k rs) rs.length) := h0.1
    simp (disch := omega) only [EV, h1]
theorem law_GreedyPlan (o c k : List Int) (rs : List (List (List Int))) (ho : Fit tL o) (hc : Fit tL c) (hk : Fit tL k) (hr : Fit tL3 rs) : F_lw_FnExactGreedyPlan o c k rs = some true := by
  unfold F_lw_FnExactGreedyPlan T_lw_FnExactGreedyPlan
  obtain ⟨x, e1, b1, k1⟩ := szSeason_sz (fit1 ho) (fit1 hc) (fit1 hk) (fitS hr) (b := 1048576) (by omega) (by omega)
  simp (disch := omega) only [EV, e1]
  by_cases hx : x < 0
  · simp (disch := omega) only [EV, hx]
  · obtain ⟨h1, h2, h3, h4⟩ := k1 (by omega)
    obtain ⟨y, em, hy⟩ := markSeason_eq h1 h2 h3 h4
    obtain ⟨es, hlow⟩ := sp_GreedyPlan_eq h1 h2 h3 h4
    have ei := im_GreedyPlan_eq h1 h2 h3 h4
    generalize hp : greedyOf o c k rs = p at hlow es ei
    have hb2 := tot_take hlow (k := 1) p.2.length
    rw [List.take_length] at hb2
    have hn2 : ¬ tot 1 p.2 < 0 := by omega
    simp (disch := omega) only [EV, hx, toSeason_eq h1 h2 h3 h4, es, ei, eqIntSS_eq hlow, beq_self_eq_true, bne_self_eq_false, eqSeason_self h1 h2 h3 h4, em, hy, markIntSS_eq hlow (k := 1) (by omega) (by omega), hn2, heldIntSS_eq hlow (k := 1) (by omega) (by omega)]
end Go.Proofs.Ytlmbhkmaflhagaa
