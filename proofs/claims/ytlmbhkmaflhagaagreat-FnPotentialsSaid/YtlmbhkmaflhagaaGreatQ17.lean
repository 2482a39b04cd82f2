/-
  The laws of the greedy plan and of the best one.
-/
import Derived.Test.YtlmbhkmaflhagaaGreatQ16
namespace Go.Proofs.YtlmbhkmaflhagaaGreat
theorem find_filter' {m q : List Int → Bool} : ∀ (l : List (List Int)), (l.filter m).find? q = l.find? fun s => m s && q s
  | [] => rfl
  | a :: l => by
    cases hm : m a with
    | false => rw [List.filter_cons_of_neg (by simp [hm]), find_filter' l, List.find?_cons, hm]; rfl
    | true =>
      rw [List.filter_cons_of_pos hm, List.find?_cons, List.find?_cons, hm, Bool.true_and]
      cases q a with
      | true => rfl
      | false => exact find_filter' l
theorem first_ix {p : List Int → Bool} : ∀ {l : List (List Int)}, (∃ s ∈ l, p s = true) → ∃ b, b < l.length ∧ p (l.getD b []) = true ∧ ∀ i, i < b → p (l.getD i []) = false
  | [], h => by obtain ⟨s, hs, _⟩ := h; cases hs
  | a :: l, h => by
    cases ha : p a with
    | true => exact ⟨0, by simp, by simpa using ha, fun i hi => by omega⟩
    | false =>
      obtain ⟨s, hs, hp⟩ := h
      rcases List.mem_cons.1 hs with rfl | hs
      · rw [ha] at hp; cases hp
      · obtain ⟨b, h1, h2, h3⟩ := first_ix (l := l) ⟨s, hs, hp⟩
        refine ⟨b + 1, by simpa using h1, by simpa using h2, fun i hi => ?_⟩
        cases i with
        | zero => simpa using ha
        | succ i => simpa using h3 i (by omega)
theorem set_app {l : List (List Int)} (x : List Int) : List.set (l ++ [[]]) l.length x = l ++ [x] := by
  rw [List.set_append_right _ _ (Nat.le_refl _)]
  simp
def planStep (f : Nat → List Int → List Int) (st : List Int × List (List Int)) (r : Nat) : List Int × List (List Int) := (f r st.1, st.2 ++ [f r st.1])
def planFrom (f : Nat → List Int → List Int) (n : Nat) : List (List Int) := ((List.range n).foldl (planStep f) ([], [])).2
def PlI (n i : Nat) (st : List Int × List (List Int)) : Prop := st.1 ∈ allSets n ∧ st.2.length = i ∧ ∀ s ∈ st.2, s ∈ allSets n
theorem PlI.zero {n : Nat} (hS : SetsOK n) : PlI n 0 ([], []) := ⟨nil_mem hS, rfl, fun s hs => by cases hs⟩
theorem PlI.step {n i : Nat} {f : Nat → List Int → List Int} {st : List Int × List (List Int)} (hI : PlI n i st) (hf : f i st.1 ∈ allSets n) : PlI n (i + 1) (planStep f st i) := by
  refine ⟨hf, by simp [planStep, hI.2.1], fun s hs => ?_⟩
  simp only [planStep, List.mem_append, List.mem_singleton] at hs
  rcases hs with hs | rfl
  · exact hI.2.2 s hs
  · exact hf
theorem PlI.low {n i : Nat} (h7 : n ≤ 7) (hi : i ≤ 5) (hS : SetsOK n) {st : List Int × List (List Int)} (hI : PlI n i st) : Low2 st.2 := by
  have := hI.2.1
  exact ⟨by omega, fun r hr => low_of h7 hS (hI.2.2 r hr)⟩
def bsel (o c k : List Int) (rs : List (List (List Int))) (t : List (List Int)) (r : Nat) (a : List Int) : List Int := firstMin (cst o c k rs r (t.getD (r + 1) []) a) (choice o rs r)
theorem sel_mem {o c k : List Int} {rs : List (List (List Int))} (h : Ssn o c k rs) (hS : SetsOK o.length) (r : Nat) (g : List Int → Int) : firstMin g (choice o rs r) ∈ allSets o.length ∧ mayB o rs r (firstMin g (choice o rs r)) = true := by
  obtain ⟨h1, _⟩ := firstMin_spec (g := g) (l := choice o rs r) (List.ne_nil_of_length_pos (choice_bound h hS r).1)
  exact List.mem_filter.1 h1
theorem own_set {s : List Int} (hl : Low1 s) : F_zcp s = some s := by
  unfold Low1 at hl
  unfold F_zcp T_zcp
  simp (disch := omega) only [EV, show ([] : List Int).length = 0 from rfl, show (0 + s.length) * 8 ≤ 140737488355328 by omega, List.nil_append]
theorem clone_set {s : List Int} (hl : Low1 s) : F_zav s = some s := by
  unfold Low1 at hl
  show cloneF s = some s
  unfold cloneF
  rw [if_pos (by omega)]
def bestOf (o c k : List Int) (rs : List (List (List Int))) : Bool × List (List Int) := bif seasonB o c k rs then (true, planFrom (bsel o c k rs (futs o c k rs)) rs.length) else (false, [])
theorem ofCode_codeOf {n : Nat} (hS : SetsOK n) {s : List Int} (hs : s ∈ allSets n) : ofCode n (codeOf s) = s := by
  obtain ⟨h1, h2⟩ := ofCode_ok hS (hS.lt s hs)
  exact hS.inj h1 hs h2
theorem sp_best_sel {o c k : List Int} {rs : List (List (List Int))} (h : Ssn o c k rs) (hS : SetsOK o.length) {t : List (List Int)} (hF : Fut o c k rs t) {r : Nat} (hr : r < rs.length) {a : List Int} (ha : a ∈ allSets o.length) (out : List (List Int)) :
    ∃ b : Nat, b < 2 ^ o.length ∧ L_zbs_2 (a, ((r : Int), (o, (c, (k, (rs, (out, (t, allSets o.length)))))))) (0 : Int) = some (b : Int) ∧ setAt o.length b = bsel o c k rs t r a := by
  have h5 := h.n5
  have hlen := hS.len
  have hp := pow_le (n := o.length) (by omega)
  have hR := h.R
  have htl := hF.len
  have hok := hF.ok (r + 1) (by omega)
  have hrowl := hok.len
  have hrow0 := (hF.ok r (by omega)).len
  have hal := hS.lt a ha
  have hM : (t.getD r []).getD (codeOf a) 0 = lstMin ((choice o rs r).map (cst o c k rs r (t.getD (r + 1) []) a)) := by
    rw [hF.row r hr, rowFn_getD hal, ofCode_codeOf hS ha]
    rfl
  obtain ⟨hf1, hf2⟩ := firstMin_spec (g := cst o c k rs r (t.getD (r + 1) []) a) (l := choice o rs r) (List.ne_nil_of_length_pos (choice_bound h hS r).1)
  obtain ⟨hf3, hf4⟩ := List.mem_filter.1 hf1
  generalize hMv : lstMin ((choice o rs r).map (cst o c k rs r (t.getD (r + 1) []) a)) = M at hM hf2
  obtain ⟨b, hb, hpb, hfst⟩ := first_ix (p := fun s => mayB o rs r s && decide (cst o c k rs r (t.getD (r + 1) []) a s = M)) (l := allSets o.length) ⟨_, hf3, by simp only [hf4, hf2, Bool.true_and, decide_true]⟩
  simp only [Bool.and_eq_true, decide_eq_true_eq] at hpb
  have hb2 : b < 2 ^ o.length := by rw [← hlen]; exact hb
  have e3 : (r : Int) + 1 = ((r + 1 : Nat) : Int) := by omega
  have ht1 : r + 1 < t.length := by omega
  have ht0 : r < t.length := by omega
  have h0 := iter_fold (f := fun v => (S_zbs_2 (a, ((r : Int), (o, (c, (k, (rs, (out, (t, allSets o.length)))))))) v).ev) (n := b) (mk := fun j (_ : Unit) => (j : Int)) (I := fun _ _ => True) (g := fun s _ => s) (fin := fun _ => (b : Int)) (s0 := ()) trivial
    (fun j s hj _ => by
      refine ⟨?_, trivial⟩
      have hj2 : j < 2 ^ o.length := by omega
      have hja := setAt_mem hS hj2
      have e1 : (allSets o.length).getD j [] = setAt o.length j := rfl
      have hnot := hfst j hj
      rw [e1] at hnot
      cases hm : mayB o rs r (setAt o.length j) with
      | false =>
        simp (disch := omega) only [EV, S_zbs_2, hlen, hj2, e1, l10May_eq h hr (low_of (by omega) hS hja), hm]
        rfl
      | true =>
        rw [hm] at hnot
        simp only [Bool.true_and, decide_eq_false_iff_not] at hnot
        have hmv := mv_in h hS hr a hja
        have hjl := hS.lt _ hja
        have hv := hok.val _ hjl
        have hne : (mv o c k rs r a (setAt o.length j) + (t.getD (r + 1) []).getD (codeOf (setAt o.length j)) 0 != M) = true := by
          simp only [bne_iff_ne, ne_eq]
          exact hnot
        simp (disch := omega) only [EV, S_zbs_2, hlen, hj2, e1, l10May_eq h hr (low_of (by omega) hS hja), hm, l10Move_eq h hS hr ha hja hm, e3, ht1, hS.code _ hja, hrowl, hjl, ht0, hS.code _ ha, hrow0, hal, hM, hne]
        rfl)
    (fun s _ => by
      have hja := setAt_mem hS hb2
      have e1 : (allSets o.length).getD b [] = setAt o.length b := rfl
      rw [e1] at hpb
      have hmv := mv_in h hS hr a hja
      have hjl := hS.lt _ hja
      have hv := hok.val _ hjl
      have hne : (mv o c k rs r a (setAt o.length b) + (t.getD (r + 1) []).getD (codeOf (setAt o.length b)) 0 != M) = false := by
        simp only [bne_eq_false_iff_eq]
        exact hpb.2
      simp (disch := omega) only [EV, S_zbs_2, hlen, hb2, e1, l10May_eq h hr (low_of (by omega) hS hja), hpb.1, l10Move_eq h hS hr ha hja hpb.1, e3, ht1, hS.code _ hja, hrowl, hjl, ht0, hS.code _ ha, hrow0, hal, hM, hne])
  refine ⟨b, hb2, h0.1, ?_⟩
  show (allSets o.length).getD b [] = firstMin _ ((allSets o.length).filter (mayB o rs r))
  unfold firstMin
  rw [show lstMin (((allSets o.length).filter (mayB o rs r)).map (cst o c k rs r (t.getD (r + 1) []) a)) = M from hMv, find_filter', find_first hb (by simp only [hpb.1, hpb.2, Bool.true_and, decide_true]) hfst]
  rfl
theorem l10Best_eq {o c k : List Int} {rs : List (List (List Int))} (h : Ssn o c k rs) (hS : SetsOK o.length) : F_zbs o c k rs = some (planFrom (bsel o c k rs (futs o c k rs)) rs.length) ∧ Low2 (planFrom (bsel o c k rs (futs o c k rs)) rs.length) := by
  have h5 := h.n5
  have hR := h.R
  have hlen := hS.len
  have hF := futs_Fut h hS
  have h0 := iter_fold (f := fun v => (S_zbs_0 (o, (c, (k, (rs, (futs o c k rs, allSets o.length))))) v).ev) (n := rs.length) (mk := fun i st => (st.1, ((i : Int), st.2))) (I := PlI o.length) (g := planStep (bsel o c k rs (futs o c k rs))) (fin := fun st => st.2) (s0 := (([] : List Int), ([] : List (List Int)))) (PlI.zero hS)
    (fun i st hi hI => by
      have hsel : bsel o c k rs (futs o c k rs) i st.1 ∈ allSets o.length := (sel_mem h hS i (cst o c k rs i ((futs o c k rs).getD (i + 1) []) st.1)).1
      refine ⟨?_, hI.step hsel⟩
      obtain ⟨b, hb, e1, e2⟩ := sp_best_sel h hS hF hi hI.1 st.2
      have e3 : (allSets o.length).getD b [] = bsel o c k rs (futs o c k rs) i st.1 := e2
      have hl := hI.2.1
      simp (disch := omega) only [EV, S_zbs_0, hi, e1, hlen, hb, e3, own_set (low_of (by omega) hS hsel), List.length_singleton, show (st.2.length + 1) * 24 ≤ 140737488355328 by omega]
      rfl)
    (fun s _ => by simp (disch := omega) only [EV, S_zbs_0, Nat.lt_irrefl])
  have h1 : L_zbs_0 (o, (c, (k, (rs, (futs o c k rs, allSets o.length))))) (([] : List Int), ((0 : Int), ([] : List (List Int)))) = some (planFrom (bsel o c k rs (futs o c k rs)) rs.length) := h0.1
  refine ⟨?_, PlI.low (by omega) hR hS h0.2⟩
  unfold F_zbs T_zbs
  simp (disch := omega) only [EV, (l10Future_eq h hS).1, l10Sets_eq c k rs (by omega) hS, h1]
theorem im_BestPlan_eq {o c k : List Int} {rs : List (List (List Int))} (ho : Low1 o) (hc : Low1 c) (hk : Low1 k) (hr : Low3 rs) : F_ze o c k rs = some (bestOf o c k rs) := by
  unfold F_ze T_ze bestOf
  simp (disch := omega) only [EV, IsSeason_eq ho hc hk hr]
  cases hs : seasonB o c k rs with
  | false => rfl
  | true =>
    have h := ssn_of hs
    have hS := sets_of h
    have h5 := h.n5
    have hR := h.R
    have hF := futs_Fut h hS
    have htl := hF.len
    have h0 := iter_fold (f := fun v => (S_ze_0 ((rs.length : Int), (o, (c, (k, (rs, futs o c k rs))))) v).ev) (n := rs.length) (mk := fun i st => ((i : Int), (st.2, st.1))) (I := PlI o.length) (g := planStep (bsel o c k rs (futs o c k rs))) (fin := fun st => st.2) (s0 := (([] : List Int), ([] : List (List Int)))) (PlI.zero hS)
      (fun i st hi hI => by
        have hsel : bsel o c k rs (futs o c k rs) i st.1 ∈ allSets o.length := (sel_mem h hS i (cst o c k rs i ((futs o c k rs).getD (i + 1) []) st.1)).1
        refine ⟨?_, hI.step hsel⟩
        obtain ⟨hc1, hc2⟩ := choice_bound h hS i
        have hok := hF.ok (i + 1) (by omega)
        have hrowl := hok.len
        have e3 : (i : Int) + 1 = ((i + 1 : Nat) : Int) := by omega
        have ht1 : i + 1 < (futs o c k rs).length := by omega
        have hle := least_eq (l := choice o rs i) hc1 hc2 (p := fun h27_ => Option.bind (F_zg h27_.1 o c k rs (i : Int) st.1 (futs o c k rs)) fun y28_ => some y28_) (g := cst o c k rs i ((futs o c k rs).getD (i + 1) []) st.1) fun s hs => by
          have hsa := (List.mem_filter.1 hs).1
          have hmv := mv_in h hS hi st.1 hsa
          have hjl := hS.lt _ hsa
          have hv := hok.val _ hjl
          show Option.bind (F_zg s o c k rs (i : Int) st.1 (futs o c k rs)) _ = _
          unfold F_zg T_zg
          simp (disch := omega) only [EV, move_eq h hS hi hI.1 hsa, e3, ht1, hS.bagOf _ hsa, hrowl, hjl]
          rfl
        have hch : F_zv o c k rs (i : Int) = some (choice o rs i) := choices_eq h hS hi
        have hle' : F_zal (choice o rs i) (fun h27_ => Option.bind (F_zg h27_.1 o c k rs (i : Int) st.1 (futs o c k rs)) fun y28_ => some y28_) = some (bsel o c k rs (futs o c k rs) i st.1) := hle
        have hl := hI.2.1
        simp (disch := omega) only [EV, S_ze_0, hi, hch, hle', clone_set (low_of (by omega) hS hsel), show (st.2.length + 1) * 24 ≤ 140737488355328 by omega, set_app]
        rfl)
      (fun s _ => by simp (disch := omega) only [EV, S_ze_0, Nat.lt_irrefl])
    have h1 : L_ze_0 ((rs.length : Int), (o, (c, (k, (rs, futs o c k rs))))) ((0 : Int), (([] : List (List Int)), ([] : List Int))) = some (planFrom (bsel o c k rs (futs o c k rs)) rs.length) := h0.1
    simp (disch := omega) only [EV, future_eq h hS, h1]
end Go.Proofs.YtlmbhkmaflhagaaGreat
