/-
  The law of the best plan that keeps its set.
-/
import Derived.Test.YtlmbhkmaflhagaaGreatQ15
import Derived.Test.YtlmbhkmaflhagaaGreatQ17
namespace Go.Proofs.YtlmbhkmaflhagaaGreat
def keepB (o : List Int) (rs : List (List (List Int))) (s : List Int) : Bool := planB o rs (List.replicate rs.length s)
def keepC (o c k : List Int) (rs : List (List (List Int))) (s : List Int) : Int := (movesOf o c k rs (List.replicate rs.length s)).foldl (fun a x => a + x) 0
def keepAll (o : List Int) (rs : List (List (List Int))) : List (List Int) := (allSets o.length).filter (keepB o rs)
def staticOf (o c k : List Int) (rs : List (List (List Int))) : Bool × List (List Int) := bif seasonB o c k rs then (true, List.replicate rs.length (firstMin (keepC o c k rs) (keepAll o rs))) else (false, [])
theorem rep_low {o c k : List Int} {rs : List (List (List Int))} (h : Ssn o c k rs) {s : List Int} (hs : Low1 s) : Low2 (List.replicate rs.length s) := by
  have hR := h.R
  refine ⟨by rw [List.length_replicate]; omega, fun r hr => ?_⟩
  rw [(List.mem_replicate.1 hr).2]
  exact hs
theorem keep_pos {o c k : List Int} {rs : List (List (List Int))} (h : Ssn o c k rs) (hS : SetsOK o.length) : ([0] : List Int) ∈ keepAll o rs := by
  refine List.mem_filter.2 ⟨(List.mem_filter.1 (choice_pos h hS 0)).1, ?_⟩
  simp only [keepB, planB, List.length_replicate, decide_true, Bool.true_and, List.all_eq_true, List.mem_range]
  intro r hr
  rw [List.getD_eq_getElem?_getD, List.getElem?_replicate, if_pos hr]
  exact (List.mem_filter.1 (choice_pos h hS r)).2
theorem keep_len {o c k : List Int} {rs : List (List (List Int))} (h : Ssn o c k rs) (hS : SetsOK o.length) : 0 < (keepAll o rs).length ∧ ((keepAll o rs).length : Int) ≤ 1048576 := by
  have h5 := h.n5
  have h1 := List.length_filter_le (keepB o rs) (allSets o.length)
  have h2 := hS.len
  have h3 := pow_le (n := o.length) (by omega)
  refine ⟨List.length_pos_of_mem (keep_pos h hS), ?_⟩
  unfold keepAll
  omega
theorem rep_snoc {s : List Int} (i : Nat) : List.replicate i s ++ [s] = List.replicate (i + 1) s := by rw [List.replicate_succ']
theorem l10Same_eq {o c k : List Int} {rs : List (List (List Int))} (h : Ssn o c k rs) {s : List Int} (hs : Low1 s) : F_zcj o c k rs s = some (List.replicate rs.length s) := by
  have hR := h.R
  have h0 := (iter_fold (f := fun v => (S_zcj_0 (s, (o, (c, (k, rs)))) v).ev) (n := rs.length) (mk := fun i (_ : Unit) => ((i : Int), List.replicate i s)) (I := fun _ _ => True) (g := fun s _ => s) (fin := fun _ => List.replicate rs.length s) (s0 := ()) trivial
    (fun i _ hi _ => ⟨by
      have e := set_app (l := List.replicate i s) s
      rw [List.length_replicate] at e
      simp (disch := omega) only [EV, S_zcj_0, hi, own_set hs, List.length_replicate, show (i + 1) * 24 ≤ 140737488355328 by omega, e, rep_snoc]
      rfl, trivial⟩)
    (fun _ _ => by simp (disch := omega) only [EV, S_zcj_0, Nat.lt_irrefl])).1
  have h1 : L_zcj_0 (s, (o, (c, (k, rs)))) ((0 : Int), ([] : List (List Int))) = some (List.replicate rs.length s) := h0
  unfold F_zcj T_zcj
  simp (disch := omega) only [EV, h1]
theorem plan1_eq {o c k : List Int} {rs : List (List (List Int))} (h : Ssn o c k rs) {s : List Int} (hs : Low1 s) : F_zac s o c k rs = some (List.replicate rs.length s) := by
  have hR := h.R
  have h0 := (iter_fold (f := fun v => (S_zac_0 (s, (rs.length : Int)) v).ev) (n := rs.length) (mk := fun i (_ : Unit) => ((i : Int), List.replicate i s)) (I := fun _ _ => True) (g := fun s _ => s) (fin := fun _ => List.replicate rs.length s) (s0 := ()) trivial
    (fun i _ hi _ => ⟨by
      have e := set_app (l := List.replicate i s) s
      rw [List.length_replicate] at e
      simp (disch := omega) only [EV, S_zac_0, hi, clone_set hs, List.length_replicate, show (i + 1) * 24 ≤ 140737488355328 by omega, e, rep_snoc]
      rfl, trivial⟩)
    (fun _ _ => by simp (disch := omega) only [EV, S_zac_0, Nat.lt_irrefl])).1
  have h1 : L_zac_0 (s, (rs.length : Int)) ((0 : Int), ([] : List (List Int))) = some (List.replicate rs.length s) := h0
  unfold F_zac T_zac
  simp (disch := omega) only [EV, h1]
theorem keep_cost {o c k : List Int} {rs : List (List (List Int))} (h : Ssn o c k rs) (hS : SetsOK o.length) {s : List Int} (hk : keepB o rs s = true) :
    F_zch o c k rs (List.replicate rs.length s) = some (movesOf o c k rs (List.replicate rs.length s)) ∧ F_zaa o c k rs (List.replicate rs.length s) = some (movesOf o c k rs (List.replicate rs.length s)) ∧
    F_zcl (movesOf o c k rs (List.replicate rs.length s)) = some (keepC o c k rs s) ∧ F_zaq (movesOf o c k rs (List.replicate rs.length s)) = some (keepC o c k rs s) := by
  have hR := h.R
  have hP : IsPl o c k rs (List.replicate rs.length s) := isPl_of hk
  obtain ⟨h1, h2, h3⟩ := l10Moves_eq h hS hP
  rw [List.length_replicate] at h2
  exact ⟨h1, moves_eq h hS hP, l10Sum_eq (by omega) h3, im_sum_eq (B := 2178) (by omega) (by omega) h3⟩
theorem im_StaticPlan_eq {o c k : List Int} {rs : List (List (List Int))} (ho : Low1 o) (hc : Low1 c) (hk : Low1 k) (hr : Low3 rs) : F_zab o c k rs = some (staticOf o c k rs) := by
  unfold F_zab T_zab staticOf
  simp (disch := omega) only [EV, IsSeason_eq ho hc hk hr]
  cases hs : seasonB o c k rs with
  | false => rfl
  | true =>
    have h := ssn_of hs
    have hS := sets_of h
    have h5 := h.n5
    have hli := lists_eq (n := o.length) (by omega) hS (p := fun h2_ => Option.bind (F_zad h2_.1 o c k rs (fun h3_ => Option.bind (F_zac h3_.1 o c k rs) fun y4_ => some y4_)) fun y5_ => some y5_) (q := keepB o rs) fun s hs => by
      have hl := low_of (by omega) hS hs
      show Option.bind (F_zad s o c k rs _) _ = _
      unfold F_zad T_zad
      simp (disch := omega) only [EV, plan1_eq h hl, isPlan_eq h (rep_low h hl)]
      rfl
    have hli' : F_zao (o.length : Int) (fun h2_ => Option.bind (F_zad h2_.1 o c k rs (fun h3_ => Option.bind (F_zac h3_.1 o c k rs) fun y4_ => some y4_)) fun y5_ => some y5_) = some (keepAll o rs) := hli
    obtain ⟨hc1, hc2⟩ := keep_len h hS
    have hle := least_eq (l := keepAll o rs) hc1 hc2 (p := fun h7_ => Option.bind (F_zae h7_.1 o c k rs (fun h8_ => Option.bind (F_zac h8_.1 o c k rs) fun y9_ => some y9_)) fun y10_ => some y10_) (g := keepC o c k rs) fun s hs => by
      obtain ⟨hsa, hsk⟩ := List.mem_filter.1 hs
      obtain ⟨_, e1, _, e2⟩ := keep_cost h hS hsk
      show Option.bind (F_zae s o c k rs _) _ = _
      unfold F_zae T_zae
      simp (disch := omega) only [EV, plan1_eq h (low_of (by omega) hS hsa), e1, e2]
    obtain ⟨hfm, _⟩ := firstMin_spec (g := keepC o c k rs) (l := keepAll o rs) (List.ne_nil_of_length_pos hc1)
    simp (disch := omega) only [EV, hli', hle, plan1_eq h (low_of (by omega) hS (List.mem_filter.1 hfm).1)]
def GS (n : Nat) (m : Nat → Bool) (g : Nat → Int) (pl : Nat → List (List Int)) (j : Nat) (st : List (List Int) × Bool) : Prop :=
  (st = ([], false) ∧ ∀ i, i < j → m i = false) ∨ ∃ q : Nat, st = (pl q, true) ∧ q < j ∧ j ≤ n ∧ m q = true ∧ (∀ i, i < j → m i = true → g q ≤ g i) ∧ ∀ i, i < q → m i = true → g q < g i
theorem sp_StaticPlan_eq {o c k : List Int} {rs : List (List (List Int))} (ho : Low1 o) (hc : Low1 c) (hk : Low1 k) (hr : Low3 rs) : F_zca o c k rs = some ((staticOf o c k rs).2, (staticOf o c k rs).1) ∧ Low2 (staticOf o c k rs).2 := by
  unfold F_zca T_zca staticOf
  simp (disch := omega) only [EV, l10Good_eq ho hc hk hr]
  cases hs : seasonB o c k rs with
  | false => exact ⟨rfl, by simp, fun r hr => by simp at hr⟩
  | true =>
    have h := ssn_of hs
    have hS := sets_of h
    have h5 := h.n5
    have hR := h.R
    have hlen := hS.len
    have hp := pow_le (n := o.length) (by omega)
    obtain ⟨hc1, _⟩ := keep_len h hS
    obtain ⟨hfm, _⟩ := firstMin_spec (g := keepC o c k rs) (l := keepAll o rs) (List.ne_nil_of_length_pos hc1)
    refine ⟨?_, rep_low h (low_of (by omega) hS (List.mem_filter.1 hfm).1)⟩
    have h0 := iter_fold (f := fun v => (S_zca_0 (o, (c, (k, (rs, allSets o.length)))) v).ev) (n := 2 ^ o.length) (mk := fun j st => (st.1, (st.2, (j : Int)))) (I := GS (2 ^ o.length) (fun i => keepB o rs (setAt o.length i)) (fun i => keepC o c k rs (setAt o.length i)) (fun i => List.replicate rs.length (setAt o.length i)))
      (g := fun st j => if keepB o rs (setAt o.length j) = true then (if st.2 = true then (if keepC o c k rs (setAt o.length j) < (movesOf o c k rs st.1).foldl (fun a x => a + x) 0 then (List.replicate rs.length (setAt o.length j), true) else st) else (List.replicate rs.length (setAt o.length j), true)) else st) (fin := fun st => st.1) (s0 := (([] : List (List Int)), false)) (.inl ⟨rfl, fun i hi => by omega⟩)
      (fun j st hj hI => by
        have hja := setAt_mem hS hj
        have e1 : (allSets o.length).getD j [] = setAt o.length j := rfl
        have hl := low_of (by omega) hS hja
        cases hm : keepB o rs (setAt o.length j) with
        | false =>
          have hm' : planB o rs (List.replicate rs.length (setAt o.length j)) = false := hm
          refine ⟨?_, ?_⟩
          · simp (disch := omega) only [EV, S_zca_0, hlen, hj, e1, l10Same_eq h hl, l10Plan_eq h (rep_low h hl), hm']
            rfl
          · simp only [Bool.false_eq_true, if_false]
            rcases hI with ⟨e, hno⟩ | ⟨q, e, hq, hqn, hmq, hle, hlt⟩
            · exact .inl ⟨e, fun i hi => by
                by_cases ei : i = j
                · rw [ei]; exact hm
                · exact hno i (by omega)⟩
            · refine .inr ⟨q, e, by omega, by omega, hmq, fun i hi hmi => ?_, hlt⟩
              by_cases ei : i = j
              · rw [ei] at hmi; simp only at hmi; rw [hm] at hmi; cases hmi
              · exact hle i (by omega) hmi
        | true =>
          have hm' : planB o rs (List.replicate rs.length (setAt o.length j)) = true := hm
          obtain ⟨m1, _, m3, _⟩ := keep_cost h hS hm
          simp only [if_true]
          rcases hI with ⟨rfl, hno⟩ | ⟨q, rfl, hq, hqn, hmq, hle, hlt⟩
          · refine ⟨?_, .inr ⟨j, rfl, by omega, by omega, hm, fun i hi hmi => ?_, fun i hi hmi => ?_⟩⟩
            · simp (disch := omega) only [EV, S_zca_0, hlen, hj, e1, l10Same_eq h hl, l10Plan_eq h (rep_low h hl), hm']
              rfl
            · by_cases ei : i = j
              · rw [ei]; exact Int.le_refl _
              · rw [hno i (by omega)] at hmi; cases hmi
            · rw [hno i (by omega)] at hmi; cases hmi
          · obtain ⟨q1, _, q3, _⟩ := keep_cost h hS hmq
            have hcq : (movesOf o c k rs (List.replicate rs.length (setAt o.length q))).foldl (fun a x => a + x) 0 = keepC o c k rs (setAt o.length q) := rfl
            simp only [if_true, hcq]
            by_cases hc : keepC o c k rs (setAt o.length j) < keepC o c k rs (setAt o.length q)
            · refine ⟨?_, ?_⟩
              · simp (disch := omega) only [EV, S_zca_0, hlen, hj, e1, l10Same_eq h hl, l10Plan_eq h (rep_low h hl), hm', m1, m3, q1, q3, hc]
                rfl
              · rw [if_pos hc]
                refine .inr ⟨j, rfl, by omega, by omega, hm, fun i hi hmi => ?_, fun i hi hmi => ?_⟩
                · by_cases ei : i = j
                  · rw [ei]; exact Int.le_refl _
                  · have := hle i (by omega) hmi; simp only at this ⊢; omega
                · have := hle i hi hmi; simp only at this ⊢; omega
            · refine ⟨?_, ?_⟩
              · simp (disch := omega) only [EV, S_zca_0, hlen, hj, e1, l10Same_eq h hl, l10Plan_eq h (rep_low h hl), hm', m1, m3, q1, q3, hc]
                rfl
              · rw [if_neg hc]
                refine .inr ⟨q, rfl, by omega, by omega, hmq, fun i hi hmi => ?_, hlt⟩
                by_cases ei : i = j
                · rw [ei]; simp only; omega
                · exact hle i (by omega) hmi)
      (fun s _ => by simp (disch := omega) only [EV, S_zca_0, hlen, Nat.lt_irrefl])
    have h1 : L_zca_0 (o, (c, (k, (rs, allSets o.length)))) (([] : List (List Int)), (false, (0 : Int))) = _ := h0.1
    have hsel : ∃ q : Nat, setAt o.length q = firstMin (keepC o c k rs) (keepAll o rs) ∧ L_zca_0 (o, (c, (k, (rs, allSets o.length)))) (([] : List (List Int)), (false, (0 : Int))) = some (List.replicate rs.length (setAt o.length q)) := by
      rcases h0.2 with ⟨_, hno⟩ | ⟨q, e, hq, _, hmq, hle, hlt⟩
      · exfalso
        have hc := List.mem_filter.1 (keep_pos h hS)
        obtain ⟨j, hj, e⟩ := List.getElem_of_mem hc.1
        have := hno j (by rw [← hlen]; exact hj)
        simp only at this
        rw [show setAt o.length j = [0] by unfold setAt; rw [List.getD_eq_getElem?_getD, List.getElem?_eq_getElem hj, Option.getD_some, e], hc.2] at this
        cases this
      · rw [e] at h1
        exact ⟨q, (firstMin_filter (g := keepC o c k rs) (m := keepB o rs) (l := allSets o.length) (b := q) (by rw [hlen]; exact hq) hmq (fun i hi hmi => hle i (by rw [← hlen]; exact hi) hmi) hlt).symm, h1⟩
    obtain ⟨q, hq1, hq2⟩ := hsel
    simp (disch := omega) only [EV, l10Sets_eq c k rs (by omega) hS, hq2, hq1]
end Go.Proofs.YtlmbhkmaflhagaaGreat
