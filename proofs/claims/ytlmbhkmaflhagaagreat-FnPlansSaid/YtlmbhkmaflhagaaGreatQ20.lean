/-
  The law of plans: their costs are those of their moves, none costs less than the best one.
-/
import Derived.Test.YtlmbhkmaflhagaaGreatQ18
import Derived.Test.YtlmbhkmaflhagaaGreatP29
namespace Go.Proofs.YtlmbhkmaflhagaaGreat
theorem rInts_eq {a b : List Int} (ha : Low1 a) : F_zat a b = some (a == b) := by
  unfold Low1 at ha
  unfold F_zat T_zat
  by_cases h : a.length = b.length
  · have hs := eq_loop (f := fun v => (S_zat_0 (a, b) v).ev) (a := a) (b := b) 0 h (fun i hi => by
      have hi' : i < b.length := by omega
      simp (disch := omega) only [EV, S_zat_0, hi, hi']
      cases hq : (a.getD i 0 == b.getD i 0) <;> simp only [bne, hq] <;> rfl) (by simp (disch := omega) only [EV, S_zat_0, Nat.lt_irrefl])
    simp (disch := omega) only [EV, int_ne, h, L_zat_0, hs]
    cases (a == b) <;> rfl
  · have : (a == b) = false := by
      rw [beq_eq_false_iff_ne]
      exact fun e => h (by rw [e])
    simp (disch := omega) only [EV, int_ne, h, this]
theorem rTable_eq {a b : List (List Int)} (ha : Low2 a) : F_zav a b = some (a == b) := by
  obtain ⟨ha, hr⟩ := ha
  unfold F_zav T_zav
  by_cases h : a.length = b.length
  · have hs := eq_loop (f := fun v => (S_zav_0 (a, b) v).ev) (a := a) (b := b) [] h (fun i hi => by
      have hi' : i < b.length := by omega
      simp (disch := omega) only [EV, S_zav_0, hi, hi', rInts_eq (hr _ (getD_mem (d := []) hi))]
      cases (a.getD i [] == b.getD i []) <;> rfl) (by simp (disch := omega) only [EV, S_zav_0, Nat.lt_irrefl])
    simp (disch := omega) only [EV, int_ne, h, L_zav_0, hs]
    cases (a == b) <;> rfl
  · have : (a == b) = false := by
      rw [beq_eq_false_iff_ne]
      exact fun e => h (by rw [e])
    simp (disch := omega) only [EV, int_ne, h, this]
theorem rSum_eq {l : List Int} (hl : l.length ≤ 5) (h : ∀ x ∈ l, 0 ≤ x ∧ x ≤ 2178) : F_zau l = some (l.foldl (fun a x => a + x) 0) := by
  unfold F_zau T_zau
  have h0 := (iter_foldl (f := fun v => (S_zau_0 l v).ev) l 0 (mk := fun i s => (s, (i : Int))) (I := fun i s => 0 ≤ s ∧ s ≤ 2178 * (i : Int)) (g := fun a x => a + x) (fin := fun s => s) (s0 := 0) (by omega)
    (fun i s hi hI => by
      have := h _ (getD_mem (d := 0) hi)
      exact ⟨by simp (disch := omega) only [EV, S_zau_0, hi]; rfl, by omega, by omega⟩)
    (fun s _ => by simp (disch := omega) only [EV, S_zau_0, Nat.lt_irrefl])).1
  have h0' : L_zau_0 l ((0 : Int), (0 : Int)) = _ := h0
  simp (disch := omega) only [EV, h0']
def costOf (o c k : List Int) (rs : List (List (List Int))) (p : List (List Int)) : Int := (movesOf o c k rs p).foldl (fun a x => a + x) 0
def mvAt (o c k : List Int) (rs : List (List (List Int))) (p : List (List Int)) (j : Nat) : List Int × List Int := (List.range j).foldl (mvStep o c k rs p) ([], [])
theorem mvAt_succ (o c k : List Int) (rs : List (List (List Int))) (p : List (List Int)) (j : Nat) : mvAt o c k rs p (j + 1) = mvStep o c k rs p (mvAt o c k rs p j) j := by
  unfold mvAt
  rw [List.range_succ, List.foldl_append]
  rfl
theorem mvAt_MI {o c k : List Int} {rs : List (List (List Int))} (h : Ssn o c k rs) (hS : SetsOK o.length) {p : List (List Int)} (hP : IsPl o c k rs p) : ∀ j, j ≤ p.length → MI o.length j (mvAt o c k rs p j)
  | 0, _ => ⟨List.mem_cons_self, rfl, fun x hx => by cases hx⟩
  | j + 1, hj => by
    rw [mvAt_succ]
    exact ((mvAt_MI h hS hP j (by omega)).step h hS hP (by omega)).1
theorem moves_at {o c k : List Int} {rs : List (List (List Int))} {p : List (List Int)} : ∀ n, (mvAt o c k rs p n).2.length = n ∧ ∀ r, r < n → (mvAt o c k rs p n).2.getD r 0 = mv o c k rs r (mvAt o c k rs p r).1 (p.getD r [])
  | 0 => ⟨rfl, fun r hr => by omega⟩
  | n + 1 => by
    obtain ⟨h1, h2⟩ := moves_at (o := o) (c := c) (k := k) (rs := rs) (p := p) n
    rw [mvAt_succ]
    refine ⟨by simp [mvStep, h1], fun r hr => ?_⟩
    simp only [mvStep]
    by_cases e : r = n
    · subst e
      rw [List.getD_eq_getElem?_getD, List.getElem?_append_right (by omega), h1]
      simp
    · rw [List.getD_eq_getElem?_getD, List.getElem?_append_left (by omega), ← List.getD_eq_getElem?_getD]
      exact h2 r (by omega)
def futAt (o c k : List Int) (rs : List (List (List Int))) (j : Nat) (a : List Int) : Int := ((futs o c k rs).getD j []).getD (codeOf a) 0
theorem futAt_bst {o c k : List Int} {rs : List (List (List Int))} (h : Ssn o c k rs) (hS : SetsOK o.length) {j : Nat} (hj : j < rs.length) {a : List Int} (ha : a ∈ allSets o.length) : futAt o c k rs j a = bst o c k rs j ((futs o c k rs).getD (j + 1) []) a := by
  have hF := futs_Fut h hS
  unfold futAt
  rw [hF.row j hj, rowFn_getD (hS.lt a ha), ofCode_codeOf hS ha]
theorem futAt_end {o c k : List Int} {rs : List (List (List Int))} (a : List Int) : futAt o c k rs rs.length a = 0 := by
  have key : ∀ i, ((List.range i).foldl (futStep o c k rs) [List.replicate (2 ^ o.length) 0]).getD i [] = List.replicate (2 ^ o.length) 0 := by
    intro i
    induction i with
    | zero => rfl
    | succ i ih =>
      rw [List.range_succ, List.foldl_append]
      simp only [List.foldl_cons, List.foldl_nil, futStep, List.getD_cons_succ]
      exact ih
  unfold futAt futs
  rw [key, List.getD_eq_getElem?_getD, List.getElem?_replicate]
  split <;> rfl
theorem bst_le {o c k : List Int} {rs : List (List (List Int))} {r : Nat} {nx a s : List Int} (hs : s ∈ choice o rs r) : bst o c k rs r nx a ≤ cst o c k rs r nx a s := by
  have hm : cst o c k rs r nx a s ∈ (choice o rs r).map (cst o c k rs r nx a) := List.mem_map_of_mem hs
  exact (lstMin_spec (fun e => by rw [e] at hm; cases hm)).2 _ hm
theorem sum_snoc (l : List Int) (x : Int) : (l ++ [x]).foldl (fun a x => a + x) 0 = l.foldl (fun a x => a + x) 0 + x := by rw [List.foldl_append]; rfl
theorem cost_ge {o c k : List Int} {rs : List (List (List Int))} (h : Ssn o c k rs) (hS : SetsOK o.length) {p : List (List Int)} (hP : IsPl o c k rs p) : futAt o c k rs 0 [] ≤ costOf o c k rs p := by
  have key : ∀ j, j ≤ p.length → futAt o c k rs 0 [] ≤ (mvAt o c k rs p j).2.foldl (fun a x => a + x) 0 + futAt o c k rs j (mvAt o c k rs p j).1 := by
    intro j
    induction j with
    | zero => intro _; show _ ≤ (0 : Int) + futAt o c k rs 0 []; omega
    | succ j ih =>
      intro hj
      have h1 := ih (by omega)
      have hI := mvAt_MI h hS hP j (by omega)
      have hjr : j < rs.length := by have := hP.len; omega
      have hm := hP.may j hjr
      have hmem : p.getD j [] ∈ choice o rs j := by
        refine List.mem_filter.2 ⟨?_, hm⟩
        simp only [mayB, Bool.and_eq_true] at hm
        exact hS.mem _ hm.1
      have h2 := bst_le (c := c) (k := k) (nx := (futs o c k rs).getD (j + 1) []) (a := (mvAt o c k rs p j).1) hmem
      rw [← futAt_bst h hS hjr hI.1] at h2
      rw [mvAt_succ]
      simp only [mvStep]
      rw [sum_snoc]
      have e : cst o c k rs j ((futs o c k rs).getD (j + 1) []) (mvAt o c k rs p j).1 (p.getD j []) = mv o c k rs j (mvAt o c k rs p j).1 (p.getD j []) + futAt o c k rs (j + 1) (p.getD j []) := rfl
      rw [e] at h2
      omega
  have := key p.length (Nat.le_refl _)
  rw [hP.len, futAt_end] at this
  have e : costOf o c k rs p = (mvAt o c k rs p rs.length).2.foldl (fun a x => a + x) 0 := by unfold costOf movesOf mvAt; rw [hP.len]
  rw [e]
  omega
def plAt (f : Nat → List Int → List Int) (j : Nat) : List Int × List (List Int) := (List.range j).foldl (planStep f) ([], [])
theorem plAt_succ (f : Nat → List Int → List Int) (j : Nat) : plAt f (j + 1) = planStep f (plAt f j) j := by
  unfold plAt
  rw [List.range_succ, List.foldl_append]
  rfl
theorem plan_at {f : Nat → List Int → List Int} : ∀ n, (plAt f n).2.length = n ∧ ∀ r, r < n → (plAt f n).2.getD r [] = f r (plAt f r).1
  | 0 => ⟨rfl, fun r hr => by omega⟩
  | n + 1 => by
    obtain ⟨h1, h2⟩ := plan_at (f := f) n
    rw [plAt_succ]
    refine ⟨by simp [planStep, h1], fun r hr => ?_⟩
    simp only [planStep]
    by_cases e : r = n
    · subst e
      rw [List.getD_eq_getElem?_getD, List.getElem?_append_right (by omega), h1]
      simp
    · rw [List.getD_eq_getElem?_getD, List.getElem?_append_left (by omega), ← List.getD_eq_getElem?_getD]
      exact h2 r (by omega)
theorem plan_isPl {o c k : List Int} {rs : List (List (List Int))} {f : Nat → List Int → List Int} (hf : ∀ r a, r < rs.length → mayB o rs r (f r a) = true) : planB o rs (planFrom f rs.length) = true := by
  obtain ⟨h1, h2⟩ := plan_at (f := f) rs.length
  simp only [planB, Bool.and_eq_true, decide_eq_true_eq, List.all_eq_true, List.mem_range]
  refine ⟨h1, fun r hr => ?_⟩
  have : (planFrom f rs.length).getD r [] = f r (plAt f r).1 := h2 r hr
  rw [this]
  exact hf r _ hr
theorem plan_before {o c k : List Int} {rs : List (List (List Int))} {f : Nat → List Int → List Int} {n : Nat} : ∀ j, j ≤ n → (mvAt o c k rs (planFrom f n) j).1 = (plAt f j).1
  | 0, _ => rfl
  | j + 1, hj => by
    rw [mvAt_succ, plAt_succ]
    exact (plan_at (f := f) n).2 j (by omega)
theorem best_isPl {o c k : List Int} {rs : List (List (List Int))} (h : Ssn o c k rs) (hS : SetsOK o.length) : planB o rs (planFrom (bsel o c k rs (futs o c k rs)) rs.length) = true := plan_isPl (c := c) (k := k) fun r a _ => (sel_mem h hS r _).2
theorem greedy_isPl {o c k : List Int} {rs : List (List (List Int))} (h : Ssn o c k rs) (hS : SetsOK o.length) : planB o rs (planFrom (gsel o c k rs) rs.length) = true := plan_isPl (c := c) (k := k) fun r a _ => (sel_mem h hS r _).2
theorem best_cost {o c k : List Int} {rs : List (List (List Int))} (h : Ssn o c k rs) (hS : SetsOK o.length) : costOf o c k rs (planFrom (bsel o c k rs (futs o c k rs)) rs.length) = futAt o c k rs 0 [] := by
  have hP : IsPl o c k rs (planFrom (bsel o c k rs (futs o c k rs)) rs.length) := isPl_of (best_isPl h hS)
  generalize hp : planFrom (bsel o c k rs (futs o c k rs)) rs.length = p at hP
  have key : ∀ j, j ≤ rs.length → futAt o c k rs 0 [] = (mvAt o c k rs p j).2.foldl (fun a x => a + x) 0 + futAt o c k rs j (mvAt o c k rs p j).1 := by
    intro j
    induction j with
    | zero => intro _; show _ = (0 : Int) + futAt o c k rs 0 []; omega
    | succ j ih =>
      intro hj
      have h1 := ih (by omega)
      have hI := mvAt_MI h hS hP j (by rw [hP.len]; omega)
      have hjr : j < rs.length := by omega
      have hsel : p.getD j [] = bsel o c k rs (futs o c k rs) j (mvAt o c k rs p j).1 := by
        rw [← hp, plan_before j (by omega)]
        exact (plan_at (f := bsel o c k rs (futs o c k rs)) rs.length).2 j hjr
      have h2 := (firstMin_spec (g := cst o c k rs j ((futs o c k rs).getD (j + 1) []) (mvAt o c k rs p j).1) (l := choice o rs j) (List.ne_nil_of_length_pos (choice_bound h hS j).1)).2
      have h3 : cst o c k rs j ((futs o c k rs).getD (j + 1) []) (mvAt o c k rs p j).1 (p.getD j []) = futAt o c k rs j (mvAt o c k rs p j).1 := by
        rw [futAt_bst h hS hjr hI.1, hsel]
        exact h2
      rw [mvAt_succ]
      simp only [mvStep]
      rw [sum_snoc]
      have e : cst o c k rs j ((futs o c k rs).getD (j + 1) []) (mvAt o c k rs p j).1 (p.getD j []) = mv o c k rs j (mvAt o c k rs p j).1 (p.getD j []) + futAt o c k rs (j + 1) (p.getD j []) := rfl
      rw [e] at h3
      omega
  have := key rs.length (Nat.le_refl _)
  rw [futAt_end] at this
  have e : costOf o c k rs p = (mvAt o c k rs p rs.length).2.foldl (fun a x => a + x) 0 := by unfold costOf movesOf mvAt; rw [hP.len]
  rw [e]
  omega
def planOf (o c k : List Int) (rs : List (List (List Int))) (p : List (List Int)) : Int × Bool := bif seasonB o c k rs && planB o rs p then (costOf o c k rs p, true) else (0, false)
def plMoves (o c k : List Int) (rs : List (List (List Int))) (p : List (List Int)) : Bool × List Int := bif seasonB o c k rs && planB o rs p then (true, movesOf o c k rs p) else (false, [])
def isPlanOf (o c k : List Int) (rs : List (List (List Int))) (p : List (List Int)) : Bool × Bool := bif seasonB o c k rs then (planB o rs p, true) else (false, false)
def moveOf (o c k : List Int) (rs : List (List (List Int))) (r : Int) (a s : List Int) : Int × Bool :=
  bif seasonB o c k rs && (isIn r 0 ((rs.length : Int) - 1) && (risingB a 0 ((o.length : Int) - 1) && mayB o rs r.toNat s)) then (mv o c k rs r.toNat a s, true) else (0, false)
theorem moves_low {o c k : List Int} {rs : List (List (List Int))} (h : Ssn o c k rs) (hS : SetsOK o.length) {p : List (List Int)} (hP : IsPl o c k rs p) : (movesOf o c k rs p).length = p.length ∧ ∀ x ∈ movesOf o c k rs p, 0 ≤ x ∧ x ≤ 2178 := by
  have hI := mvAt_MI h hS hP p.length (Nat.le_refl _)
  exact ⟨hI.2.1, hI.2.2⟩
theorem im_IsPlan_eq {o c k : List Int} {rs : List (List (List Int))} {p : List (List Int)} (ho : Low1 o) (hc : Low1 c) (hk : Low1 k) (hr : Low3 rs) (hp : Low2 p) : F_zm o c k rs p = some (isPlanOf o c k rs p) := by
  unfold F_zm T_zm isPlanOf
  simp (disch := omega) only [EV, IsSeason_eq ho hc hk hr]
  cases hs : seasonB o c k rs with
  | false => rfl
  | true => simp (disch := omega) only [EV, isPlan_eq (ssn_of hs) hp]
theorem sp_IsPlan_eq {o c k : List Int} {rs : List (List (List Int))} {p : List (List Int)} (ho : Low1 o) (hc : Low1 c) (hk : Low1 k) (hr : Low3 rs) (hp : Low2 p) : F_zbw o c k rs p = some (isPlanOf o c k rs p) := by
  unfold F_zbw T_zbw isPlanOf
  simp (disch := omega) only [EV, l10Good_eq ho hc hk hr]
  cases hs : seasonB o c k rs with
  | false => rfl
  | true => simp (disch := omega) only [EV, l10Plan_eq (ssn_of hs) hp]
theorem im_PlanMoves_eq {o c k : List Int} {rs : List (List (List Int))} {p : List (List Int)} (ho : Low1 o) (hc : Low1 c) (hk : Low1 k) (hr : Low3 rs) (hp : Low2 p) : F_zs o c k rs p = some (plMoves o c k rs p) := by
  unfold F_zs T_zs plMoves
  simp (disch := omega) only [EV, im_IsPlan_eq ho hc hk hr hp]
  unfold isPlanOf
  cases hs : seasonB o c k rs with
  | false => rfl
  | true =>
    cases hp : planB o rs p with
    | false => rfl
    | true =>
      have h := ssn_of hs
      simp (disch := omega) only [EV, moves_eq h (sets_of h) (isPl_of hp)]
theorem sp_PlanMoves_eq {o c k : List Int} {rs : List (List (List Int))} {p : List (List Int)} (ho : Low1 o) (hc : Low1 c) (hk : Low1 k) (hr : Low3 rs) (hp : Low2 p) : F_zbz o c k rs p = some (plMoves o c k rs p) := by
  unfold F_zbz T_zbz plMoves
  simp (disch := omega) only [EV, l10Good_eq ho hc hk hr]
  cases hs : seasonB o c k rs with
  | false => rfl
  | true =>
    have h := ssn_of hs
    simp (disch := omega) only [EV, l10Plan_eq h hp]
    cases hp : planB o rs p with
    | false => rfl
    | true => simp (disch := omega) only [EV, (l10Moves_eq h (sets_of h) (isPl_of hp)).1]
theorem im_PlanCost_eq {o c k : List Int} {rs : List (List (List Int))} {p : List (List Int)} (ho : Low1 o) (hc : Low1 c) (hk : Low1 k) (hr : Low3 rs) (hp : Low2 p) : F_zr o c k rs p = some (planOf o c k rs p) := by
  unfold F_zr T_zr planOf
  simp (disch := omega) only [EV, im_PlanMoves_eq ho hc hk hr hp]
  unfold plMoves
  have hnil : F_zaq [] = some 0 := im_sum_eq (l := []) (B := 0) (by simp) (by simp) (fun a ha => by cases ha)
  cases hs : seasonB o c k rs with
  | false => simp (disch := omega) only [EV, hnil]
  | true =>
    cases hp : planB o rs p with
    | false => simp (disch := omega) only [EV, hnil]
    | true =>
      have h := ssn_of hs
      have hP : IsPl o c k rs p := isPl_of hp
      obtain ⟨h1, h2⟩ := moves_low h (sets_of h) hP
      have h3 := hP.len
      have hR := h.R
      simp (disch := omega) only [EV, im_sum_eq (l := movesOf o c k rs p) (B := 2178) (by omega) (by omega) h2]
      rfl
theorem sp_PlanCost_eq {o c k : List Int} {rs : List (List (List Int))} {p : List (List Int)} (ho : Low1 o) (hc : Low1 c) (hk : Low1 k) (hr : Low3 rs) (hp : Low2 p) : F_zby o c k rs p = some (planOf o c k rs p) := by
  unfold F_zby T_zby planOf
  simp (disch := omega) only [EV, l10Good_eq ho hc hk hr]
  cases hs : seasonB o c k rs with
  | false => rfl
  | true =>
    have h := ssn_of hs
    simp (disch := omega) only [EV, l10Plan_eq h hp]
    cases hp : planB o rs p with
    | false => rfl
    | true =>
      have hP : IsPl o c k rs p := isPl_of hp
      obtain ⟨h1, h2⟩ := moves_low h (sets_of h) hP
      have h3 := hP.len
      have hR := h.R
      simp (disch := omega) only [EV, (l10Moves_eq h (sets_of h) hP).1, l10Sum_eq (l := movesOf o c k rs p) (by omega) h2]
      rfl
theorem im_MoveCost_eq {o c k : List Int} {rs : List (List (List Int))} {a s : List Int} (r : Int) (ho : Low1 o) (hc : Low1 c) (hk : Low1 k) (hr : Low3 rs) (ha : Low1 a) (hs : Low1 s) : F_zq o c k rs r a s = some (moveOf o c k rs r a s) := by
  have hrl := hr.1
  have hol := ho
  unfold Low1 at hol
  unfold F_zq T_zq moveOf
  simp (disch := omega) only [EV, IsSeason_eq ho hc hk hr]
  cases hb : seasonB o c k rs with
  | false => rfl
  | true =>
    have h := ssn_of hb
    have hS := sets_of h
    simp (disch := omega) only [EV, between_eq]
    cases hi : isIn r 0 ((rs.length : Int) - 1) with
    | false => rfl
    | true =>
      obtain ⟨i1, i2⟩ := isIn_iff.1 hi
      obtain ⟨n, rfl⟩ : ∃ n : Nat, r = (n : Int) := ⟨r.toNat, by omega⟩
      have hn : n < rs.length := by omega
      simp (disch := omega) only [EV, isRising_eq ha (show (0 : Int) ≤ (o.length : Int) by omega) hol]
      cases hra : risingB a 0 ((o.length : Int) - 1) with
      | false => rfl
      | true =>
        simp (disch := omega) only [EV, isPossible_eq h hn hs]
        cases hm : mayB o rs n s with
        | false => rfl
        | true =>
          have hms := hm
          simp only [mayB, Bool.and_eq_true] at hms
          simp (disch := omega) only [EV, move_eq h hS hn (hS.mem a hra) (hS.mem s hms.1)]
theorem sp_MoveCost_eq {o c k : List Int} {rs : List (List (List Int))} {a s : List Int} (r : Int) (ho : Low1 o) (hc : Low1 c) (hk : Low1 k) (hr : Low3 rs) (ha : Low1 a) (hs : Low1 s) : F_zbx o c k rs r a s = some (moveOf o c k rs r a s) := by
  have hrl := hr.1
  have hol := ho
  unfold Low1 at hol
  unfold F_zbx T_zbx moveOf
  simp (disch := omega) only [EV, l10Good_eq ho hc hk hr]
  cases hb : seasonB o c k rs with
  | false => rfl
  | true =>
    have h := ssn_of hb
    have hS := sets_of h
    simp (disch := omega) only [EV, l1In_eq]
    cases hi : isIn r 0 ((rs.length : Int) - 1) with
    | false => rfl
    | true =>
      obtain ⟨i1, i2⟩ := isIn_iff.1 hi
      obtain ⟨n, rfl⟩ : ∃ n : Nat, r = (n : Int) := ⟨r.toNat, by omega⟩
      have hn : n < rs.length := by omega
      simp (disch := omega) only [EV, l1Rising_eq ha]
      cases hra : risingB a 0 ((o.length : Int) - 1) with
      | false => rfl
      | true =>
        simp (disch := omega) only [EV, l10May_eq h hn hs]
        cases hm : mayB o rs n s with
        | false => rfl
        | true =>
          have hms := hm
          simp only [mayB, Bool.and_eq_true] at hms
          simp (disch := omega) only [EV, l10Move_eq h hS hn (hS.mem a hra) (hS.mem s hms.1) hm]
theorem plans_loop {o c k : List Int} {rs : List (List (List Int))} (ho : Low1 o) (hc : Low1 c) (hk : Low1 k) (hr : Low3 rs) {p : List (List Int)} (hp : Low2 p) (hb : seasonB o c k rs = true) (hpb : planB o rs p = true) (x y : Int) :
    L_zar_0 (x, (y, (o, (c, (k, (rs, (p, movesOf o c k rs p))))))) (([] : List Int), (0 : Int)) = some (.inl ()) := by
  have h := ssn_of hb
  have hS := sets_of h
  have hP : IsPl o c k rs p := isPl_of hpb
  have hpl := hP.len
  have hR := h.R
  have h5 := h.n5
  obtain ⟨hm1, hm2⟩ := moves_at (o := o) (c := c) (k := k) (rs := rs) (p := p) p.length
  have hm1' : (movesOf o c k rs p).length = p.length := hm1
  have h0 := iter_fold (f := fun v => (S_zar_0 (x, (y, (o, (c, (k, (rs, (p, movesOf o c k rs p))))))) v).ev) (n := p.length) (mk := fun r (a : List Int) => (a, (r : Int))) (I := fun r a => a = (mvAt o c k rs p r).1) (g := fun _ r => p.getD r []) (fin := fun _ => .inl ()) (s0 := []) rfl
    (fun r a hr' ha => by
      subst ha
      have hI := mvAt_MI h hS hP r (by omega)
      have hmr : (movesOf o c k rs p).getD r 0 = mv o c k rs r (mvAt o c k rs p r).1 (p.getD r []) := hm2 r hr'
      have hmay := hP.may r (by omega)
      have hra : risingB (mvAt o c k rs p r).1 0 ((o.length : Int) - 1) = true := hS.rising _ hI.1
      have hla := low_of (by omega) hS hI.1
      have hin : isIn (r : Int) 0 ((rs.length : Int) - 1) = true := isIn_iff.2 ⟨by omega, by omega⟩
      have hmc := im_MoveCost_eq (a := (mvAt o c k rs p r).1) (s := p.getD r []) (r : Int) ho hc hk ‹Low3 rs› hla (hp.2 _ (getD_mem (d := []) hr'))
      unfold moveOf at hmc
      rw [hb, hin, hra, Int.toNat_natCast, hmay] at hmc
      refine ⟨?_, by rw [mvAt_succ]; rfl⟩
      simp (disch := omega) only [EV, S_zar_0, hr', hmc, hm1', hmr, bne_self_eq_false]
      rfl)
    (fun a _ => by simp (disch := omega) only [EV, S_zar_0, Nat.lt_irrefl])
  exact h0.1
theorem law_FnPlans (code : List Int) (hf : Fit (.slice (.int .u8)) code) : F_zar code = some true := by
  unfold F_zar T_zar F_zas T_zas
  by_cases hbig : (65536 : Int) < (code.length : Int)
  · simp (disch := omega) only [EV, hbig]
  · have hck : CK 0 code 0 := ⟨fun x hx => fitB (hf.2 x hx), by omega, by omega, by omega⟩
    obtain ⟨o, c, k, rs, p, e1, hd, hp⟩ := drawPlan_ok hck
    obtain ⟨r, o', c', k', rs', a, s, e2, hd', ha, hs⟩ := drawMove_ok hck
    obtain ⟨eb, lb⟩ := sp_BestPlan_eq hd.o1 hd.c1 hd.k1 hd.r3
    obtain ⟨es, ls⟩ := sp_StaticPlan_eq hd.o1 hd.c1 hd.k1 hd.r3
    obtain ⟨eg, lg⟩ := sp_GreedyPlan_eq hd.o1 hd.c1 hd.k1 hd.r3
    have hml : Low1 (plMoves o c k rs p).2 := by
      unfold plMoves
      cases hb : seasonB o c k rs with
      | false => show Low1 []; unfold Low1; simp
      | true =>
        cases hpb : planB o rs p with
        | false => show Low1 []; unfold Low1; simp
        | true =>
          have h := ssn_of hb
          have hP : IsPl o c k rs p := isPl_of hpb
          have h1 := (moves_low h (sets_of h) hP).1
          have h2 := hP.len
          have h3 := h.R
          show Low1 (movesOf o c k rs p)
          exact low1_of (by omega)
    simp (disch := omega) only [EV, hbig, e1, im_PlanCost_eq hd.o1 hd.c1 hd.k1 hd.r3 hp, sp_PlanCost_eq hd.o1 hd.c1 hd.k1 hd.r3 hp, bne_self_eq_false, beq_self_eq_true, im_PlanMoves_eq hd.o1 hd.c1 hd.k1 hd.r3 hp, sp_PlanMoves_eq hd.o1 hd.c1 hd.k1 hd.r3 hp, rInts_eq hml,
      im_IsPlan_eq hd.o1 hd.c1 hd.k1 hd.r3 hp, sp_IsPlan_eq hd.o1 hd.c1 hd.k1 hd.r3 hp, IsSeason_eq hd.o1 hd.c1 hd.k1 hd.r3, im_BestPlan_eq hd.o1 hd.c1 hd.k1 hd.r3, eb, rTable_eq lb, im_BestPlanCost_eq hd.o1 hd.c1 hd.k1 hd.r3, sp_BestPlanCost_eq hd.o1 hd.c1 hd.k1 hd.r3,
      im_StaticPlan_eq hd.o1 hd.c1 hd.k1 hd.r3, es, rTable_eq ls, im_GreedyPlan_eq hd.o1 hd.c1 hd.k1 hd.r3, eg, rTable_eq lg, e2, im_MoveCost_eq r hd'.o1 hd'.c1 hd'.k1 hd'.r3 ha hs, sp_MoveCost_eq r hd'.o1 hd'.c1 hd'.k1 hd'.r3 ha hs]
    have c1 := im_PlanCost_eq hd.o1 hd.c1 hd.k1 hd.r3 lb
    have c2 := im_PlanCost_eq hd.o1 hd.c1 hd.k1 hd.r3 ls
    have c3 := im_PlanCost_eq hd.o1 hd.c1 hd.k1 hd.r3 lg
    cases hb : seasonB o c k rs with
    | false =>
      simp only [planOf, plMoves, isPlanOf, bestOf, bestCost, staticOf, greedyOf, hb, Bool.false_and, cond_false]
      simp (disch := omega) only [EV, beq_self_eq_true]
    | true =>
      have h := ssn_of hb
      have hS := sets_of h
      have hbp := best_isPl h hS
      have hgp := greedy_isPl h hS
      have hst : planB o rs (List.replicate rs.length (firstMin (keepC o c k rs) (keepAll o rs))) = true := by
        have hne : keepAll o rs ≠ [] := List.ne_nil_of_length_pos (keep_len h hS).1
        exact (List.mem_filter.1 (firstMin_spec (g := keepC o c k rs) hne).1).2
      have w1 := best_cost h hS
      have w2 := cost_ge h hS (isPl_of hst)
      have w3 := cost_ge h hS (isPl_of hgp)
      have e0 : futAt o c k rs 0 [] = ((futs o c k rs).getD 0 []).getD 0 0 := rfl
      simp only [bestOf, staticOf, greedyOf, hb, cond_true] at c1 c2 c3
      simp only [planOf, hb, hbp, hst, hgp, Bool.true_and, cond_true] at c1 c2 c3
      rw [w1, e0] at c1
      rw [e0] at w2 w3
      have n2 : ¬ costOf o c k rs (List.replicate rs.length (firstMin (keepC o c k rs) (keepAll o rs))) < ((futs o c k rs).getD 0 []).getD 0 0 := by omega
      have n3 : ¬ costOf o c k rs (planFrom (gsel o c k rs) rs.length) < ((futs o c k rs).getD 0 []).getD 0 0 := by omega
      cases hpb : planB o rs p with
      | false =>
        simp only [planOf, plMoves, isPlanOf, bestOf, bestCost, staticOf, greedyOf, hb, hpb, Bool.and_false, cond_false, cond_true]
        simp (disch := omega) only [EV, beq_self_eq_true, c1, c2, c3, bne_self_eq_false, n2, n3]
      | true =>
        have hP : IsPl o c k rs p := isPl_of hpb
        have w4 := cost_ge h hS hP
        rw [e0] at w4
        obtain ⟨m1, m2⟩ := moves_low h hS hP
        have hpl := hP.len
        have hR := h.R
        have hsum := rSum_eq (l := movesOf o c k rs p) (by omega) m2
        simp only [planOf, plMoves, isPlanOf, bestOf, bestCost, staticOf, greedyOf, hb, hpb, Bool.and_self, cond_true]
        simp (disch := omega) only [EV, beq_self_eq_true, c1, c2, c3, bne_self_eq_false, n2, n3, plans_loop hd.o1 hd.c1 hd.k1 hd.r3 hp hb hpb, hsum]
        have e3 : ((movesOf o c k rs p).foldl (fun a x => a + x) 0 == costOf o c k rs p) = true := beq_self_eq_true _
        have e4 : ((futs o c k rs).getD 0 []).getD 0 0 ≤ costOf o c k rs p := w4
        simp (disch := omega) only [EV, e3, e4]
end Go.Proofs.YtlmbhkmaflhagaaGreat
