/-
  The law of plans: their costs are those of their moves, none costs less than the best one.
-/
import Derived.Test.YtlmbhkmaflhagaaGreatQ18
import Derived.Test.YtlmbhkmaflhagaaGreatP29
namespace Go.Proofs.YtlmbhkmaflhagaaGreat
theorem rInts_eq {a b : List Int} (ha : Low1 a) : F_zar a b = some (a == b) := by
  unfold Low1 at ha
  unfold F_zar T_zar
  by_cases h : a.length = b.length
  · have hs := eq_loop (f := fun v => (S_zar_0 (a, b) v).ev) (a := a) (b := b) 0 h (fun i hi => by
      have hi' : i < b.length := by omega
      simp (disch := omega) only [EV, S_zar_0, hi, hi']
      cases hq : (a.getD i 0 == b.getD i 0) <;> simp only [bne, hq] <;> rfl) (by simp (disch := omega) only [EV, S_zar_0, Nat.lt_irrefl])
    simp (disch := omega) only [EV, int_ne, h, L_zar_0, hs]
    cases (a == b) <;> rfl
  · have : (a == b) = false := by
      rw [beq_eq_false_iff_ne]
      exact fun e => h (by rw [e])
    simp (disch := omega) only [EV, int_ne, h, this]
theorem rTable_eq {a b : List (List Int)} (ha : Low2 a) : F_zas a b = some (a == b) := by
  obtain ⟨ha, hr⟩ := ha
  unfold F_zas T_zas
  by_cases h : a.length = b.length
  · have hs := eq_loop (f := fun v => (S_zas_0 (a, b) v).ev) (a := a) (b := b) [] h (fun i hi => by
      have hi' : i < b.length := by omega
      simp (disch := omega) only [EV, S_zas_0, hi, hi', rInts_eq (hr _ (getD_mem (d := []) hi))]
      cases (a.getD i [] == b.getD i []) <;> rfl) (by simp (disch := omega) only [EV, S_zas_0, Nat.lt_irrefl])
    simp (disch := omega) only [EV, int_ne, h, L_zas_0, hs]
    cases (a == b) <;> rfl
  · have : (a == b) = false := by
      rw [beq_eq_false_iff_ne]
      exact fun e => h (by rw [e])
    simp (disch := omega) only [EV, int_ne, h, this]
def costOf (o c k : List Int) (rs : List (List (List Int))) (p : List (List Int)) : Int := (movesOf o c k rs p).foldl (fun a x => a + x) 0
def mvAt (o c k : List Int) (rs : List (List (List Int))) (p : List (List Int)) (j : Nat) : List Int × List Int := (List.range j).foldl (mvStep o c k rs p) ([], [])
theorem mvAt_succ (o c k : List Int) (rs : List (List (List Int))) (p : List (List Int)) (j : Nat) : mvAt o c k rs p (j + 1) = mvStep o c k rs p (mvAt o c k rs p j) j := by
  unfold mvAt
  rw [List.range_succ, List.foldl_append]
  rfl
theorem mvAt_MI {o c k : List Int} {rs : List (List (List Int))} (h : Ssn o c k rs) (hS : SetsOK o.length) {p : List (List Int)} (hP : IsPl o c k rs p) : ∀ j, j ≤ p.length → MI o.length j (mvAt o c k rs p j)
  | 0, _ => ⟨List.mem_cons_self, rfl, fun x hx => by cases hx⟩
  | j + 1, hj => by
    rw [mvAt_succ]
    exact ((mvAt_MI h hS hP j (by omega)).step h hS hP (by omega)).1
def futAt (o c k : List Int) (rs : List (List (List Int))) (j : Nat) (a : List Int) : Int := ((futs o c k rs).getD j []).getD (codeOf a) 0
theorem futAt_bst {o c k : List Int} {rs : List (List (List Int))} (h : Ssn o c k rs) (hS : SetsOK o.length) {j : Nat} (hj : j < rs.length) {a : List Int} (ha : a ∈ allSets o.length) : futAt o c k rs j a = bst o c k rs j ((futs o c k rs).getD (j + 1) []) a := by
  have hF := futs_Fut h hS
  unfold futAt
  rw [hF.row j hj, rowFn_getD (hS.lt a ha), ofCode_codeOf hS ha]
theorem futAt_end {o c k : List Int} {rs : List (List (List Int))} (a : List Int) : futAt o c k rs rs.length a = 0 := by
  have key : ∀ i, ((List.range i).foldl (futStep o c k rs) [List.replicate (2 ^ o.length) 0]).getD i [] = List.replicate (2 ^ o.length) 0 := by
    intro i
    induction i with
    | zero => rfl
    | succ i ih =>
      rw [List.range_succ, List.foldl_append]
      simp only [List.foldl_cons, List.foldl_nil, futStep, List.getD_cons_succ]
      exact ih
  unfold futAt futs
  rw [key, List.getD_eq_getElem?_getD, List.getElem?_replicate]
  split <;> rfl
theorem bst_le {o c k : List Int} {rs : List (List (List Int))} {r : Nat} {nx a s : List Int} (hs : s ∈ choice o rs r) : bst o c k rs r nx a ≤ cst o c k rs r nx a s := by
  have hm : cst o c k rs r nx a s ∈ (choice o rs r).map (cst o c k rs r nx a) := List.mem_map_of_mem hs
  exact (lstMin_spec (fun e => by rw [e] at hm; cases hm)).2 _ hm
theorem sum_snoc (l : List Int) (x : Int) : (l ++ [x]).foldl (fun a x => a + x) 0 = l.foldl (fun a x => a + x) 0 + x := by rw [List.foldl_append]; rfl
theorem cost_ge {o c k : List Int} {rs : List (List (List Int))} (h : Ssn o c k rs) (hS : SetsOK o.length) {p : List (List Int)} (hP : IsPl o c k rs p) : futAt o c k rs 0 [] ≤ costOf o c k rs p := by
  have key : ∀ j, j ≤ p.length → futAt o c k rs 0 [] ≤ (mvAt o c k rs p j).2.foldl (fun a x => a + x) 0 + futAt o c k rs j (mvAt o c k rs p j).1 := by
    intro j
    induction j with
    | zero => intro _; show _ ≤ (0 : Int) + futAt o c k rs 0 []; omega
    | succ j ih =>
      intro hj
      have h1 := ih (by omega)
      have hI := mvAt_MI h hS hP j (by omega)
      have hjr : j < rs.length := by have := hP.len; omega
      have hm := hP.may j hjr
      have hmem : p.getD j [] ∈ choice o rs j := by
        refine List.mem_filter.2 ⟨?_, hm⟩
        simp only [mayB, Bool.and_eq_true] at hm
        exact hS.mem _ hm.1
      have h2 := bst_le (c := c) (k := k) (nx := (futs o c k rs).getD (j + 1) []) (a := (mvAt o c k rs p j).1) hmem
      rw [← futAt_bst h hS hjr hI.1] at h2
      rw [mvAt_succ]
      simp only [mvStep]
      rw [sum_snoc]
      have e : cst o c k rs j ((futs o c k rs).getD (j + 1) []) (mvAt o c k rs p j).1 (p.getD j []) = mv o c k rs j (mvAt o c k rs p j).1 (p.getD j []) + futAt o c k rs (j + 1) (p.getD j []) := rfl
      rw [e] at h2
      omega
  have := key p.length (Nat.le_refl _)
  rw [hP.len, futAt_end] at this
  have e : costOf o c k rs p = (mvAt o c k rs p rs.length).2.foldl (fun a x => a + x) 0 := by unfold costOf movesOf mvAt; rw [hP.len]
  rw [e]
  omega
def plAt (f : Nat → List Int → List Int) (j : Nat) : List Int × List (List Int) := (List.range j).foldl (planStep f) ([], [])
theorem plAt_succ (f : Nat → List Int → List Int) (j : Nat) : plAt f (j + 1) = planStep f (plAt f j) j := by
  unfold plAt
  rw [List.range_succ, List.foldl_append]
  rfl
theorem plan_at {f : Nat → List Int → List Int} : ∀ n, (plAt f n).2.length = n ∧ ∀ r, r < n → (plAt f n).2.getD r [] = f r (plAt f r).1
  | 0 => ⟨rfl, fun r hr => by omega⟩
  | n + 1 => by
    obtain ⟨h1, h2⟩ := plan_at (f := f) n
    rw [plAt_succ]
    refine ⟨by simp [planStep, h1], fun r hr => ?_⟩
    simp only [planStep]
    by_cases e : r = n
    · subst e
      rw [List.getD_eq_getElem?_getD, List.getElem?_append_right (by omega), h1]
      simp
    · rw [List.getD_eq_getElem?_getD, List.getElem?_append_left (by omega), ← List.getD_eq_getElem?_getD]
      exact h2 r (by omega)
theorem plan_isPl {o c k : List Int} {rs : List (List (List Int))} {f : Nat → List Int → List Int} (hf : ∀ r a, r < rs.length → mayB o rs r (f r a) = true) : planB o rs (planFrom f rs.length) = true := by
  obtain ⟨h1, h2⟩ := plan_at (f := f) rs.length
  simp only [planB, Bool.and_eq_true, decide_eq_true_eq, List.all_eq_true, List.mem_range]
  refine ⟨h1, fun r hr => ?_⟩
  have : (planFrom f rs.length).getD r [] = f r (plAt f r).1 := h2 r hr
  rw [this]
  exact hf r _ hr
theorem plan_before {o c k : List Int} {rs : List (List (List Int))} {f : Nat → List Int → List Int} {n : Nat} : ∀ j, j ≤ n → (mvAt o c k rs (planFrom f n) j).1 = (plAt f j).1
  | 0, _ => rfl
  | j + 1, hj => by
    rw [mvAt_succ, plAt_succ]
    exact (plan_at (f := f) n).2 j (by omega)
theorem best_isPl {o c k : List Int} {rs : List (List (List Int))} (h : Ssn o c k rs) (hS : SetsOK o.length) : planB o rs (planFrom (bsel o c k rs (futs o c k rs)) rs.length) = true := plan_isPl (c := c) (k := k) fun r a _ => (sel_mem h hS r _).2
theorem best_cost {o c k : List Int} {rs : List (List (List Int))} (h : Ssn o c k rs) (hS : SetsOK o.length) : costOf o c k rs (planFrom (bsel o c k rs (futs o c k rs)) rs.length) = futAt o c k rs 0 [] := by
  have hP : IsPl o c k rs (planFrom (bsel o c k rs (futs o c k rs)) rs.length) := isPl_of (best_isPl h hS)
  generalize hp : planFrom (bsel o c k rs (futs o c k rs)) rs.length = p at hP
  have key : ∀ j, j ≤ rs.length → futAt o c k rs 0 [] = (mvAt o c k rs p j).2.foldl (fun a x => a + x) 0 + futAt o c k rs j (mvAt o c k rs p j).1 := by
    intro j
    induction j with
    | zero => intro _; show _ = (0 : Int) + futAt o c k rs 0 []; omega
    | succ j ih =>
      intro hj
      have h1 := ih (by omega)
      have hI := mvAt_MI h hS hP j (by rw [hP.len]; omega)
      have hjr : j < rs.length := by omega
      have hsel : p.getD j [] = bsel o c k rs (futs o c k rs) j (mvAt o c k rs p j).1 := by
        rw [← hp, plan_before j (by omega)]
        exact (plan_at (f := bsel o c k rs (futs o c k rs)) rs.length).2 j hjr
      have h2 := (firstMin_spec (g := cst o c k rs j ((futs o c k rs).getD (j + 1) []) (mvAt o c k rs p j).1) (l := choice o rs j) (List.ne_nil_of_length_pos (choice_bound h hS j).1)).2
      have h3 : cst o c k rs j ((futs o c k rs).getD (j + 1) []) (mvAt o c k rs p j).1 (p.getD j []) = futAt o c k rs j (mvAt o c k rs p j).1 := by
        rw [futAt_bst h hS hjr hI.1, hsel]
        exact h2
      rw [mvAt_succ]
      simp only [mvStep]
      rw [sum_snoc]
      have e : cst o c k rs j ((futs o c k rs).getD (j + 1) []) (mvAt o c k rs p j).1 (p.getD j []) = mv o c k rs j (mvAt o c k rs p j).1 (p.getD j []) + futAt o c k rs (j + 1) (p.getD j []) := rfl
      rw [e] at h3
      omega
  have := key rs.length (Nat.le_refl _)
  rw [futAt_end] at this
  have e : costOf o c k rs p = (mvAt o c k rs p rs.length).2.foldl (fun a x => a + x) 0 := by unfold costOf movesOf mvAt; rw [hP.len]
  rw [e]
  omega
def planOf (o c k : List Int) (rs : List (List (List Int))) (p : List (List Int)) : Int × Bool := bif seasonB o c k rs && planB o rs p then (costOf o c k rs p, true) else (0, false)
def plMoves (o c k : List Int) (rs : List (List (List Int))) (p : List (List Int)) : Bool × List Int := bif seasonB o c k rs && planB o rs p then (true, movesOf o c k rs p) else (false, [])
def isPlanOf (o c k : List Int) (rs : List (List (List Int))) (p : List (List Int)) : Bool × Bool := bif seasonB o c k rs then (planB o rs p, true) else (false, false)
theorem moves_low {o c k : List Int} {rs : List (List (List Int))} (h : Ssn o c k rs) (hS : SetsOK o.length) {p : List (List Int)} (hP : IsPl o c k rs p) : (movesOf o c k rs p).length = p.length ∧ ∀ x ∈ movesOf o c k rs p, 0 ≤ x ∧ x ≤ 2178 := by
  have hI := mvAt_MI h hS hP p.length (Nat.le_refl _)
  exact ⟨hI.2.1, hI.2.2⟩
theorem im_IsPlan_eq {o c k : List Int} {rs : List (List (List Int))} {p : List (List Int)} (ho : Low1 o) (hc : Low1 c) (hk : Low1 k) (hr : Low3 rs) (hp : Low2 p) : F_zm o c k rs p = some (isPlanOf o c k rs p) := by
  unfold F_zm T_zm isPlanOf
  simp (disch := omega) only [EV, IsSeason_eq ho hc hk hr]
  cases hs : seasonB o c k rs with
  | false => rfl
  | true => simp (disch := omega) only [EV, isPlan_eq (ssn_of hs) hp]
theorem im_PlanMoves_eq {o c k : List Int} {rs : List (List (List Int))} {p : List (List Int)} (ho : Low1 o) (hc : Low1 c) (hk : Low1 k) (hr : Low3 rs) (hp : Low2 p) : F_zr o c k rs p = some (plMoves o c k rs p) := by
  unfold F_zr T_zr plMoves
  simp (disch := omega) only [EV, im_IsPlan_eq ho hc hk hr hp]
  unfold isPlanOf
  cases hs : seasonB o c k rs with
  | false => rfl
  | true =>
    cases hp : planB o rs p with
    | false => rfl
    | true =>
      have h := ssn_of hs
      simp (disch := omega) only [EV, moves_eq h (sets_of h) (isPl_of hp)]
theorem im_PlanCost_eq {o c k : List Int} {rs : List (List (List Int))} {p : List (List Int)} (ho : Low1 o) (hc : Low1 c) (hk : Low1 k) (hr : Low3 rs) (hp : Low2 p) : F_zq o c k rs p = some (planOf o c k rs p) := by
  unfold F_zq T_zq planOf
  simp (disch := omega) only [EV, im_PlanMoves_eq ho hc hk hr hp]
  unfold plMoves
  have hnil : F_zao [] = some 0 := im_sum_eq (l := []) (B := 0) (by simp) (by simp) (fun a ha => by cases ha)
  cases hs : seasonB o c k rs with
  | false => simp (disch := omega) only [EV, hnil]
  | true =>
    cases hp : planB o rs p with
    | false => simp (disch := omega) only [EV, hnil]
    | true =>
      have h := ssn_of hs
      have hP : IsPl o c k rs p := isPl_of hp
      obtain ⟨h1, h2⟩ := moves_low h (sets_of h) hP
      have h3 := hP.len
      have hR := h.R
      simp (disch := omega) only [EV, im_sum_eq (l := movesOf o c k rs p) (B := 2178) (by omega) (by omega) h2]
      rfl
end Go.Proofs.YtlmbhkmaflhagaaGreat
