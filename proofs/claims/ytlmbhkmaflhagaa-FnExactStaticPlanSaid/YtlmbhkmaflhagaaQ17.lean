/-
  The laws of the greedy plan and of the best one.
-/
import Derived.Test.YtlmbhkmaflhagaaQ16
namespace Go.Proofs.Ytlmbhkmaflhagaa
theorem find_filter' {m q : List Int → Bool} : ∀ (l : List (List Int)), (l.filter m).find? q = l.find? fun s => m s && q s
  | [] => rfl
  | a :: l => by
    cases hm : m a with
    | false => rw [List.filter_cons_of_neg (by simp [hm]), find_filter' l, List.find?_cons, hm]; rfl
    | true =>
      rw [List.filter_cons_of_pos hm, List.find?_cons, List.find?_cons, hm, Bool.true_and]
      cases q a with
      | true => rfl
      | false => exact find_filter' l
theorem firstMin_filter {g : List Int → Int} {m : List Int → Bool} {l : List (List Int)} {b : Nat} (hb : b < l.length) (hm : m (l.getD b []) = true) (h1 : ∀ i, i < l.length → m (l.getD i []) = true → g (l.getD b []) ≤ g (l.getD i [])) (h2 : ∀ i, i < b → m (l.getD i []) = true → g (l.getD b []) < g (l.getD i [])) :
    firstMin g (l.filter m) = l.getD b [] := by
  have hM : lstMin ((l.filter m).map g) = g (l.getD b []) := by
    refine lstMin_eq (List.mem_map_of_mem (List.mem_filter.2 ⟨getD_mem hb, hm⟩)) fun x hx => ?_
    obtain ⟨s, hs, rfl⟩ := List.mem_map.1 hx
    obtain ⟨hs, hms⟩ := List.mem_filter.1 hs
    obtain ⟨i, hi, e⟩ := List.getElem_of_mem hs
    have e' : l.getD i [] = s := by rw [List.getD_eq_getElem?_getD, List.getElem?_eq_getElem hi, Option.getD_some, e]
    rw [← e']
    exact h1 i hi (by rw [e']; exact hms)
  unfold firstMin
  rw [hM, find_filter', find_first hb (by rw [hm]; simp) fun i hi => ?_]
  · rfl
  · cases hmi : m (l.getD i []) with
    | false => rfl
    | true =>
      have := h2 i hi hmi
      simp only [Bool.true_and, decide_eq_false_iff_not]
      omega
theorem first_ix {p : List Int → Bool} : ∀ {l : List (List Int)}, (∃ s ∈ l, p s = true) → ∃ b, b < l.length ∧ p (l.getD b []) = true ∧ ∀ i, i < b → p (l.getD i []) = false
  | [], h => by obtain ⟨s, hs, _⟩ := h; cases hs
  | a :: l, h => by
    cases ha : p a with
    | true => exact ⟨0, by simp, by simpa using ha, fun i hi => by omega⟩
    | false =>
      obtain ⟨s, hs, hp⟩ := h
      rcases List.mem_cons.1 hs with rfl | hs
      · rw [ha] at hp; cases hp
      · obtain ⟨b, h1, h2, h3⟩ := first_ix (l := l) ⟨s, hs, hp⟩
        refine ⟨b + 1, by simpa using h1, by simpa using h2, fun i hi => ?_⟩
        cases i with
        | zero => simpa using ha
        | succ i => simpa using h3 i (by omega)
theorem set_app {l : List (List Int)} (x : List Int) : List.set (l ++ [[]]) l.length x = l ++ [x] := by
  rw [List.set_append_right _ _ (Nat.le_refl _)]
  simp
def planStep (f : Nat → List Int → List Int) (st : List Int × List (List Int)) (r : Nat) : List Int × List (List Int) := (f r st.1, st.2 ++ [f r st.1])
def planFrom (f : Nat → List Int → List Int) (n : Nat) : List (List Int) := ((List.range n).foldl (planStep f) ([], [])).2
def PlI (n i : Nat) (st : List Int × List (List Int)) : Prop := st.1 ∈ allSets n ∧ st.2.length = i ∧ ∀ s ∈ st.2, s ∈ allSets n
theorem PlI.zero {n : Nat} (hS : SetsOK n) : PlI n 0 ([], []) := ⟨nil_mem hS, rfl, fun s hs => by cases hs⟩
theorem PlI.step {n i : Nat} {f : Nat → List Int → List Int} {st : List Int × List (List Int)} (hI : PlI n i st) (hf : f i st.1 ∈ allSets n) : PlI n (i + 1) (planStep f st i) := by
  refine ⟨hf, by simp [planStep, hI.2.1], fun s hs => ?_⟩
  simp only [planStep, List.mem_append, List.mem_singleton] at hs
  rcases hs with hs | rfl
  · exact hI.2.2 s hs
  · exact hf
theorem PlI.low {n i : Nat} (h7 : n ≤ 7) (hi : i ≤ 5) (hS : SetsOK n) {st : List Int × List (List Int)} (hI : PlI n i st) : Low2 st.2 := by
  have := hI.2.1
  exact ⟨by omega, fun r hr => low_of h7 hS (hI.2.2 r hr)⟩
def gsel (o c k : List Int) (rs : List (List (List Int))) (r : Nat) (a : List Int) : List Int := firstMin (mv o c k rs r a) (choice o rs r)
def bsel (o c k : List Int) (rs : List (List (List Int))) (t : List (List Int)) (r : Nat) (a : List Int) : List Int := firstMin (cst o c k rs r (t.getD (r + 1) []) a) (choice o rs r)
theorem sel_mem {o c k : List Int} {rs : List (List (List Int))} (h : Ssn o c k rs) (hS : SetsOK o.length) (r : Nat) (g : List Int → Int) : firstMin g (choice o rs r) ∈ allSets o.length ∧ mayB o rs r (firstMin g (choice o rs r)) = true := by
  obtain ⟨h1, _⟩ := firstMin_spec (g := g) (l := choice o rs r) (List.ne_nil_of_length_pos (choice_bound h hS r).1)
  exact List.mem_filter.1 h1
theorem own_set {s : List Int} (hl : Low1 s) : F_sp_l1Own s = some s := by
  unfold Low1 at hl
  unfold F_sp_l1Own T_sp_l1Own
  simp (disch := omega) only [EV, show ([] : List Int).length = 0 from rfl, show (0 + s.length) * 8 ≤ 140737488355328 by omega, List.nil_append]
theorem clone_set {s : List Int} (hl : Low1 s) : F_slices_Clone_Sint_int s = some s := by
  unfold Low1 at hl
  show cloneF s = some s
  unfold cloneF
  rw [if_pos (by omega)]
end Go.Proofs.Ytlmbhkmaflhagaa
