/-
  Plain laws: grounds, metric grounds.
-/
import Derived.Test.YtlmbhkmaflhagaaP2
namespace Go.Proofs.Ytlmbhkmaflhagaa

def at2 (x : List (List Int)) (i j : Nat) : Int := (x.getD i []).getD j 0
def rowOK (x : List (List Int)) (n i : Nat) : Bool := allIn (x.getD i []) 0 99 && (((x.getD i []).length : Int) == (n : Int))
/-- What both ask of a ground. -/
structure Ground (x : List (List Int)) : Prop where
  row : ∀ i, i < x.length → rowOK x x.length i = true
  diag : ∀ i, i < x.length → at2 x i i = 0
  sym : ∀ i j, i < x.length → j < x.length → at2 x i j = at2 x j i
  len : x.length ≤ 7
def groundB (x : List (List Int)) : Bool := ((List.range x.length).all fun i => rowOK x x.length i && at2 x i i == 0 && (List.range i).all fun j => at2 x i j == at2 x j i) && decide ((x.length : Int) ≤ 7)

theorem rowOK_len {x : List (List Int)} {n i : Nat} (h : rowOK x n i = true) : (x.getD i []).length = n := by
  simp only [rowOK, Bool.and_eq_true, beq_iff_eq] at h
  omega
theorem rowOK_in {x : List (List Int)} {n i j : Nat} (h : rowOK x n i = true) (hj : j < n) : 0 ≤ at2 x i j ∧ at2 x i j ≤ 99 := by
  have hl := rowOK_len h
  simp only [rowOK, Bool.and_eq_true] at h
  exact allIn_getD h.1 (by omega)
theorem Ground.in {x : List (List Int)} (h : Ground x) {i j : Nat} (hi : i < x.length) (hj : j < x.length) : 0 ≤ at2 x i j ∧ at2 x i j ≤ 99 := rowOK_in (h.row i hi) hj
theorem Ground.rowLen {x : List (List Int)} (h : Ground x) {i : Nat} (hi : i < x.length) : (x.getD i []).length = x.length := rowOK_len (h.row i hi)

theorem groundB_iff (x : List (List Int)) : groundB x = true ↔ Ground x := by
  unfold groundB
  simp only [List.all_eq_true, List.mem_range, Bool.and_eq_true, beq_iff_eq, decide_eq_true_eq]
  constructor
  · rintro ⟨h, h7⟩
    refine ⟨fun i hi => (h i hi).1.1, fun i hi => (h i hi).1.2, fun i j hi hj => ?_, by omega⟩
    rcases Nat.lt_trichotomy i j with h1 | h1 | h1
    · exact ((h j hj).2 i h1).symm
    · rw [h1]
    · exact (h i hi).2 j h1
  · rintro ⟨h1, h2, h3, h4⟩
    exact ⟨fun i hi => ⟨⟨h1 i hi, h2 i hi⟩, fun j hj => h3 i j hi (by omega)⟩, by omega⟩


/-! ### Metric grounds -/
def metricB (x : List (List Int)) : Bool := (List.range x.length).all fun i => (List.range x.length).all fun j => (List.range x.length).all fun k => decide (at2 x i j ≤ at2 x i k + at2 x k j)

end Go.Proofs.Ytlmbhkmaflhagaa
