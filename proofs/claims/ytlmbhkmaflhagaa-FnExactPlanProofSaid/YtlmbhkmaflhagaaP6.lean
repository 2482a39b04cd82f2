/-
  Plain laws: fields, atlases.
-/
import Derived.Test.YtlmbhkmaflhagaaP4
namespace Go.Proofs.Ytlmbhkmaflhagaa

def fieldB (o : List Int) (ds : List (List Int)) : Bool := isIn (o.length : Int) 1 7 && (allIn o 0 99 && (decide ((ds.length : Int) ≤ 7) && ds.all fun r => decide (r.length = o.length) && allIn r 0 99))
structure Fld (o : List Int) (ds : List (List Int)) : Prop where
  pos : 1 ≤ o.length
  len : o.length ≤ 7
  cost : ∀ i, i < o.length → 0 ≤ o.getD i 0 ∧ o.getD i 0 ≤ 99
  clients : ds.length ≤ 7
  rowLen : ∀ j, j < ds.length → (ds.getD j []).length = o.length
  dist : ∀ j i, j < ds.length → i < o.length → 0 ≤ (ds.getD j []).getD i 0 ∧ (ds.getD j []).getD i 0 ≤ 99
theorem fieldB_iff {o : List Int} {ds : List (List Int)} : fieldB o ds = true ↔ Fld o ds := by
  unfold fieldB
  simp only [Bool.and_eq_true, decide_eq_true_eq, List.all_eq_true, isIn_iff]
  constructor
  · rintro ⟨⟨h1, h2⟩, h3, h4, h5⟩
    have h6 : ∀ j, j < ds.length → (ds.getD j []).length = o.length ∧ allIn (ds.getD j []) 0 99 = true := fun j hj => h5 _ (getD_mem (d := []) hj)
    exact ⟨by omega, by omega, fun i hi => allIn_getD h3 hi, by omega, fun j hj => (h6 j hj).1, fun j i hj hi => allIn_getD (h6 j hj).2 (by rw [(h6 j hj).1]; exact hi)⟩
  · rintro ⟨h1, h2, h3, h4, h5, h6⟩
    refine ⟨by omega, allIn_iff.2 fun a ha => ?_, by omega, fun r hr => ?_⟩
    · obtain ⟨i, hi, e⟩ := List.getElem_of_mem ha
      have := h3 i hi
      rw [List.getD_eq_getElem?_getD, List.getElem?_eq_getElem hi, Option.getD_some, e] at this
      exact this
    · obtain ⟨j, hj, e⟩ := List.getElem_of_mem hr
      have e2 : ds.getD j [] = r := by rw [List.getD_eq_getElem?_getD, List.getElem?_eq_getElem hj, Option.getD_some, e]
      have h7 := h5 j hj
      rw [e2] at h7
      refine ⟨h7, allIn_iff.2 fun a ha => ?_⟩
      obtain ⟨i, hi, e3⟩ := List.getElem_of_mem ha
      have := h6 j i hj (by omega)
      rw [e2, List.getD_eq_getElem?_getD, List.getElem?_eq_getElem hi, Option.getD_some, e3] at this
      exact this


/-! ### Atlases -/
def atlasB (o : List Int) (ds : List (List Int)) (s : List Int) (c : Int) : Bool := fieldB o ds && (risingB s 0 ((o.length : Int) - 1) && isIn c 0 1000)
end Go.Proofs.Ytlmbhkmaflhagaa
