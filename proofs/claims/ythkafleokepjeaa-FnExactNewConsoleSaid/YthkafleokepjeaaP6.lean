/-
  Plain laws: fields, atlases.
-/
import Derived.Test.YthkafleokepjeaaP4
namespace Go.Proofs.Ythkafleokepjeaa

def fieldB (o : List Int) (ds : List (List Int)) : Bool := isIn (o.length : Int) 1 7 && (allIn o 0 99 && (decide ((ds.length : Int) ≤ 7) && ds.all fun r => decide (r.length = o.length) && allIn r 0 99))
structure Fld (o : List Int) (ds : List (List Int)) : Prop where
  pos : 1 ≤ o.length
  len : o.length ≤ 7
  cost : ∀ i, i < o.length → 0 ≤ o.getD i 0 ∧ o.getD i 0 ≤ 99
  clients : ds.length ≤ 7
  rowLen : ∀ j, j < ds.length → (ds.getD j []).length = o.length
  dist : ∀ j i, j < ds.length → i < o.length → 0 ≤ (ds.getD j []).getD i 0 ∧ (ds.getD j []).getD i 0 ≤ 99
theorem fieldB_iff {o : List Int} {ds : List (List Int)} : fieldB o ds = true ↔ Fld o ds := by
  unfold fieldB
  simp only [Bool.and_eq_true, decide_eq_true_eq, List.all_eq_true, isIn_iff]
  constructor
  · rintro ⟨⟨h1, h2⟩, h3, h4, h5⟩
    have h6 : ∀ j, j < ds.length → (ds.getD j []).length = o.length ∧ allIn (ds.getD j []) 0 99 = true := fun j hj => h5 _ (getD_mem (d := []) hj)
    exact ⟨by omega, by omega, fun i hi => allIn_getD h3 hi, by omega, fun j hj => (h6 j hj).1, fun j i hj hi => allIn_getD (h6 j hj).2 (by rw [(h6 j hj).1]; exact hi)⟩
  · rintro ⟨h1, h2, h3, h4, h5, h6⟩
    refine ⟨by omega, allIn_iff.2 fun a ha => ?_, by omega, fun r hr => ?_⟩
    · obtain ⟨i, hi, e⟩ := List.getElem_of_mem ha
      have := h3 i hi
      rw [List.getD_eq_getElem?_getD, List.getElem?_eq_getElem hi, Option.getD_some, e] at this
      exact this
    · obtain ⟨j, hj, e⟩ := List.getElem_of_mem hr
      have e2 : ds.getD j [] = r := by rw [List.getD_eq_getElem?_getD, List.getElem?_eq_getElem hj, Option.getD_some, e]
      have h7 := h5 j hj
      rw [e2] at h7
      refine ⟨h7, allIn_iff.2 fun a ha => ?_⟩
      obtain ⟨i, hi, e3⟩ := List.getElem_of_mem ha
      have := h6 j i hj (by omega)
      rw [e2, List.getD_eq_getElem?_getD, List.getElem?_eq_getElem hi, Option.getD_some, e3] at this
      exact this

theorem l2Good_eq {o : List Int} {ds : List (List Int)} (ho : Low1 o) (hd : Low2 ds) : F_sp_l2Good o ds = some (fieldB o ds) := by
  have hl := hd.1
  have h0 : L_sp_l2Good_0 ((o.length : Int), (o, ds)) 0 = _ := iter_allR (f := fun v => (S_sp_l2Good_0 ((o.length : Int), (o, ds)) v).ev) (n := ds.length) (mk := fun i => (i : Int)) (p := fun i => decide ((ds.getD i []).length = o.length) && allIn (ds.getD i []) 0 99) (yes := .inl ()) (no := .inr ()) (fun i hi _ => by
      simp (disch := omega) only [EV, S_sp_l2Good_0, hi, l2Row_eq (hd.2 _ (getD_mem (d := []) hi)), int_eq]
      cases allIn (ds.getD i []) 0 99 <;> cases decide ((ds.getD i []).length = o.length) <;> rfl) (by simp (disch := omega) only [EV, S_sp_l2Good_0, Nat.lt_irrefl])
  rw [all_range ds [] (fun r => decide (r.length = o.length) && allIn r 0 99)] at h0
  unfold F_sp_l2Good T_sp_l2Good fieldB
  simp (disch := omega) only [EV, h0, l1In_eq, l2Row_eq ho, int_eq]
  cases ds.all (fun r => decide (r.length = o.length) && allIn r 0 99) <;> cases isIn (o.length : Int) 1 7 <;> cases allIn o 0 99 <;> cases decide ((ds.length : Int) ≤ 7) <;> rfl
theorem IsField_eq {o : List Int} {ds : List (List Int)} (ho : Low1 o) (hd : Low2 ds) : F_im_IsField o ds = some (fieldB o ds) := by
  have hl := hd.1
  have hc := containsFunc_Sint (l := ds) (show (ds.length : Int) < 9223372036854775807 by omega) (p := fun a => Option.bind (F_im_IsField_1 a.1 o ds) fun y => some y) (q := fun r => !(decide (r.length = o.length) && allIn r 0 99)) fun r hr => by
    unfold F_im_IsField_1 T_im_IsField_1
    simp (disch := omega) only [EV, areBetween_eq (hd.2 r hr), int_ne]
    cases decide (r.length = o.length) <;> cases allIn r 0 99 <;> rfl
  unfold F_im_IsField T_im_IsField fieldB
  simp (disch := omega) only [EV, between_eq, areBetween_eq ho, hc]
  rw [List.any_eq_not_all_not]
  simp only [Bool.not_not]
  cases isIn (o.length : Int) 1 7 <;> cases allIn o 0 99 <;> by_cases h : (ds.length : Int) ≤ 7 <;> simp only [h, decide_true, decide_false, if_true, if_false] <;> rfl

/-! ### Atlases -/
def atlasB (o : List Int) (ds : List (List Int)) (s : List Int) (c : Int) : Bool := fieldB o ds && (risingB s 0 ((o.length : Int) - 1) && isIn c 0 1000)
theorem l2Set_eq {o : List Int} (ds : List (List Int)) {s : List Int} (ho : Low1 o) (hs : Low1 s) : F_sp_l2Set o ds s = some (risingB s 0 ((o.length : Int) - 1)) := by
  unfold Low1 at ho
  unfold F_sp_l2Set T_sp_l2Set
  simp (disch := omega) only [EV, l1Rising_eq hs]
theorem l12Good_eq {o : List Int} {ds : List (List Int)} {s : List Int} (ho : Low1 o) (hd : Low2 ds) (hs : Low1 s) (c : Int) : F_sp_l12Good o ds s c = some (atlasB o ds s c) := by
  unfold F_sp_l12Good T_sp_l12Good atlasB
  simp (disch := omega) only [EV, l2Good_eq ho hd, l2Set_eq ds ho hs, l1In_eq]
  cases fieldB o ds <;> cases risingB s 0 ((o.length : Int) - 1) <;> rfl
theorem im_IsAtlas_eq {o : List Int} {ds : List (List Int)} {s : List Int} (ho : Low1 o) (hd : Low2 ds) (hs : Low1 s) (c : Int) : F_im_IsAtlas o ds s c = some (atlasB o ds s c) := by
  have h := ho
  unfold Low1 at h
  unfold F_im_IsAtlas T_im_IsAtlas atlasB
  simp (disch := omega) only [EV, IsField_eq ho hd, isRising_eq hs (show (0 : Int) ≤ (o.length : Int) by omega) h, between_eq]
  cases fieldB o ds <;> cases risingB s 0 ((o.length : Int) - 1) <;> rfl
theorem szField_sz {o : List Int} {ds : List (List Int)} {b : Int} (ho : Fit1 o) (hd : Fit2 ds) (h0 : 0 ≤ b) (h1 : b ≤ 1048576) : Sz (F_lw_szField o ds b) (Low1 o ∧ Low2 ds) := by
  unfold F_lw_szField T_lw_szField
  obtain ⟨r, e1, k1, k2⟩ := szIntS_sz ho h0 h1
  simp (disch := omega) only [EV, e1]
  by_cases hr : r < 0
  · simp (disch := omega) only [EV, hr]
    exact ⟨_, rfl, by omega, fun h => by omega⟩
  · obtain ⟨r2, e2, k3, k4⟩ := szIntSS_sz hd (show 0 ≤ r by omega) k1
    simp (disch := omega) only [EV, hr, e2]
    by_cases hr2 : r2 < 0
    · simp (disch := omega) only [EV, hr2]
      exact ⟨_, rfl, by omega, fun h => by omega⟩
    · simp (disch := omega) only [EV, hr2]
      exact ⟨_, rfl, k3, fun h => ⟨k2 (by omega), k4 h⟩⟩
theorem szAtlas_sz {o : List Int} {ds : List (List Int)} {s : List Int} (c : Int) {b : Int} (ho : Fit1 o) (hd : Fit2 ds) (hs : Fit1 s) (h0 : 0 ≤ b) (h1 : b ≤ 1048576) : Sz (F_lw_szAtlas o ds s c b) (Low1 o ∧ Low2 ds ∧ Low1 s) := by
  unfold F_lw_szAtlas T_lw_szAtlas
  obtain ⟨r, e1, k1, k2⟩ := szField_sz ho hd h0 h1
  simp (disch := omega) only [EV, e1]
  by_cases hr : r < 0
  · simp (disch := omega) only [EV, hr]
    exact ⟨_, rfl, by omega, fun h => by omega⟩
  · obtain ⟨r2, e2, k3, k4⟩ := szIntS_sz hs (show 0 ≤ r by omega) k1
    simp (disch := omega) only [EV, hr, e2]
    by_cases hr2 : r2 < 0
    · simp (disch := omega) only [EV, hr2]
      exact ⟨_, rfl, by omega, fun h => by omega⟩
    · simp (disch := omega) only [EV, hr2]
      exact ⟨_, rfl, k3, fun h => ⟨(k2 (by omega)).1, (k2 (by omega)).2, k4 h⟩⟩
theorem toField_eq {o : List Int} {ds : List (List Int)} (ho : Low1 o) (hd : Low2 ds) : F_lw_toField o ds = some (o, ds) := by
  unfold F_lw_toField T_lw_toField
  simp (disch := omega) only [EV, toIntS_eq ho, toIntSS_eq hd]
theorem toAtlas_eq {o : List Int} {ds : List (List Int)} {s : List Int} (ho : Low1 o) (hd : Low2 ds) (hs : Low1 s) (c : Int) : F_lw_toAtlas o ds s c = some (c, o, ds, s) := by
  unfold F_lw_toAtlas T_lw_toAtlas
  simp (disch := omega) only [EV, toField_eq ho hd, toIntS_eq hs]
theorem eqField_eq {o o' : List Int} {ds ds' : List (List Int)} (ho : Low1 o) (hd : Low2 ds) : F_lw_eqField o ds o' ds' = some ((o == o') && (ds == ds')) := by
  unfold F_lw_eqField T_lw_eqField
  simp (disch := omega) only [EV, eqIntS_eq ho, eqIntSS_eq hd]
  cases (o == o') <;> cases (ds == ds') <;> rfl
theorem eqAtlas_eq {o o' : List Int} {ds ds' : List (List Int)} {s s' : List Int} (ho : Low1 o) (hd : Low2 ds) (hs : Low1 s) (c c' : Int) : F_lw_eqAtlas o ds s c o' ds' s' c' = some ((o == o') && (ds == ds') && ((s == s') && (c == c'))) := by
  unfold F_lw_eqAtlas T_lw_eqAtlas
  simp (disch := omega) only [EV, eqField_eq ho hd, eqIntS_eq hs, bne]
  cases ((o == o') && (ds == ds')) <;> cases (s == s') <;> cases (c == c') <;> rfl
end Go.Proofs.Ythkafleokepjeaa
