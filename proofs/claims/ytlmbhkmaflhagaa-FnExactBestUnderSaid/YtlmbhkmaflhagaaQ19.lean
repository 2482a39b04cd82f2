/-
  The laws of best sets under a condition: the first one of the least ones among all sets with it.
-/
import Derived.Test.YtlmbhkmaflhagaaP28
import Derived.Test.YtlmbhkmaflhagaaP8
import Derived.Test.YtlmbhkmaflhagaaP7
import Derived.Test.YtlmbhkmaflhagaaPM
namespace Go.Proofs.Ytlmbhkmaflhagaa
theorem setP_places {n : Nat} (h7 : n ≤ 7) (hS : SetsP n) {s : List Int} (hs : s ∈ setsOf n) : Places s n ∧ 0 < s.length ∧ Low1 s := by
  obtain ⟨h1, h2, h3⟩ := hS.rising s hs
  have hl : Low1 s := by unfold Low1; omega
  exact ⟨Places.of hl h1, h2, hl⟩
def frontB (o : List Int) (ds : List (List Int)) (a b : Int) : Bool := fieldB o ds && (isIn a 1 5 && isIn b 1 5)
theorem l11Two_eq {o : List Int} {ds : List (List Int)} (ho : Low1 o) (hd : Low2 ds) (a b : Int) : F_sp_l11Two o ds a b = some (frontB o ds a b) := by
  unfold F_sp_l11Two T_sp_l11Two F_sp_l11Objective T_sp_l11Objective frontB
  simp (disch := omega) only [EV, l2Good_eq ho hd, l1In_eq]
  cases fieldB o ds <;> cases isIn a 1 5 <;> rfl
theorem isFront_eq {o : List Int} {ds : List (List Int)} (ho : Low1 o) (hd : Low2 ds) (a b : Int) : F_im_isFront o ds a b = some (frontB o ds a b) := by
  unfold F_im_isFront T_im_isFront F_im_isObjective T_im_isObjective frontB
  simp (disch := omega) only [EV, IsField_eq ho hd, between_eq]
  cases fieldB o ds <;> cases isIn a 1 5 <;> rfl
def underL (o : List Int) (ds : List (List Int)) (b lim : Int) : List (List Int) := (setsOf o.length).filter fun s => decide (valueOf o ds s b ≤ lim)
def underOf (o : List Int) (ds : List (List Int)) (a b lim : Int) : Bool × List Int :=
  bif frontB o ds a b then (if underL o ds b lim = [] then (false, []) else (true, firstMin (fun s => valueOf o ds s a) (underL o ds b lim))) else (false, [])
theorem frontB_fld {o : List Int} {ds : List (List Int)} {a b : Int} (h : frontB o ds a b = true) : Fld o ds := by
  unfold frontB at h
  simp only [Bool.and_eq_true] at h
  exact fieldB_iff.1 h.1
theorem fld_n {o : List Int} {ds : List (List Int)} (hf : Fld o ds) : 1 ≤ o.length ∧ o.length ≤ 7 := by
  have h1 := hf.len
  have h2 := hf.pos
  omega
theorem im_BestUnder_eq {o : List Int} {ds : List (List Int)} (ho : Low1 o) (hd : Low2 ds) (a b lim : Int) : F_im_BestUnder o ds a b lim = some (underOf o ds a b lim) := by
  unfold F_im_BestUnder T_im_BestUnder underOf
  simp (disch := omega) only [EV, isFront_eq ho hd]
  cases hb : frontB o ds a b with
  | false => rfl
  | true =>
    have hf := frontB_fld hb
    obtain ⟨hn1, hn7⟩ := fld_n hf
    have hS := setsP hn1 hn7
    obtain ⟨x, e1, e2, e3⟩ := hS.im
    have hl128 := setsP_len hS hn7
    have hxl : x.1.length = (setsOf o.length).length := by rw [← e3, permL_len]
    obtain ⟨y, k1, k2, k3⟩ := deleteFunc_eq (x := x) e2 (by omega) (p := fun h3_ => Option.bind (F_im_BestUnder_1 h3_.1 o ds b lim) fun y4_ => some y4_) (q := fun s => decide (lim < valueOf o ds s b)) fun s hs => by
      rw [e3] at hs
      obtain ⟨p1, p2, _⟩ := setP_places hn7 hS hs
      show Option.bind (F_im_BestUnder_1 s o ds b lim) _ = _
      unfold F_im_BestUnder_1 T_im_BestUnder_1
      simp (disch := omega) only [EV, value_eq hf p1 p2]
    have hk : permL y.1 y.2 = underL o ds b lim := by
      rw [k3, e3]
      unfold underL
      congr 1
      funext s
      by_cases h : valueOf o ds s b ≤ lim
      · have : ¬ lim < valueOf o ds s b := by omega
        simp [h, this]
      · have : lim < valueOf o ds s b := by omega
        simp [h, this]
    have hyl : y.1.length = (underL o ds b lim).length := by rw [← hk, permL_len]
    have hfl : (underL o ds b lim).length ≤ 128 := Nat.le_trans (List.length_filter_le _ _) hl128
    have hset : ∀ s ∈ underL o ds b lim, s ∈ setsOf o.length := fun s hs => (List.mem_filter.1 hs).1
    simp (disch := omega) only [EV, e1, k1, hyl]
    by_cases he : underL o ds b lim = []
    · rw [if_pos he, he]
      rfl
    · have hpos : 0 < (underL o ds b lim).length := List.length_pos_iff.2 he
      have hz : (((underL o ds b lim).length : Int) == 0) = false := beq_eq_false_iff_ne.2 (by omega)
      have hle := leastP_eq (x := y) k2 (by omega) (by omega) (p := fun h6_ => Option.bind (F_im_BestUnder_2 h6_.1 o ds a) fun y7_ => some y7_) (g := fun s => valueOf o ds s a) fun s hs => by
        rw [hk] at hs
        obtain ⟨p1, p2, _⟩ := setP_places hn7 hS (hset s hs)
        show Option.bind (F_im_BestUnder_2 s o ds a) _ = _
        unfold F_im_BestUnder_2 T_im_BestUnder_2
        simp (disch := omega) only [EV, value_eq hf p1 p2]
      rw [hk] at hle
      simp (disch := omega) only [EV, hz, hle]
      rw [if_neg he]
theorem sp_BestUnder_eq {o : List Int} {ds : List (List Int)} (ho : Low1 o) (hd : Low2 ds) (a b lim : Int) : F_sp_BestUnder o ds a b lim = some ((underOf o ds a b lim).2, (underOf o ds a b lim).1) ∧ Low1 (underOf o ds a b lim).2 := by
  unfold F_sp_BestUnder T_sp_BestUnder underOf
  simp (disch := omega) only [EV, l11Two_eq ho hd]
  cases hb : frontB o ds a b with
  | false => exact ⟨rfl, by show Low1 []; unfold Low1; simp⟩
  | true =>
    have hf := frontB_fld hb
    obtain ⟨hn1, hn7⟩ := fld_n hf
    have hS := setsP hn1 hn7
    have hl128 := setsP_len hS hn7
    have hpk := pickL_eq (q := fun s => decide (valueOf o ds s b ≤ lim)) (g := fun s => valueOf o ds s a) (setsOf o.length) fun s hs e => by
      have := (setP_places hn7 hS hs).2.1
      rw [e] at this
      simp at this
    have h0 := iter_foldl (f := fun v => (S_sp_BestUnder_0 (a, (b, (lim, (setsOf o.length, (o, ds))))) v).ev) (setsOf o.length) [] (mk := fun i s => (s, (i : Int))) (I := fun _ s => s = [] ∨ s ∈ setsOf o.length)
      (g := fun c s => if decide (valueOf o ds s b ≤ lim) = true ∧ (c = [] ∨ valueOf o ds s a < valueOf o ds c a) then s else c) (fin := fun s => s) (s0 := []) (.inl rfl)
      (fun i s hi hI => by
        have hm : (setsOf o.length).getD i [] ∈ setsOf o.length := getD_mem hi
        obtain ⟨p1, p2, _⟩ := setP_places hn7 hS hm
        refine ⟨?_, ?_⟩
        · by_cases hv : valueOf o ds ((setsOf o.length).getD i []) b ≤ lim
          · rcases hI with rfl | hs
            · have hz : (((List.length ([] : List Int) : Nat) : Int) == 0) = true := rfl
              simp (disch := omega) only [EV, S_sp_BestUnder_0, hi, l11Value_eq hf p1 p2, hv, hz]
              rw [if_pos ⟨by simp, .inl (by simp)⟩]
              rfl
            · obtain ⟨q1, q2, _⟩ := setP_places hn7 hS hs
              have hz : (((s.length : Nat) : Int) == 0) = false := beq_eq_false_iff_ne.2 (by omega)
              have hne : s ≠ [] := fun e => by rw [e] at q2; simp at q2
              by_cases hc : valueOf o ds ((setsOf o.length).getD i []) a < valueOf o ds s a
              · simp (disch := omega) only [EV, S_sp_BestUnder_0, hi, l11Value_eq hf p1 p2, l11Value_eq hf q1 q2, hv, hz, hc]
                rw [if_pos ⟨by simp, .inr trivial⟩]
                rfl
              · simp (disch := omega) only [EV, S_sp_BestUnder_0, hi, l11Value_eq hf p1 p2, l11Value_eq hf q1 q2, hv, hz, hc]
                rw [if_neg (fun h => h.2.elim hne id)]
                rfl
          · simp (disch := omega) only [EV, S_sp_BestUnder_0, hi, l11Value_eq hf p1 p2, hv]
            rw [if_neg (fun h => by simp at h)]
            rfl
        · split
          · exact .inr hm
          · exact hI)
      (fun s _ => by simp (disch := omega) only [EV, S_sp_BestUnder_0, Nat.lt_irrefl])
    have h1 : L_sp_BestUnder_0 (a, (b, (lim, (setsOf o.length, (o, ds))))) (([] : List Int), (0 : Int)) = some (pickL (fun s => decide (valueOf o ds s b ≤ lim)) (fun s => valueOf o ds s a) (setsOf o.length)) := h0.1
    rw [hpk] at h1
    have hu : (setsOf o.length).filter (fun s => decide (valueOf o ds s b ≤ lim)) = underL o ds b lim := rfl
    rw [hu] at h1
    by_cases he : underL o ds b lim = []
    · rw [if_pos he] at h1 ⊢
      refine ⟨?_, by show Low1 []; unfold Low1; simp⟩
      simp (disch := omega) only [EV, hS.sp, h1]
      rfl
    · rw [if_neg he] at h1 ⊢
      have hfm := (firstMin_spec (g := fun s => valueOf o ds s a) he).1
      obtain ⟨_, q2, q3⟩ := setP_places hn7 hS (List.mem_filter.1 hfm).1
      refine ⟨?_, q3⟩
      have hp : (0 : Int) < (((firstMin (fun s => valueOf o ds s a) (underL o ds b lim)).length : Nat) : Int) := by omega
      simp (disch := omega) only [EV, hS.sp, h1, hp]
theorem law_BestUnder (o : List Int) (ds : List (List Int)) (a b lim : Int) (ho : Fit tL o) (hd : Fit tLL ds) (_ : Fit tI a) (_ : Fit tI b) (_ : Fit tI lim) : F_lw_FnExactBestUnder o ds a b lim = some true := by
  unfold F_lw_FnExactBestUnder T_lw_FnExactBestUnder
  obtain ⟨r, e1, _, k2⟩ := szField_sz (fit1 ho) (fit2 hd) (b := 1048576) (by omega) (by omega)
  simp (disch := omega) only [EV, e1]
  by_cases hr : r < 0
  · simp (disch := omega) only [EV, hr]
  · obtain ⟨h1, h2⟩ := k2 (by omega)
    obtain ⟨m, em, _, hm1, _⟩ := markField_eq h1 h2 (k := 1) (by omega) (by omega)
    have hm : ¬ m < 0 := by omega
    obtain ⟨es, hlow⟩ := sp_BestUnder_eq h1 h2 a b lim
    have ei := im_BestUnder_eq h1 h2 a b lim
    generalize hp : underOf o ds a b lim = p at hlow es ei
    have hl := hlow
    unfold Low1 at hl
    have hn : ¬ 1 + (p.2.length : Int) < 0 := by omega
    simp (disch := omega) only [EV, hr, toField_eq h1 h2, es, ei, eqField_eq h1 h2, eqIntS_eq hlow, beq_self_eq_true, bne_self_eq_false, em, hm, markIntS_eq hlow (k := 1) (by omega) (by omega), heldIntS_eq (n := p.2.length) hl (k := 1) (by omega) (by omega), hn]
end Go.Proofs.Ytlmbhkmaflhagaa
