/-
  The laws of the best dispersion, the best ordered value and farthest places.
-/
import Derived.Test.YtlemejhffpkbkaaGreatP34
import Derived.Test.YtlemejhffpkbkaaGreatP10
import Derived.Test.YtlemejhffpkbkaaGreatP7
import Derived.Test.YtlemejhffpkbkaaGreatPM
namespace Go.Proofs.YtlemejhffpkbkaaGreat
theorem size_places {n : Nat} (h1 : 1 ≤ n) (h7 : n ≤ 7) {k : Int} {s : List Int} (hs : s ∈ ofSz n k) : Places s n ∧ (s.length : Int) = k ∧ 0 < s.length ∧ Low1 s := by
  obtain ⟨a, b⟩ := ofSz_mem.1 hs
  obtain ⟨c, d, e⟩ := setP_places h7 (setsP h1 h7) a
  exact ⟨c, b, d, e⟩
theorem pick_size {n : Nat} (h1 : 1 ≤ n) (h7 : n ≤ 7) {k : Int} (hk : 1 ≤ k ∧ k ≤ (n : Int)) (g : List Int → Int) : pickL (fun s => decide ((s.length : Int) = k)) g (setsOf n) = firstMin g (ofSz n k) := by
  rw [pickL_eq (setsOf n) fun s hs e => by
    have := (setP_places h7 (setsP h1 h7) hs).2.1
    rw [e] at this
    simp at this]
  rw [if_neg (show ¬ (setsOf n).filter (fun s => decide ((s.length : Int) = k)) = [] from ofSz_ne h7 hk.1 hk.2)]
  rfl
theorem first_size {n : Nat} (h7 : n ≤ 7) {k : Int} (hk : 1 ≤ k ∧ k ≤ (n : Int)) (g : List Int → Int) : firstMin g (ofSz n k) ∈ ofSz n k :=
  (firstMin_spec (ofSz_ne h7 hk.1 hk.2)).1
def medB (o : List Int) (ds : List (List Int)) (k : Int) : Bool := fieldB o ds && isIn k 1 (o.length : Int)
theorem l4K_eq {o : List Int} {ds : List (List Int)} (ho : Low1 o) (hd : Low2 ds) (k : Int) : F_zcy o ds k = some (medB o ds k) := by
  unfold F_zcy T_zcy medB
  simp (disch := omega) only [EV, l2Good_eq ho hd, l1In_eq]
  cases fieldB o ds <;> rfl
theorem isMedianCase_eq {o : List Int} {ds : List (List Int)} (ho : Low1 o) (hd : Low2 ds) (k : Int) : F_zac o ds k = some (medB o ds k) := by
  unfold F_zac T_zac medB
  simp (disch := omega) only [EV, IsField_eq ho hd, between_eq]
  cases fieldB o ds <;> rfl
theorem medB_iff {o : List Int} {ds : List (List Int)} {k : Int} (h : medB o ds k = true) : Fld o ds ∧ (1 ≤ o.length ∧ o.length ≤ 7) ∧ 1 ≤ k ∧ k ≤ (o.length : Int) := by
  unfold medB at h
  rw [Bool.and_eq_true, isIn_iff] at h
  have hf := fieldB_iff.1 h.1
  have h1 := hf.len
  have h2 := hf.pos
  exact ⟨hf, by omega, h.2⟩
def ordB (o : List Int) (ds : List (List Int)) (k : Int) (w : List Int) : Bool := medB o ds k && weightsB ds w
def bestO (o : List Int) (ds : List (List Int)) (k : Int) (w : List Int) : Bool × List Int := bif ordB o ds k w then (true, firstMin (fun s => ordVal (sortI (lensOf ds s)) w) (ofSz o.length k)) else (false, [])
theorem weightsB_iff {ds : List (List Int)} {w : List Int} (h : weightsB ds w = true) : (∀ y ∈ w, 0 ≤ y ∧ y ≤ 99) ∧ w.length = ds.length := by
  unfold weightsB at h
  simp only [Bool.and_eq_true, decide_eq_true_eq] at h
  exact ⟨allIn_iff.1 h.1, h.2⟩
theorem bestO_low (o : List Int) (ds : List (List Int)) (k : Int) (w : List Int) : Low1 (bestO o ds k w).2 := by
  unfold bestO
  cases h : ordB o ds k w with
  | false => show Low1 []; unfold Low1; simp
  | true =>
    unfold ordB at h
    rw [Bool.and_eq_true] at h
    obtain ⟨_, h1, h2⟩ := medB_iff h.1
    exact (size_places h1.1 h1.2 (first_size h1.2 h2 _)).2.2.2
theorem im_OrderedBest_eq {o : List Int} {ds : List (List Int)} {w : List Int} (ho : Low1 o) (hd : Low2 ds) (hw : Low1 w) (k : Int) : F_zr o ds k w = some (bestO o ds k w) := by
  unfold F_zr T_zr F_ze T_ze bestO ordB
  simp (disch := omega) only [EV, isMedianCase_eq ho hd, areBetween_eq hw, int_eq]
  cases hm : medB o ds k with
  | false => rfl
  | true =>
    have e : weightsB ds w = (allIn w 0 99 && decide (w.length = ds.length)) := rfl
    by_cases hwl : w.length = ds.length
    · rw [e]
      cases hwa : allIn w 0 99 with
      | false => simp [hwl]
      | true =>
        obtain ⟨hf, ⟨hn1, hn7⟩, hk⟩ := medB_iff hm
        obtain ⟨y, k1, k2, k3, k4, k5⟩ := ofSize_eq hn1 hn7 k
        have hpos := List.length_pos_iff.2 (ofSz_ne hn7 (k := k) hk.1 hk.2)
        have hle := leastP_eq (x := y) k2 (by omega) (by omega) (p := fun h4_ => Option.bind (F_zs h4_.1 o ds w) fun y5_ => some y5_) (g := fun s => ordVal (sortI (lensOf ds s)) w) fun s hs => by
          rw [k3] at hs
          obtain ⟨p1, _, p2, _⟩ := size_places hn1 hn7 hs
          show Option.bind (F_zs s o ds w) _ = _
          unfold F_zs T_zs
          simp (disch := omega) only [EV, im_ordered_eq hf p1 p2 (allIn_iff.1 hwa) hwl]
        rw [k3] at hle
        simp (disch := omega) only [EV, hwl, k1, hle]
    · rw [e]
      simp [hwl]
theorem sp_OrderedBest_eq {o : List Int} {ds : List (List Int)} {w : List Int} (ho : Low1 o) (hd : Low2 ds) (hw : Low1 w) (k : Int) : F_zbs o ds k w = some ((bestO o ds k w).2, (bestO o ds k w).1) := by
  unfold F_zbs T_zbs bestO ordB
  have e : (allIn w 0 99 && ((w.length : Int) == (ds.length : Int))) = weightsB ds w := by rw [int_eq]; rfl
  simp (disch := omega) only [EV, l4K_eq ho hd, l2Row_eq hw, e]
  cases hm : medB o ds k with
  | false => rfl
  | true =>
    cases hwb : weightsB ds w with
    | false => rfl
    | true =>
      obtain ⟨hf, ⟨hn1, h7⟩, hk⟩ := medB_iff hm
      obtain ⟨hwa, hwl⟩ := weightsB_iff hwb
      have hS := setsP (n := o.length) hn1 h7
      have hl128 := setsP_len hS h7
      have h0 := iter_foldl (f := fun v => (S_zbs_0 (k, (w, (setsOf o.length, (o, ds)))) v).ev) (setsOf o.length) [] (mk := fun i s => (s, (i : Int))) (I := fun _ s => s = [] ∨ s ∈ ofSz o.length k)
        (g := fun c s => if decide ((s.length : Int) = k) = true ∧ (c = [] ∨ ordVal (sortI (lensOf ds s)) w < ordVal (sortI (lensOf ds c)) w) then s else c) (fin := fun s => s) (s0 := []) (.inl rfl)
        (fun i s hi hI => by
          have hm' : (setsOf o.length).getD i [] ∈ setsOf o.length := getD_mem hi
          obtain ⟨p1, p2, _⟩ := setP_places h7 hS hm'
          have e1 := l11Ordered_eq hf p1 p2 hwa hwl
          by_cases hv : (((setsOf o.length).getD i []).length : Int) = k
          · have hin : (setsOf o.length).getD i [] ∈ ofSz o.length k := ofSz_mem.2 ⟨hm', hv⟩
            have hq : ((((setsOf o.length).getD i []).length : Int) == k) = true := beq_iff_eq.2 hv
            refine ⟨?_, ?_⟩
            · rcases hI with rfl | hs
              · have hz : (((List.length ([] : List Int) : Nat) : Int) == 0) = true := rfl
                simp (disch := omega) only [EV, S_zbs_0, hi, hq, hz]
                rw [if_pos ⟨by simpa using hv, .inl trivial⟩]
                rfl
              · obtain ⟨q1, q2, q3, _⟩ := size_places hn1 h7 hs
                have hz : (((s.length : Nat) : Int) == 0) = false := beq_eq_false_iff_ne.2 (by omega)
                have hne : s ≠ [] := fun e => by rw [e] at q3; simp at q3
                have e2 := l11Ordered_eq hf q1 q3 hwa hwl
                by_cases hc : ordVal (sortI (lensOf ds ((setsOf o.length).getD i []))) w < ordVal (sortI (lensOf ds s)) w
                · simp (disch := omega) only [EV, S_zbs_0, hi, hq, hz, e1, e2, hc]
                  rw [if_pos ⟨by simpa using hv, .inr trivial⟩]
                  rfl
                · simp (disch := omega) only [EV, S_zbs_0, hi, hq, hz, e1, e2, hc]
                  rw [if_neg (fun h => h.2.elim hne id)]
                  rfl
            · split
              · exact .inr hin
              · exact hI
          · have hq : ((((setsOf o.length).getD i []).length : Int) == k) = false := beq_eq_false_iff_ne.2 hv
            rw [if_neg (fun h => hv (by simpa using h.1))]
            exact ⟨by simp (disch := omega) only [EV, S_zbs_0, hi, hq]; rfl, hI⟩)
        (fun s _ => by simp (disch := omega) only [EV, S_zbs_0, Nat.lt_irrefl])
      have h1 : L_zbs_0 (k, (w, (setsOf o.length, (o, ds)))) (([] : List Int), (0 : Int)) = some (pickL (fun s => decide ((s.length : Int) = k)) (fun s => ordVal (sortI (lensOf ds s)) w) (setsOf o.length)) := h0.1
      rw [pick_size hn1 h7 hk] at h1
      simp (disch := omega) only [EV, hS.sp, h1]
end Go.Proofs.YtlemejhffpkbkaaGreat
