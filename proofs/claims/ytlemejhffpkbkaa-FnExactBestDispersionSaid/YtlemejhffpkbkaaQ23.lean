/-
  The laws of the best dispersion, the best ordered value and farthest places.
-/
import Derived.Test.YtlemejhffpkbkaaP34
import Derived.Test.YtlemejhffpkbkaaP10
import Derived.Test.YtlemejhffpkbkaaP7
import Derived.Test.YtlemejhffpkbkaaPM
namespace Go.Proofs.Ytlemejhffpkbkaa
def kB (m : List (List Int)) (k : Int) : Bool := groundB m && isIn k 2 (m.length : Int)
theorem kB_iff {m : List (List Int)} {k : Int} (h : kB m k = true) : Ground m ∧ 2 ≤ k ∧ k ≤ (m.length : Int) := by
  unfold kB at h
  rw [Bool.and_eq_true, groundB_iff, isIn_iff] at h
  exact h
theorem l11K_eq {m : List (List Int)} (hm : Low2 m) (k : Int) : F_zaw m k = some (kB m k) := by
  unfold F_zaw T_zaw kB
  simp (disch := omega) only [EV, l11Ground_eq hm, l1In_eq]
  cases groundB m <;> rfl
theorem size_places {n : Nat} (h1 : 1 ≤ n) (h7 : n ≤ 7) {k : Int} {s : List Int} (hs : s ∈ ofSz n k) : Places s n ∧ (s.length : Int) = k ∧ 0 < s.length ∧ Low1 s := by
  obtain ⟨a, b⟩ := ofSz_mem.1 hs
  obtain ⟨c, d, e⟩ := setP_places h7 (setsP h1 h7) a
  exact ⟨c, b, d, e⟩
theorem pick_size {n : Nat} (h1 : 1 ≤ n) (h7 : n ≤ 7) {k : Int} (hk : 1 ≤ k ∧ k ≤ (n : Int)) (g : List Int → Int) : pickL (fun s => decide ((s.length : Int) = k)) g (setsOf n) = firstMin g (ofSz n k) := by
  rw [pickL_eq (setsOf n) fun s hs e => by
    have := (setP_places h7 (setsP h1 h7) hs).2.1
    rw [e] at this
    simp at this]
  rw [if_neg (show ¬ (setsOf n).filter (fun s => decide ((s.length : Int) = k)) = [] from ofSz_ne h7 hk.1 hk.2)]
  rfl
theorem first_size {n : Nat} (h7 : n ≤ 7) {k : Int} (hk : 1 ≤ k ∧ k ≤ (n : Int)) (g : List Int → Int) : firstMin g (ofSz n k) ∈ ofSz n k :=
  (firstMin_spec (ofSz_ne h7 hk.1 hk.2)).1
def bestD (m : List (List Int)) (k : Int) : Bool × List Int := bif kB m k then (true, firstMin (fun s => -disp m s 100) (ofSz m.length k)) else (false, [])
theorem bestD_low (m : List (List Int)) (k : Int) : Low1 (bestD m k).2 := by
  unfold bestD
  cases h : kB m k with
  | false => show Low1 []; unfold Low1; simp
  | true =>
    obtain ⟨hG, h1, h2⟩ := kB_iff h
    have h7 := hG.len
    exact (size_places (by omega) h7 (first_size h7 ⟨by omega, h2⟩ _)).2.2.2
theorem im_BestDispersion_eq {m : List (List Int)} (hm : Low2 m) (k : Int) : F_zd m k = some (bestD m k) := by
  unfold F_zd T_zd bestD kB
  simp (disch := omega) only [EV, im_IsGround_eq hm, between_eq]
  cases hg : groundB m with
  | false => rfl
  | true =>
    cases hk : isIn k 2 (m.length : Int) with
    | false => rfl
    | true =>
      have hG := (groundB_iff m).1 hg
      have hk2 := isIn_iff.1 hk
      have h7 := hG.len
      obtain ⟨y, k1, k2, k3, k4, k5⟩ := ofSize_eq (n := m.length) (by omega) h7 k
      have hpos := List.length_pos_iff.2 (ofSz_ne h7 (k := k) (by omega) hk2.2)
      have hle := leastP_eq (x := y) k2 (by omega) (by omega) (p := fun h4_ => Option.bind (F_ze h4_.1 m) fun y5_ => some y5_) (g := fun s => -disp m s 100) fun s hs => by
        rw [k3] at hs
        obtain ⟨p1, _⟩ := size_places (by omega) h7 hs
        have hb := disp_in hG p1
        show Option.bind (F_ze s m) _ = _
        unfold F_ze T_ze
        simp (disch := omega) only [EV, dispersion_eq hG p1, Int.zero_sub]
      rw [k3] at hle
      simp (disch := omega) only [EV, k1, hle]
theorem sp_BestDispersion_eq {m : List (List Int)} (hm : Low2 m) (k : Int) : F_zat m k = some ((bestD m k).2, (bestD m k).1) := by
  unfold F_zat T_zat bestD
  simp (disch := omega) only [EV, l11K_eq hm]
  cases hb : kB m k with
  | false => rfl
  | true =>
    obtain ⟨hG, hk1, hk2⟩ := kB_iff hb
    have h7 := hG.len
    have hS := setsP (n := m.length) (by omega) h7
    have hl128 := setsP_len hS h7
    have h0 := iter_foldl (f := fun v => (S_zat_0 (m, (k, setsOf m.length)) v).ev) (setsOf m.length) [] (mk := fun i s => (s, (i : Int))) (I := fun _ s => s = [] ∨ s ∈ ofSz m.length k)
      (g := fun c s => if decide ((s.length : Int) = k) = true ∧ (c = [] ∨ -disp m s 100 < -disp m c 100) then s else c) (fin := fun s => s) (s0 := []) (.inl rfl)
      (fun i s hi hI => by
        have hm' : (setsOf m.length).getD i [] ∈ setsOf m.length := getD_mem hi
        obtain ⟨p1, _, _⟩ := setP_places h7 hS hm'
        by_cases hv : (((setsOf m.length).getD i []).length : Int) = k
        · have hin : (setsOf m.length).getD i [] ∈ ofSz m.length k := ofSz_mem.2 ⟨hm', hv⟩
          have hq : ((((setsOf m.length).getD i []).length : Int) == k) = true := beq_iff_eq.2 hv
          have e1 := l11Dispersion_eq hG p1 (by omega)
          refine ⟨?_, ?_⟩
          · rcases hI with rfl | hs
            · have hz : (((List.length ([] : List Int) : Nat) : Int) == 0) = true := rfl
              simp (disch := omega) only [EV, S_zat_0, hi, hq, hz]
              rw [if_pos ⟨by simpa using hv, .inl trivial⟩]
              rfl
            · obtain ⟨q1, q2, q3, _⟩ := size_places (by omega) h7 hs
              have hz : (((s.length : Nat) : Int) == 0) = false := beq_eq_false_iff_ne.2 (by omega)
              have hne : s ≠ [] := fun e => by rw [e] at q3; simp at q3
              have e2 := l11Dispersion_eq hG q1 (by omega)
              by_cases hc : disp m s 100 < disp m ((setsOf m.length).getD i []) 100
              · simp (disch := omega) only [EV, S_zat_0, hi, hq, hz, e1, e2, hc]
                rw [if_pos ⟨by simpa using hv, .inr (by omega)⟩]
                rfl
              · simp (disch := omega) only [EV, S_zat_0, hi, hq, hz, e1, e2, hc]
                rw [if_neg (fun h => h.2.elim hne (by omega))]
                rfl
          · split
            · exact .inr hin
            · exact hI
        · have hq : ((((setsOf m.length).getD i []).length : Int) == k) = false := beq_eq_false_iff_ne.2 hv
          rw [if_neg (fun h => hv (by simpa using h.1))]
          exact ⟨by simp (disch := omega) only [EV, S_zat_0, hi, hq]; rfl, hI⟩)
      (fun s _ => by simp (disch := omega) only [EV, S_zat_0, Nat.lt_irrefl])
    have h1 : L_zat_0 (m, (k, setsOf m.length)) (([] : List Int), (0 : Int)) = some (pickL (fun s => decide ((s.length : Int) = k)) (fun s => -disp m s 100) (setsOf m.length)) := h0.1
    rw [pick_size (by omega) h7 ⟨by omega, hk2⟩] at h1
    simp (disch := omega) only [EV, hS.sp, h1]
theorem law_BestDispersion (m : List (List Int)) (k : Int) (hm : Fit tLL m) (_ : Fit tI k) : F_zr m k = some true := by
  unfold F_zr T_zr
  obtain ⟨r, e1, _, k2⟩ := szIntSS_sz (fit2 hm) (b := 1048576) (by omega) (by omega)
  simp (disch := omega) only [EV, e1]
  by_cases hr : r < 0
  · simp (disch := omega) only [EV, hr]
  · have h1 := k2 (by omega)
    have hb1 := tot_take h1 (k := 1) m.length
    rw [List.take_length] at hb1
    have hn1 : ¬ tot 1 m < 0 := by omega
    have es := sp_BestDispersion_eq h1 k
    have ei := im_BestDispersion_eq h1 k
    have hlow := bestD_low m k
    generalize bestD m k = p at es ei hlow
    have hl := hlow
    unfold Low1 at hl
    have hn : ¬ 1 + (p.2.length : Int) < 0 := by omega
    simp (disch := omega) only [EV, hr, toIntSS_eq h1, es, ei, eqIntSS_eq h1, eqIntS_eq hlow, beq_self_eq_true, bne_self_eq_false, markIntSS_eq h1 (k := 1) (by omega) (by omega), hn1, markIntS_eq hlow (k := 1) (by omega) (by omega), heldIntS_eq (n := p.2.length) hl (k := 1) (by omega) (by omega), hn]
end Go.Proofs.Ytlemejhffpkbkaa
