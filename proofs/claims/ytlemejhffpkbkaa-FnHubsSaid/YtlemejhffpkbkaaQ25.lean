/-
  The law of the best hubs.
-/
import Derived.Test.YtlemejhffpkbkaaP38
import Derived.Test.YtlemejhffpkbkaaP7
import Derived.Test.YtlemejhffpkbkaaPM
namespace Go.Proofs.Ytlemejhffpkbkaa
theorem clone_hub {l : List Int} (hl : l.length ≤ 1000) : F_slices_Clone_Sint_int l = some l := by
  show cloneF l = some l
  unfold cloneF
  rw [if_pos (by omega)]
theorem set_last {α : Type} (l : List (List α)) (x : List α) : List.set (l ++ [[]]) l.length x = l ++ [x] := by
  rw [List.set_append_right _ _ (Nat.le_refl _)]
  simp
theorem allocB_in {n : Nat} {h : List Int} (hb : allocB n h = true) : h.length = n ∧ ∀ a ∈ h, 0 ≤ a ∧ a < (n : Int) := by
  unfold allocB at hb
  simp only [Bool.and_eq_true, decide_eq_true_eq, allIn_iff] at hb
  exact ⟨hb.1.1, fun a ha => by have := hb.1.2 a ha; omega⟩
theorem okH_alloc {n : Nat} {k : Int} {h : List Int} (hb : okH n k h = true) : Alloc n h := by
  unfold okH at hb
  rw [Bool.and_eq_true] at hb
  exact allocB_iff.1 hb.1
theorem from_eq {n : Nat} (hn : n ≤ 5) (k : Int) : ∀ (d fuel : Nat) (h : List Int) (all : List (List Int)), h.length + d = n → d < fuel → all.length + n ^ d ≤ 1000000 →
    F_im_BestHubs_1 fuel (n : Int) k h all = some ((n : Int), (k, (h, all ++ (exts d n h).filter (okH n k))))
  | 0, 0, _, _, _, hf, _ => absurd hf (by omega)
  | 0, fuel + 1, h, all, hl, _, ha => by
    have e0 : (((h.length : Nat) : Int) == (n : Int)) = true := beq_iff_eq.2 (by omega)
    have e2 : (exts 0 n h).filter (okH n k) = if okH n k h = true then [h] else [] := by
      show [h].filter _ = _
      by_cases hk : okH n k h = true <;> simp [hk]
    rw [e2]
    show (T_im_BestHubs_1 (F_im_BestHubs_1 fuel) (n : Int) k h all).ev = _
    unfold T_im_BestHubs_1
    cases hb : allocB n h with
    | false =>
      have ho : ¬ okH n k h = true := fun h => by unfold okH at h; rw [hb] at h; cases h
      simp (disch := omega) only [EV, e0, isAllocation_eq (n := n) (h := h) (by omega), hb]
      rw [if_neg ho, List.append_nil]
    | true =>
      obtain ⟨h1, h2⟩ := allocB_in hb
      have h3 : ∀ a ∈ h, 0 ≤ a ∧ a < 5 := fun a ha => by have := h2 a ha; omega
      have h4 := (chkH_at (bits_lt h3)).1
      have r1 : (all.length + 1) * 24 ≤ 140737488355328 := by omega
      by_cases hs : (((lst5 (bits h)).length : Nat) : Int) ≤ k
      · have ho : okH n k h = true := by unfold okH; rw [hb, decide_eq_true hs]; rfl
        simp (disch := omega) only [EV, e0, isAllocation_eq (n := n) (h := h) (by omega), hb, bagOf_bits (h := h) (by omega) h3, h4, hs, clone_hub (l := h) (by omega), r1, set_last]
        rw [if_pos ho]
      · have ho : ¬ okH n k h = true := fun h => by unfold okH at h; rw [hb, decide_eq_false hs] at h; cases h
        simp (disch := omega) only [EV, e0, isAllocation_eq (n := n) (h := h) (by omega), hb, bagOf_bits (h := h) (by omega) h3, h4, hs]
        rw [if_neg ho, List.append_nil]
  | d + 1, 0, _, _, _, hf, _ => absurd hf (by omega)
  | d + 1, fuel + 1, h, all, hl, hf, ha => by
    have e0 : (((h.length : Nat) : Int) == (n : Int)) = false := beq_eq_false_iff_ne.2 (by omega)
    have hsub : ∀ i, i < n → i * n ^ d + n ^ d ≤ n ^ (d + 1) := fun i hi => by
      rw [Nat.pow_succ, Nat.mul_comm (n ^ d) n]
      have := Nat.mul_le_mul_right (n ^ d) (show i + 1 ≤ n from hi)
      rw [Nat.succ_mul] at this
      exact this
    have hlen : ∀ m : Nat, ((List.range m).flatMap fun (a : Nat) => exts d n (h ++ [(a : Int)])).length = m * n ^ d := by
      intro m
      induction m with
      | zero => simp
      | succ m ih => rw [List.range_succ, List.flatMap_append, List.length_append, ih, List.flatMap_singleton, exts_len n d, Nat.succ_mul]
    have key := (iter_fold (f := fun v => (S_im_BestHubs_1_0 (F_im_BestHubs_1 fuel) (n : Int) v).ev) (n := n) (mk := fun i (l : List (List Int)) => ((i : Int), ((n : Int), (k, (h, l)))))
      (I := fun i l => l = all ++ ((List.range i).flatMap fun (a : Nat) => exts d n (h ++ [(a : Int)])).filter (okH n k)) (g := fun l (i : Nat) => l ++ (exts d n (h ++ [(i : Int)])).filter (okH n k)) (fin := fun l => ((n : Int), (k, (h, l)))) (s0 := all) (by simp)
      (fun i l hi hI => by
        have hle : l.length ≤ all.length + i * n ^ d := by
          rw [hI, List.length_append]
          have := List.length_filter_le (okH n k) ((List.range i).flatMap fun (a : Nat) => exts d n (h ++ [(a : Int)]))
          rw [hlen] at this
          omega
        have h5 := hsub i hi
        have ih := from_eq hn k d fuel (h ++ [(i : Int)]) l (by simp; omega) (by omega) (by omega)
        have r1 : (h.length + List.length ([(i : Int)] : List Int)) * 8 ≤ 140737488355328 := by simp; omega
        have e1 : (((h ++ [(i : Int)]).length : Nat) : Int) - 1 = ((h.length : Nat) : Int) := by simp
        have e2 : (h ++ [(i : Int)]).take h.length = h := by simp
        have e3 : ((h.length : Nat) : Int) ≤ (((h ++ [(i : Int)]).length : Nat) : Int) := by simp; omega
        have e4 : (0 : Int) ≤ ((h.length : Nat) : Int) := by omega
        have e5 : IntKind.wrap .i64 ((((h ++ [(i : Int)]).length : Nat) : Int) - 1) = ((h.length : Nat) : Int) := by rw [e1, wrap64 (by omega) (by omega)]
        refine ⟨?_, ?_⟩
        · simp only [S_im_BestHubs_1_0, Tr.ev_t, Tr.ev_g, Tr.ev_c, Tr.ev_l, Int.ofNat_lt.2 hi, r1, decide_true, cond_true, ih, Option.bind_some, e5, e4, e3, Bool.and_self, Int.toNat_natCast, e2]
          rw [wrap64 (by omega) (by omega)]
          rfl
        · rw [hI, List.range_succ, List.flatMap_append, List.flatMap_singleton, List.filter_append, List.append_assoc])
      (fun l _ => by simp (disch := omega) only [EV, S_im_BestHubs_1_0, Int.lt_irrefl]))
    have k1 : L_im_BestHubs_1_0 (F_im_BestHubs_1 fuel) (n : Int) ((0 : Int), ((n : Int), (k, (h, all)))) = _ := key.1
    have k2 := key.2
    rw [k2] at k1
    show (T_im_BestHubs_1 (F_im_BestHubs_1 fuel) (n : Int) k h all).ev = _
    unfold T_im_BestHubs_1
    simp (disch := omega) only [EV, e0, k1]
    rfl
def hubsB (m fl : List (List Int)) (k d : Int) : Bool := netB m && (flowsB m.length fl && (isIn k 1 5 && isIn d 0 10))
def bestH (m fl : List (List Int)) (k d : Int) : Bool × List Int := bif hubsB m fl k d then (true, firstMin (fun h => hubSum m fl h d) (allH m.length k)) else (false, [])
theorem netB_len {m : List (List Int)} (h : netB m = true) : m.length ≤ 5 := by
  unfold netB at h
  simp only [Bool.and_eq_true, decide_eq_true_eq] at h
  omega
theorem im_BestHubs_eq {m fl : List (List Int)} (hm : Low2 m) (hfl : Low2 fl) (k d : Int) : F_im_BestHubs m fl k d = some (bestH m fl k d) := by
  unfold F_im_BestHubs T_im_BestHubs bestH hubsB
  simp (disch := omega) only [EV, isNet_eq hm, areFlows_eq (x := m) hfl, between_eq]
  cases h1 : netB m with
  | false => rfl
  | true =>
    cases h2 : flowsB m.length fl with
    | false => rfl
    | true =>
      cases h3 : isIn k 1 5 with
      | false => rfl
      | true =>
        cases h4 : isIn d 0 10 with
        | false => rfl
        | true =>
          have hG := netB_ground h1
          have hF := Flows.of h2
          have hn := netB_len h1
          have hp := pow_le5 m.length hn
          have hd := isIn_iff.1 h4
          have e1 := from_eq hn k m.length 1000000 [] [] (by simp) (by omega) (by simp; omega)
          rw [List.nil_append] at e1
          have hne := allH_ne hn (isIn_iff.1 h3).1
          have hpos := List.length_pos_iff.2 hne
          have hle' : (allH m.length k).length ≤ 3125 := by
            have := List.length_filter_le (okH m.length k) (exts m.length m.length [])
            rw [exts_len] at this
            unfold allH
            omega
          have hle := leastP_eq (x := (List.range (allH m.length k).length, allH m.length k)) (fun i hi => List.mem_range.1 hi) (by simpa using hpos) (by simp; omega) (p := fun h6_ => Option.bind (F_im_BestHubs_2 h6_.1 m fl d) fun y7_ => some y7_) (g := fun h => hubSum m fl h d) fun s hs => by
            rw [permL_range] at hs
            have ha := okH_alloc (List.mem_filter.1 hs).2
            show Option.bind (F_im_BestHubs_2 s m fl d) _ = _
            unfold F_im_BestHubs_2 T_im_BestHubs_2
            simp (disch := omega) only [EV, hubCost_eq hG hF ha hd]
          rw [permL_range] at hle
          have e2 : (exts m.length m.length []).filter (okH m.length k) = allH m.length k := rfl
          rw [e2] at e1
          simp (disch := omega) only [EV, e1, hle]
theorem own_hub {l : List Int} (hl : l.length ≤ 1000) : F_sp_l1Own l = some l := by
  have r1 : (List.length ([] : List Int) + l.length) * 8 ≤ 140737488355328 := by simp; omega
  unfold F_sp_l1Own T_sp_l1Own
  simp (disch := omega) only [EV, r1, List.nil_append]
theorem try2_eq {m fl : List (List Int)} (rec_ : (List (List (Int))) → (List (List (Int))) → (Int) → (Int) → (List (Int)) → (List (Int)) → Option (List (Int))) (k d : Int) {h b : List Int} (hl : h.length ≤ 5) (hh : ∀ a ∈ h, 0 ≤ a ∧ a < 5) :
    L_sp_l11Try_2 rec_ (m, (fl, (k, (d, (h, b))))) (([] : List Int), (0 : Int)) = some (lst5 (bits h)) := by
  have key := (iter_foldl (f := fun v => (S_sp_l11Try_2 rec_ (m, (fl, (k, (d, (h, b))))) v).ev) h 0 (mk := fun i (x : Nat) => (lst5 x, (i : Int))) (I := fun _ x => x < 32) (g := fun x a => x ||| 2 ^ a.toNat) (fin := fun x => lst5 x) (s0 := 0) (by omega)
    (fun i x hi hx => by
      have ha := hh _ (getD_mem (d := 0) hi)
      obtain ⟨a, e⟩ : ∃ a : Nat, h.getD i 0 = (a : Int) := ⟨(h.getD i 0).toNat, by omega⟩
      obtain ⟨k1, _, k3⟩ := (chkH_at hx).2 a (by omega)
      rw [e, Int.toNat_natCast]
      refine ⟨?_, k3⟩
      simp (disch := omega) only [EV, S_sp_l11Try_2, hi, e, k1]
      rfl)
    (fun x _ => by simp (disch := omega) only [EV, S_sp_l11Try_2, Nat.lt_irrefl])).1
  exact key
def pickH (n : Nat) (k : Int) (g : List Int → Int) (b s : List Int) : List Int := if okH n k s = true ∧ (b = [] ∨ g s < g b) then s else b
theorem try_eq {m fl : List (List Int)} (hm : Ground m) (hf : Flows m.length fl) (hn : m.length ≤ 5) (k : Int) {d : Int} (hd : 0 ≤ d ∧ d ≤ 10) : ∀ (e fuel : Nat) (h b : List Int), h.length + e = m.length → e < fuel → (∀ a ∈ h, 0 ≤ a ∧ a < (m.length : Int)) → (b = [] ∨ okH m.length k b = true) →
    F_sp_l11Try fuel m fl k d h b = some ((exts e m.length h).foldl (pickH m.length k fun h => hubSum m fl h d) b) ∧ ((exts e m.length h).foldl (pickH m.length k fun h => hubSum m fl h d) b = [] ∨ okH m.length k ((exts e m.length h).foldl (pickH m.length k fun h => hubSum m fl h d) b) = true)
  | 0, 0, _, _, _, hf, _, _ => absurd hf (by omega)
  | 0, fuel + 1, h, b, hl, _, hh, hb => by
    have e0 : ¬ ((h.length : Nat) : Int) < ((m.length : Nat) : Int) := by omega
    have hh5 : ∀ a ∈ h, 0 ≤ a ∧ a < 5 := fun a ha => by have := hh a ha; omega
    have e2 : (exts 0 m.length h).foldl (pickH m.length k fun h => hubSum m fl h d) b = pickH m.length k (fun h => hubSum m fl h d) b h := rfl
    rw [e2]
    refine ⟨?_, ?_⟩
    · show (T_sp_l11Try (F_sp_l11Try fuel) m fl k d h b).ev = _
      unfold T_sp_l11Try pickH
      have e1 := try2_eq (m := m) (fl := fl) (F_sp_l11Try fuel) k d (h := h) (b := b) (by omega) hh5
      have hlow : Low1 h := by unfold Low1; omega
      by_cases hs : k < (((lst5 (bits h)).length : Nat) : Int)
      · have ho : ¬ (okH m.length k h = true ∧ (b = [] ∨ hubSum m fl h d < hubSum m fl b d)) := fun hq => by
          have := hq.1
          unfold okH at this
          rw [decide_eq_false (by omega), Bool.and_false] at this
          cases this
        simp (disch := omega) only [EV, e0, e1, hs]
        rw [if_neg ho]
      · cases ha : allocB m.length h with
        | false =>
          have ho : ¬ (okH m.length k h = true ∧ (b = [] ∨ hubSum m fl h d < hubSum m fl b d)) := fun hq => by
            have := hq.1
            unfold okH at this
            rw [ha] at this
            cases this
          simp (disch := omega) only [EV, e0, e1, hs, l11Hubs_eq m hlow, ha]
          rw [if_neg ho]
        | true =>
          have ho : okH m.length k h = true := by unfold okH; rw [ha, decide_eq_true (by omega)]; rfl
          have hA := allocB_iff.1 ha
          rcases hb with rfl | hb
          · have hz : (((List.length ([] : List Int) : Nat) : Int) == 0) = true := rfl
            simp (disch := omega) only [EV, e0, e1, hs, l11Hubs_eq m hlow, ha, hz]
            rw [if_pos ⟨ho, .inl trivial⟩]
          · have hB := okH_alloc hb
            by_cases hbz : b = []
            · subst hbz
              have hz : (((List.length ([] : List Int) : Nat) : Int) == 0) = true := rfl
              simp (disch := omega) only [EV, e0, e1, hs, l11Hubs_eq m hlow, ha, hz]
              rw [if_pos ⟨ho, .inl trivial⟩]
            · have hz : (((b.length : Nat) : Int) == 0) = false := by
                rw [beq_eq_false_iff_ne]
                have := List.length_pos_iff.2 hbz
                omega
              by_cases hc : hubSum m fl h d < hubSum m fl b d
              · simp (disch := omega) only [EV, e0, e1, hs, l11Hubs_eq m hlow, ha, hz, l11Cost_eq hm hf hA hd, l11Cost_eq hm hf hB hd, hc]
                rw [if_pos ⟨ho, .inr trivial⟩]
              · simp (disch := omega) only [EV, e0, e1, hs, l11Hubs_eq m hlow, ha, hz, l11Cost_eq hm hf hA hd, l11Cost_eq hm hf hB hd, hc]
                rw [if_neg (fun hq => hq.2.elim hbz id)]
    · unfold pickH
      split
      next hq => exact .inr hq.1
      next => exact hb
  | e + 1, 0, _, _, _, hf, _, _ => absurd hf (by omega)
  | e + 1, fuel + 1, h, b, hl, hfu, hh, hb => by
    have e0 : ((h.length : Nat) : Int) < ((m.length : Nat) : Int) := by omega
    have key := (iter_fold (f := fun v => (S_sp_l11Try_0 (F_sp_l11Try fuel) (m, (fl, (k, (d, h)))) v).ev) (n := m.length) (mk := fun i (b : List Int) => (b, (i : Int)))
      (I := fun i c => (c = [] ∨ okH m.length k c = true) ∧ c = ((List.range i).flatMap fun (a : Nat) => exts e m.length (h ++ [(a : Int)])).foldl (pickH m.length k fun h => hubSum m fl h d) b)
      (g := fun c (i : Nat) => (exts e m.length (h ++ [(i : Int)])).foldl (pickH m.length k fun h => hubSum m fl h d) c) (fin := fun c => c) (s0 := b) ⟨hb, rfl⟩
      (fun i c hi hI => by
        obtain ⟨i1, i2⟩ := try_eq hm hf hn k hd e fuel (h ++ [(i : Int)]) c (by simp; omega) (by omega) (fun a ha => by
          rcases List.mem_append.1 ha with ha | ha
          · exact hh a ha
          · rw [List.mem_singleton.1 ha]; omega) hI.1
        have r1 : (h.length + List.length ([(i : Int)] : List Int)) * 8 ≤ 140737488355328 := by simp; omega
        refine ⟨?_, i2, ?_⟩
        · simp (disch := omega) only [EV, S_sp_l11Try_0, hi, own_hub (l := h) (by omega), r1, i1]
          rfl
        · have h3 := hI.2
          rw [List.range_succ, List.flatMap_append, List.flatMap_singleton, List.foldl_append, ← h3])
      (fun c _ => by simp (disch := omega) only [EV, S_sp_l11Try_0, Nat.lt_irrefl]))
    have k1 : L_sp_l11Try_0 (F_sp_l11Try fuel) (m, (fl, (k, (d, h)))) (b, (0 : Int)) = _ := key.1
    have k2 := key.2
    have e3 : (exts (e + 1) m.length h) = (List.range m.length).flatMap fun (a : Nat) => exts e m.length (h ++ [(a : Int)]) := rfl
    rw [e3, ← k2.2]
    refine ⟨?_, k2.1⟩
    show (T_sp_l11Try (F_sp_l11Try fuel) m fl k d h b).ev = _
    unfold T_sp_l11Try
    simp (disch := omega) only [EV, e0, k1]
theorem sp_BestHubs_eq {m fl : List (List Int)} (hm : Low2 m) (hfl : Low2 fl) (k d : Int) : F_sp_BestHubs m fl k d = some ((bestH m fl k d).2, (bestH m fl k d).1) ∧ Low1 (bestH m fl k d).2 := by
  unfold F_sp_BestHubs T_sp_BestHubs bestH hubsB
  simp (disch := omega) only [EV, l11Flows_eq hm hfl, l1In_eq]
  have hz : Low1 ([] : List Int) := by unfold Low1; simp
  cases h1 : netB m with
  | false => exact ⟨rfl, hz⟩
  | true =>
    cases h2 : flowsB m.length fl with
    | false => exact ⟨rfl, hz⟩
    | true =>
      cases h4 : isIn d 0 10 with
      | false =>
        cases isIn k 1 5 <;> exact ⟨rfl, hz⟩
      | true =>
        cases h3 : isIn k 1 5 with
        | false => exact ⟨rfl, hz⟩
        | true =>
          have hG := netB_ground h1
          have hF := Flows.of h2
          have hn := netB_len h1
          have hd := isIn_iff.1 h4
          have hne := allH_ne hn (isIn_iff.1 h3).1
          obtain ⟨e1, _⟩ := try_eq hG hF hn k hd m.length 1000000 [] [] (by simp) (by omega) (fun a ha => by cases ha) (.inl rfl)
          have hmem : ∀ s ∈ exts m.length m.length [], s.length = m.length := fun s hs => by
            have := (exts_mem m.length m.length [] (fun a ha => by cases ha) s hs).1
            simpa using this
          have hfold : (exts m.length m.length []).foldl (pickH m.length k fun h => hubSum m fl h d) [] = firstMin (fun h => hubSum m fl h d) (allH m.length k) := by
            by_cases h0 : m.length = 0
            · have e : exts m.length m.length [] = [[]] := by rw [h0]; rfl
              have hs : allH m.length k = [[]] := by
                have h6 := hne
                unfold allH at h6 ⊢
                rw [e] at h6 ⊢
                cases ho : okH m.length k [] with
                | true => simp [ho]
                | false => simp [ho] at h6
              rw [hs, firstMin_one, e]
              show pickH m.length k (fun h => hubSum m fl h d) [] [] = []
              unfold pickH
              split <;> rfl
            · have e2 := pickL_eq (q := okH m.length k) (g := fun h => hubSum m fl h d) (exts m.length m.length []) fun s hs e => by
                have := hmem s hs
                rw [e] at this
                simp at this
                omega
              rw [if_neg (show ¬ (exts m.length m.length []).filter (okH m.length k) = [] from hne)] at e2
              exact e2
          rw [hfold] at e1
          refine ⟨by simp (disch := omega) only [EV, e1], ?_⟩
          have h7 := (List.mem_filter.1 (firstMin_spec (g := fun h => hubSum m fl h d) hne).1).1
          show Low1 (firstMin (fun h => hubSum m fl h d) (allH m.length k))
          unfold Low1
          rw [hmem _ h7]
          omega
end Go.Proofs.Ytlemejhffpkbkaa
