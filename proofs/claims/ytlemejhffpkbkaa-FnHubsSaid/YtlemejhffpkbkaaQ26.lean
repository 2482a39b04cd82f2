/-
  The law of hubs: the best ones, one hub more, all of one hub, and the straight ways.
-/
import Derived.Test.YtlemejhffpkbkaaQ25
import Derived.Test.YtlemejhffpkbkaaP39
import Derived.Test.YtlemejhffpkbkaaPR
namespace Go.Proofs.Ytlemejhffpkbkaa
theorem rHas_eq {l : List Int} (hl : (l.length : Int) < 9223372036854775807) (x : Int) : F_lw_rHas l x = some (l.contains x) := by
  have hs : L_lw_rHas_0 (l, x) 0 = _ := iter_forE (f := fun v => (S_lw_rHas_0 (l, x) v).ev) (l := l) 0 (fun y => y == x) (mk := fun i => (i : Int)) (yes := fun _ => .inr ()) (no := .inl ()) (fun i hi => by
    simp (disch := omega) only [EV, S_lw_rHas_0, hi]
    cases (l.getD i 0 == x) <;> rfl) (by simp (disch := omega) only [EV, S_lw_rHas_0, Nat.lt_irrefl])
  unfold F_lw_rHas T_lw_rHas
  simp (disch := omega) only [EV, hs]
  have e : l.contains x = l.any fun y => y == x := by
    rw [List.contains_eq_any_beq]
    congr 1
    funext y
    exact Bool.beq_comm
  rw [e]
  have h2 := findIdx_any (l := l) (q := fun y => y == x)
  cases h : l.findIdx? fun y => y == x with
  | none =>
    rw [h] at h2
    have h3 : (l.any fun y => y == x) = false := by
      rw [Bool.eq_false_iff]
      exact fun h4 => by have := h2.1 h4; simp at this
    rw [h3]
    rfl
  | some i =>
    rw [h] at h2
    rw [h2.2 rfl]
    rfl
theorem bits_tb {l : List Int} (hl : ∀ a ∈ l, 0 ≤ a) (a : Nat) : (bits l).testBit a = l.contains (a : Int) := by
  have key : ∀ (l : List Int) (x : Nat), (∀ a ∈ l, 0 ≤ a) → (l.foldl (fun x a => x ||| 2 ^ a.toNat) x).testBit a = (x.testBit a || l.contains (a : Int)) := by
    intro l
    induction l with
    | nil => intro x _; simp
    | cons b l ih =>
      intro x hl
      have hb := hl b List.mem_cons_self
      rw [List.foldl_cons, ih _ fun c hc => hl c (List.mem_cons_of_mem _ hc), Nat.testBit_or, Nat.testBit_two_pow, List.contains_cons]
      have e : decide (b.toNat = a) = ((a : Int) == b) := by
        rw [Bool.eq_iff_iff, decide_eq_true_eq, beq_iff_eq]
        omega
      rw [e, Bool.or_assoc]
  have := key l 0 hl
  rw [Nat.zero_testBit, Bool.false_or] at this
  exact this
def inUp (l : List Int) (k : Nat) : List Int := ((List.range k).filter fun (a : Nat) => l.contains (a : Int)).map fun (a : Nat) => (a : Int)
theorem inUp_succ (l : List Int) (k : Nat) : inUp l (k + 1) = bif l.contains (k : Int) then inUp l k ++ [(k : Int)] else inUp l k := by
  unfold inUp
  rw [List.range_succ, List.filter_append]
  cases h : l.contains (k : Int) with
  | true => rw [List.filter_cons_of_pos (p := fun (a : Nat) => l.contains (a : Int)) h]; simp
  | false => rw [List.filter_cons_of_neg (p := fun (a : Nat) => l.contains (a : Int)) (by rw [h]; exact Bool.noConfusion)]; simp
theorem inUp_len (l : List Int) (k : Nat) : (inUp l k).length ≤ k := by
  have h := List.length_filter_le (fun (a : Nat) => l.contains (a : Int)) (List.range k)
  simp only [List.length_range] at h
  simp only [inUp, List.length_map]
  exact h
theorem inUp_five {l : List Int} (hl : ∀ a ∈ l, 0 ≤ a ∧ a < 5) : ∀ d, inUp l (5 + d) = lst5 (bits l)
  | 0 => by
    unfold inUp lst5
    congr 2
    funext a
    exact (bits_tb (fun a ha => (hl a ha).1) a).symm
  | d + 1 => by
    have h1 : l.contains ((5 + d : Nat) : Int) = false := by
      rw [Bool.eq_false_iff]
      intro h
      have := hl _ (List.contains_iff_mem.1 h)
      omega
    show inUp l ((5 + d) + 1) = _
    rw [inUp_succ, h1]
    exact inUp_five hl d
theorem rSorted5 {l : List Int} (hn : l.length ≤ 1000) (hl : ∀ a ∈ l, 0 ≤ a ∧ a < 5) : F_lw_rSorted l = some (lst5 (bits l)) := by
  have hz : l.contains (-1) = false := by
    rw [Bool.eq_false_iff]
    intro h
    have := hl _ (List.contains_iff_mem.1 h)
    omega
  obtain ⟨r, h1, h2⟩ := iter_cnt (f := fun v => (S_lw_rSorted_0 l v).ev) (n := 1002) (fun k v => v = (((k : Int) - 1), inUp l (k - 1))) (fun r => r = lst5 (bits l))
    (fun k v hk hv => by
      subst hv
      cases k with
      | zero =>
        refine ⟨(0, []), ?_, rfl⟩
        have e0 : (((0 : Nat) : Int) - 1) = -1 := rfl
        rw [e0]
        simp (disch := omega) only [EV, S_lw_rSorted_0, rHas_eq (l := l) (by omega), hz]
        rfl
      | succ k =>
        have e1 : (((k + 1 : Nat) : Int) - 1) = (k : Int) := by omega
        have e2 : (((k + 1 + 1 : Nat) : Int) - 1) = (k : Int) + 1 := by omega
        have hk' : (k : Int) ≤ 1000 := by omega
        have hu := inUp_len l k
        have r1 := room8 (inUp l k) (k : Int) (by omega)
        have hs := inUp_succ l k
        rw [Nat.add_sub_cancel, e1, Nat.add_sub_cancel, e2]
        cases hb : l.contains (k : Int) with
        | true =>
          rw [hb] at hs
          refine ⟨_, ?_, rfl⟩
          rw [hs]
          simp (disch := omega) only [EV, S_lw_rSorted_0, hk', rHas_eq (l := l) (by omega), hb, r1]
        | false =>
          rw [hb] at hs
          refine ⟨_, ?_, rfl⟩
          rw [hs]
          simp (disch := omega) only [EV, S_lw_rSorted_0, hk', rHas_eq (l := l) (by omega), hb])
    (fun v hv => by
      subst hv
      have e1 : (((1002 : Nat) : Int) - 1) = 1001 := rfl
      have hk' : ¬ (1001 : Int) ≤ 1000 := by omega
      rw [e1]
      exact ⟨_, by simp (disch := omega) only [EV, S_lw_rSorted_0, hk'], inUp_five hl 996⟩)
    (v := ((-1 : Int), ([] : List Int))) rfl
  rw [h2] at h1
  have h1' : L_lw_rSorted_0 l ((-1 : Int), ([] : List Int)) = _ := h1
  unfold F_lw_rSorted T_lw_rSorted
  simp (disch := omega) only [EV, h1']
theorem okH_mono {n : Nat} {k k' : Int} (hk : k ≤ k') {h : List Int} (ho : okH n k h = true) : okH n k' h = true := by
  simp only [okH, Bool.and_eq_true, decide_eq_true_eq] at ho ⊢
  exact ⟨ho.1, by omega⟩
theorem okH_mem {n : Nat} {k : Int} {h : List Int} (ho : okH n k h = true) : h ∈ allH n k := by
  have ha := ho
  unfold okH at ha
  rw [Bool.and_eq_true] at ha
  obtain ⟨h1, h2⟩ := allocB_in ha.1
  have := exts_all h [] h2
  rw [h1, List.nil_append] at this
  exact List.mem_filter.2 ⟨this, ho⟩
def chkR (n : Nat) : Bool := (List.range n).all fun (h : Nat) => okH n 1 (List.replicate n (h : Int))
theorem chkR_all : ∀ n : Nat, n ≤ 5 → chkR n = true
  | 0, _ => by kernel_rfl
  | 1, _ => by kernel_rfl
  | 2, _ => by kernel_rfl
  | 3, _ => by kernel_rfl
  | 4, _ => by kernel_rfl
  | 5, _ => by kernel_rfl
  | n + 6, h => by omega
theorem okH_rep {n : Nat} (hn : n ≤ 5) {k : Int} (hk : 1 ≤ k) {h : Nat} (hh : h < n) : okH n k (List.replicate n (h : Int)) = true :=
  okH_mono hk (List.all_eq_true.1 (chkR_all n hn) h (List.mem_range.2 hh))
structure HubOK (m fl : List (List Int)) (d : Int) : Prop where
  net : netB m = true
  flows : flowsB m.length fl = true
  disc : isIn d 0 10 = true
theorem hubsB_iff {m fl : List (List Int)} {k d : Int} (h : hubsB m fl k d = true) : HubOK m fl d ∧ 1 ≤ k ∧ k ≤ 5 := by
  unfold hubsB at h
  simp only [Bool.and_eq_true] at h
  have := isIn_iff.1 h.2.2.1
  exact ⟨⟨h.1, h.2.1, h.2.2.2⟩, this⟩
theorem HubOK.hubs {m fl : List (List Int)} {d : Int} (h : HubOK m fl d) {k : Int} (hk : 1 ≤ k ∧ k ≤ 5) : hubsB m fl k d = true := by
  unfold hubsB
  rw [h.net, h.flows, h.disc, isIn_iff.2 hk]
  rfl
theorem HubOK.cost {m fl : List (List Int)} {d : Int} (h : HubOK m fl d) {hs : List Int} (ha : allocB m.length hs = true) : hubCostOf m fl hs d = (hubSum m fl hs d, true) := by
  unfold hubCostOf
  rw [h.net, h.flows, h.disc, ha]
  rfl
theorem HubOK.best {m fl : List (List Int)} {d : Int} (h : HubOK m fl d) {k : Int} (hk : 1 ≤ k ∧ k ≤ 5) : bestH m fl k d = (true, (bestH m fl k d).2) ∧ okH m.length k (bestH m fl k d).2 = true ∧ ∀ s, okH m.length k s = true → hubSum m fl (bestH m fl k d).2 d ≤ hubSum m fl s d := by
  have hb := h.hubs hk
  have hne := allH_ne (netB_len h.net) hk.1
  have e : bestH m fl k d = (true, firstMin (fun h => hubSum m fl h d) (allH m.length k)) := by unfold bestH; rw [hb]; rfl
  obtain ⟨h1, h2⟩ := firstMin_spec (g := fun h => hubSum m fl h d) hne
  rw [e]
  refine ⟨rfl, (List.mem_filter.1 h1).2, fun s hs => ?_⟩
  have h3 := (lstMin_spec (l := (allH m.length k).map fun h => hubSum m fl h d) (by simpa using hne)).2 _ (List.mem_map_of_mem (f := fun h => hubSum m fl h d) (okH_mem hs))
  rw [← h2] at h3
  exact h3
theorem okH_alloc' {n : Nat} {k : Int} {h : List Int} (ho : okH n k h = true) : allocB n h = true ∧ (((lst5 (bits h)).length : Nat) : Int) ≤ k := by
  unfold okH at ho
  rw [Bool.and_eq_true, decide_eq_true_eq] at ho
  exact ho
theorem alloc_five {n : Nat} (hn : n ≤ 5) {h : List Int} (ha : allocB n h = true) : h.length ≤ 1000 ∧ ∀ a ∈ h, 0 ≤ a ∧ a < 5 := by
  obtain ⟨h1, h2⟩ := allocB_in ha
  exact ⟨by omega, fun a hm => by have := h2 a hm; omega⟩
theorem lst5_pos {l : List Int} (hl : ∀ a ∈ l, 0 ≤ a ∧ a < 5) (h0 : 0 < l.length) : 1 ≤ (lst5 (bits l)).length := by
  obtain ⟨a, t, rfl⟩ : ∃ a t, l = a :: t := by
    cases l with
    | nil => simp at h0
    | cons a t => exact ⟨a, t, rfl⟩
  have ha := hl a List.mem_cons_self
  have hm : a ∈ lst5 (bits (a :: t)) := by
    unfold lst5
    refine List.mem_map.2 ⟨a.toNat, List.mem_filter.2 ⟨List.mem_range.2 (by omega), ?_⟩, by omega⟩
    rw [bits_tb (fun b hb => (hl b hb).1), Int.toNat_of_nonneg ha.1]
    simp
  exact List.length_pos_of_mem hm
theorem foldl_le2 {α : Type} (f g : Int → α → Int) : ∀ (l : List α) (b b' : Int), (∀ a a' i, i ∈ l → a ≤ a' → f a i ≤ g a' i) → b ≤ b' → l.foldl f b ≤ l.foldl g b'
  | [], _, _, _, h => h
  | i :: l, b, b', h, hb => foldl_le2 f g l _ _ (fun a a' j hj => h a a' j (List.mem_cons_of_mem _ hj)) (h b b' i List.mem_cons_self hb)
def strRow (m fl : List (List Int)) (n i : Nat) (b : Int) : Int := (List.range n).foldl (fun b j => bif i == j then b else b + 10 * at2 fl i j * at2 m i j) b
def strSum (m fl : List (List Int)) : Int := (List.range m.length).foldl (fun b i => strRow m fl m.length i b) 0
theorem Flows.in' {n : Nat} {fl : List (List Int)} (h : flowsB n fl = true) {i j : Nat} (hi : i < n) (hj : j < n) : fl.length = n ∧ (fl.getD i []).length = n ∧ 0 ≤ at2 fl i j ∧ at2 fl i j ≤ 99 := by
  unfold flowsB at h
  simp only [Bool.and_eq_true, decide_eq_true_eq, List.all_eq_true] at h
  obtain ⟨h1, h2⟩ := h
  have h3 := h2 _ (getD_mem (d := []) (show i < fl.length by omega))
  refine ⟨h1, h3.1, ?_⟩
  have := allIn_getD (l := fl.getD i []) h3.2 (show j < (fl.getD i []).length by omega)
  exact this
theorem straight_le {m fl : List (List Int)} {d : Int} (h : HubOK m fl d) (hd : d = 10) (hmet : metricB m = true) {hs : List Int} (ha : allocB m.length hs = true) : strSum m fl ≤ hubSum m fl hs d := by
  subst hd
  have hm := netB_ground h.net
  have hA := allocB_iff.1 ha
  have hM : ∀ i j k, i < m.length → j < m.length → k < m.length → at2 m i j ≤ at2 m i k + at2 m k j := by
    have := hmet
    unfold metricB at this
    simp only [List.all_eq_true, List.mem_range, decide_eq_true_eq] at this
    exact fun i j k hi hj hk => this i hi j hj k hk
  refine foldl_le2 _ _ _ _ _ (fun a a' i hi hle => ?_) (Int.le_refl _)
  have hi := List.mem_range.1 hi
  refine foldl_le2 _ _ _ _ _ (fun b b' j hj hb => ?_) hle
  have hj := List.mem_range.1 hj
  obtain ⟨_, _, f0, f1⟩ := Flows.in' h.flows hi hj
  have p1 := (hA.mem i hi).2
  have p2 := (hA.mem j hj).2
  have t1 := hM i j (pl hs i) hi hj p1
  have t2 := hM (pl hs i) j (pl hs j) p1 hj p2
  have t3 := hm.sym (pl hs j) j p2 hj
  cases hij : (i == j) with
  | true => simpa using hb
  | false =>
    have key : at2 fl i j * (10 * at2 m i j) ≤ at2 fl i j * (10 * (at2 m i (pl hs i) + at2 m j (pl hs j)) + 10 * at2 m (pl hs i) (pl hs j)) := Int.mul_le_mul_of_nonneg_left (by omega) f0
    have e : 10 * at2 fl i j * at2 m i j = at2 fl i j * (10 * at2 m i j) := by
      rw [Int.mul_comm 10 (at2 fl i j), Int.mul_assoc]
    rw [cond_false, cond_false, e]
    unfold hubTerm
    omega
theorem str6_eq {m fl : List (List Int)} {d : Int} (h : HubOK m fl d) (c : Int) (b1 b2 : Bool) {i : Nat} (hi : i < m.length) {b : Int} (hb : 0 ≤ b ∧ b ≤ 10000000) :
    L_lw_FnHubs_6 (m, (fl, (c, (b1, (b2, (i : Int)))))) (b, 0) = some (strRow m fl m.length i b) ∧ 0 ≤ strRow m fl m.length i b ∧ strRow m fl m.length i b ≤ b + 5 * 98010 := by
  have hm := netB_ground h.net
  have hn := netB_len h.net
  have key := iter_fold (f := fun v => (S_lw_FnHubs_6 (m, (fl, (c, (b1, (b2, (i : Int)))))) v).ev) (n := m.length) (mk := fun j b => (b, (j : Int))) (I := fun j a => 0 ≤ a ∧ a ≤ b + (j : Int) * 98010)
    (g := fun b j => bif i == j then b else b + 10 * at2 fl i j * at2 m i j) (fin := fun b => b) (s0 := b) (by simp; exact hb.1)
    (fun j a hj ha => by
      obtain ⟨f1, f2, f3, f4⟩ := Flows.in' h.flows hi hj
      have x1 := hm.in hi hj
      have hif : i < fl.length := by omega
      have p := mul_in (a := at2 fl i j) (b := at2 m i j) ⟨f3, f4⟩ x1
      have e : 10 * at2 fl i j * at2 m i j = 10 * (at2 fl i j * at2 m i j) := Int.mul_assoc _ _ _
      have e3 : (fl.getD i []).getD j 0 = at2 fl i j := rfl
      have e4 : (m.getD i []).getD j 0 = at2 m i j := rfl
      cases hij : (i == j) with
      | true =>
        have hne : ((i : Int) != (j : Int)) = false := by
          have := beq_iff_eq.1 hij
          subst this
          exact bne_self_eq_false _
        rw [cond_true]
        refine ⟨?_, by omega, by omega⟩
        simp (disch := omega) only [EV, S_lw_FnHubs_6, hj, hne]
        rfl
      | false =>
        have hne : ((i : Int) != (j : Int)) = true := by
          have := beq_eq_false_iff_ne.1 hij
          exact bne_iff_ne.2 (by omega)
        rw [cond_false]
        refine ⟨?_, by omega, by omega⟩
        simp (disch := omega) only [EV, S_lw_FnHubs_6, hj, hne, hif, hi, f2, hm.rowLen hi, e3, e4, e]
        rw [← e]
        rfl)
    (fun b _ => by simp (disch := omega) only [EV, S_lw_FnHubs_6, Nat.lt_irrefl])
  refine ⟨key.1, key.2.1, ?_⟩
  have := key.2.2
  unfold strRow
  omega
theorem str4_eq {m fl : List (List Int)} {d : Int} (h : HubOK m fl d) (c : Int) (b1 b2 : Bool) : L_lw_FnHubs_4 (m, (fl, (c, (b1, b2)))) (0, 0) = some (strSum m fl) := by
  have hn := netB_len h.net
  exact (iter_fold (f := fun v => (S_lw_FnHubs_4 (m, (fl, (c, (b1, b2)))) v).ev) (n := m.length) (mk := fun i b => (b, (i : Int))) (I := fun i a => 0 ≤ a ∧ a ≤ (i : Int) * 490050)
    (g := fun b i => strRow m fl m.length i b) (fin := fun b => b) (s0 := 0) (by simp)
    (fun i a hi ha => by
      obtain ⟨e1, e2, e3⟩ := str6_eq h c b1 b2 hi (b := a) ⟨ha.1, by omega⟩
      refine ⟨?_, e2, by omega⟩
      simp (disch := omega) only [EV, S_lw_FnHubs_4, hi, e1]
      rfl)
    (fun b _ => by simp (disch := omega) only [EV, S_lw_FnHubs_4, Nat.lt_irrefl])).1
abbrev HR := (List (List (Int))) × ((List (List (Int))) × ((Int) × (List (Int))))
abbrev HX := (List (List (Int))) × ((List (List (Int))) × ((Int) × (Int)))
noncomputable def metEnd (r2_ : HR) (r3_ : (Int) × (Bool)) : Tr (Bool) :=
  .t (r2_.2.2.1 != (10 : Int))
    (.l true)
    (.c ((Bool) × (Bool)) (F_im_IsMetricGround r2_.1) fun r98_ =>
      .c (Int) (L_lw_FnHubs_4 (r2_.1, (r2_.2.1, (r3_.1, (r98_.1, r98_.2)))) ((0 : Int), (0 : Int))) fun r99_ =>
      .t r98_.2
        (.t (!r98_.1)
            (.l true)
            (.l (decide (r99_ ≤ r3_.1))))
        (.l false))
noncomputable def hubEnd (r2_ : HR) (r3_ : (Int) × (Bool)) : Tr (Bool) :=
  .t (!r3_.2)
    (.l true)
    (.t (decide ((0 : Int) < ((List.length r2_.1 : Nat) : Int)))
        (.c (List (Int)) (F_lw_rSorted r2_.2.2.2) fun r66_ =>
          .c ((Bool) × (List (Int))) (F_im_BestHubs r2_.1 r2_.2.1 ((List.length r66_ : Nat) : Int) r2_.2.2.1) fun r67_ =>
          .c ((Int) × (Bool)) (F_im_HubCost r2_.1 r2_.2.1 r67_.2 r2_.2.2.1) fun r68_ =>
          .t (!r67_.1)
            (.l false)
            (.t (!r68_.2)
                (.l false)
                (.t (decide (r3_.1 < r68_.1))
                    (.l false)
                    (metEnd r2_ r3_))))
        (metEnd r2_ r3_))
noncomputable def hubAll (r2_ : HR) (r3_ : (Int) × (Bool)) (r10_ : HX) (r14_ : (Int) × (Bool)) : Tr (Bool) :=
  .t (decide ((0 : Int) < ((List.length r10_.1 : Nat) : Int)))
    (.c ((Unit) ⊕ (Unit)) (L_lw_FnHubs_0 (r2_.1, (r2_.2.1, (r2_.2.2.1, (r3_.1, (r3_.2, (r10_.1, (r10_.2.1, (r10_.2.2.2, (r14_.1, r2_.2.2.2))))))))) (0 : Int)) fun r63_ =>
      .s (Unit) (Unit) r63_
        (fun _ => hubEnd r2_ r3_)
        (fun _ => .l false))
    (hubEnd r2_ r3_)
noncomputable def hubMid (a1_ : List (Int)) (r2_ : HR) (r3_ : (Int) × (Bool)) : Tr (Bool) :=
  .c ((List (List (Int))) × (List (Int))) (F_sp_DrawIsAllocation a1_) fun r7_ =>
    .c ((Bool) × (Bool)) (F_im_IsAllocation r7_.1 r7_.2) fun r8_ =>
    .c ((Bool) × (Bool)) (F_sp_IsAllocation r7_.1 r7_.2) fun r9_ =>
    .t (!(r8_.1 == r9_.1))
      (.l false)
      (.t (!(r8_.2 == r9_.2))
          (.l false)
          (.c HX (F_sp_DrawBestHubs a1_) fun r10_ =>
            .c ((Bool) × (List (Int))) (F_im_BestHubs r10_.1 r10_.2.1 r10_.2.2.1 r10_.2.2.2) fun r11_ =>
            .c ((List (Int)) × (Bool)) (F_sp_BestHubs r10_.1 r10_.2.1 r10_.2.2.1 r10_.2.2.2) fun r12_ =>
            .t (!(r11_.1 == r12_.2))
              (.l false)
              (.c (Bool) (F_lw_rInts r11_.2 r12_.1) fun r13_ =>
                .t (!r13_)
                  (.l false)
                  (.t r11_.1
                      (.c ((Int) × (Bool)) (F_im_HubCost r10_.1 r10_.2.1 r11_.2 r10_.2.2.2) fun r14_ =>
                        .t (!r14_.2)
                          (.l false)
                          (.c (List (Int)) (F_lw_rSorted r11_.2) fun r15_ =>
                            .t (decide (r10_.2.2.1 < ((List.length r15_ : Nat) : Int)))
                              (.l false)
                              (.t (decide ((1 : Int) < r10_.2.2.1))
                                  (.c ((Bool) × (List (Int))) (F_im_BestHubs r10_.1 r10_.2.1 (IntKind.wrap .i64 (r10_.2.2.1 - (1 : Int))) r10_.2.2.2) fun r16_ =>
                                    .c ((Int) × (Bool)) (F_im_HubCost r10_.1 r10_.2.1 r16_.2 r10_.2.2.2) fun r17_ =>
                                    .t (!r16_.1)
                                      (.l false)
                                      (.t (!r17_.2)
                                          (.l false)
                                          (.t (decide (r17_.1 < r14_.1))
                                              (.l false)
                                              (hubAll r2_ r3_ r10_ r14_))))
                                  (hubAll r2_ r3_ r10_ r14_))))
                      (hubEnd r2_ r3_)))))
theorem metEnd_ok {m fl : List (List Int)} (hm : Low2 m) {d : Int} (h : HubOK m fl d) {hs : List Int} (ha : allocB m.length hs = true) : (metEnd (m, (fl, (d, hs))) (hubSum m fl hs d, true)).ev = some true := by
  unfold metEnd
  rw [Tr.ev_t]
  by_cases hd : d = 10
  · have e1 : ((m, (fl, (d, hs))).2.2.1 != (10 : Int)) = false := by subst hd; rfl
    have hg : groundB m = true := (groundB_iff m).2 (netB_ground h.net)
    have eM := im_IsMetricGround_eq hm
    rw [hg] at eM
    rw [e1, cond_false, Tr.ev_c]
    simp only
    rw [eM, Option.bind_some, Tr.ev_c]
    simp only
    rw [str4_eq h, Option.bind_some, Tr.ev_t, cond_true, Bool.true_and, Tr.ev_t]
    cases hmet : metricB m with
    | false => rfl
    | true =>
      rw [Bool.not_true, cond_false, Tr.ev_l, decide_eq_true (straight_le h hd hmet ha)]
  · have e1 : ((m, (fl, (d, hs))).2.2.1 != (10 : Int)) = true := bne_iff_ne.2 hd
    rw [e1, cond_true]
    rfl
theorem hubEnd_ok {m fl : List (List Int)} (hm : Low2 m) (hfl : Low2 fl) (d : Int) (hs : List Int) : (hubEnd (m, (fl, (d, hs))) (hubCostOf m fl hs d)).ev = some true := by
  unfold hubEnd
  cases hok : (netB m && (flowsB m.length fl && (allocB m.length hs && isIn d 0 10))) with
  | false =>
    have e : hubCostOf m fl hs d = (0, false) := by unfold hubCostOf; rw [hok]; rfl
    rw [e]
    rfl
  | true =>
    have e : hubCostOf m fl hs d = (hubSum m fl hs d, true) := by unfold hubCostOf; rw [hok]; rfl
    simp only [Bool.and_eq_true] at hok
    have ha := hok.2.2.1
    have hO : HubOK m fl d := ⟨hok.1, hok.2.1, hok.2.2.2⟩
    have hn := netB_len hO.net
    obtain ⟨n1, n5⟩ := alloc_five hn ha
    rw [e, Tr.ev_t, Bool.not_true, cond_false, Tr.ev_t]
    simp only
    by_cases h0 : 0 < m.length
    · have hlen : 0 < hs.length := by have := (allocB_in ha).1; omega
      have hp := lst5_pos n5 hlen
      have h5 := lst5_len (bits hs)
      obtain ⟨b1, b2, b3⟩ := hO.best (k := (((lst5 (bits hs)).length : Nat) : Int)) ⟨by omega, by omega⟩
      have eB := im_BestHubs_eq hm hfl (((lst5 (bits hs)).length : Nat) : Int) d
      have hle := b3 hs (by unfold okH; rw [ha, decide_eq_true (Int.le_refl _)]; rfl)
      have eC := im_HubCost_eq hm hfl (bestH m fl (((lst5 (bits hs)).length : Nat) : Int) d).2 d
      rw [hO.cost (okH_alloc' b2).1] at eC
      rw [b1] at eB
      rw [decide_eq_true (show (0 : Int) < ((m.length : Nat) : Int) by omega), cond_true, Tr.ev_c, rSorted5 n1 n5, Option.bind_some, Tr.ev_c, eB, Option.bind_some, Tr.ev_c]
      simp only
      rw [eC, Option.bind_some, Tr.ev_t, Bool.not_true, cond_false, Tr.ev_t]
      simp only
      rw [cond_false, Tr.ev_t, decide_eq_false (Int.not_lt.2 hle), cond_false]
      exact metEnd_ok hm hO ha
    · rw [decide_eq_false (show ¬ (0 : Int) < ((m.length : Nat) : Int) by omega), cond_false]
      exact metEnd_ok hm hO ha
theorem hub2_eq {x rows : List (List Int)} (hn : x.length ≤ 5) (K1 K2 : List (List Int)) (k3 k4 : Int) (k5 : Bool) (part low : Int) (v : Int) (hs : List Int) :
    L_lw_FnHubs_2 (K1, (K2, (k3, (k4, (k5, (x, (rows, (part, (low, (v, hs)))))))))) ((0 : Int), ([] : List Int)) = some (List.replicate x.length v) := by
  have key := iter_fold (f := fun w => (S_lw_FnHubs_2 (K1, (K2, (k3, (k4, (k5, (x, (rows, (part, (low, (v, hs)))))))))) w).ev) (n := x.length) (mk := fun i (l : List Int) => ((i : Int), l)) (I := fun i l => l = List.replicate i v)
    (g := fun l _ => l ++ [v]) (fin := fun l => l) (s0 := []) rfl
    (fun i l hi hI => by
      subst hI
      have r1 := room8 (List.replicate i v) v (by simp; omega)
      refine ⟨?_, by simp [List.replicate_succ']⟩
      simp (disch := omega) only [EV, S_lw_FnHubs_2, hi, r1]
      rfl)
    (fun l _ => by simp (disch := omega) only [EV, S_lw_FnHubs_2, Nat.lt_irrefl])
  have e : L_lw_FnHubs_2 (K1, (K2, (k3, (k4, (k5, (x, (rows, (part, (low, (v, hs)))))))))) ((0 : Int), ([] : List Int)) = _ := key.1
  rw [e, key.2]
theorem hub0_eq {x rows : List (List Int)} (hx : Low2 x) (hr : Low2 rows) {part : Int} (h : HubOK x rows part) {low : Int} (hlow : ∀ v : Nat, v < x.length → low ≤ hubSum x rows (List.replicate x.length (v : Int)) part) (K1 K2 : List (List Int)) (k3 k4 : Int) (k5 : Bool) (hs : List Int) :
    L_lw_FnHubs_0 (K1, (K2, (k3, (k4, (k5, (x, (rows, (part, (low, hs))))))))) (0 : Int) = some (.inl ()) := by
  have hn := netB_len h.net
  obtain ⟨r, h1, h2⟩ := iter_cnt (f := fun v => (S_lw_FnHubs_0 (K1, (K2, (k3, (k4, (k5, (x, (rows, (part, (low, hs))))))))) v).ev) (n := x.length) (fun k v => v = (k : Int)) (fun r => r = .inl ())
    (fun k v hk hv => by
      subst hv
      have eC := im_HubCost_eq hx hr (List.replicate x.length (k : Int)) part
      rw [h.cost (okH_alloc' (okH_rep hn (k := 1) (by omega) hk)).1] at eC
      have hl := Int.not_lt.2 (hlow k hk)
      refine ⟨((k + 1 : Nat) : Int), ?_, rfl⟩
      simp (disch := omega) only [EV, S_lw_FnHubs_0, hk, hub2_eq (x := x) (rows := rows) hn, eC, hl]
      rfl)
    (fun v hv => by
      subst hv
      exact ⟨.inl (), by simp (disch := omega) only [EV, S_lw_FnHubs_0, Nat.lt_irrefl], rfl⟩)
    (v := (0 : Int)) rfl
  rw [h2] at h1
  exact h1
theorem hubAll_ok {m fl : List (List Int)} (hm : Low2 m) (hfl : Low2 fl) (d : Int) (hs : List Int) {x rows : List (List Int)} (hx : Low2 x) (hr : Low2 rows) {k part : Int} (h : HubOK x rows part) (hk : 1 ≤ k ∧ k ≤ 5) :
    (hubAll (m, (fl, (d, hs))) (hubCostOf m fl hs d) (x, (rows, (k, part))) (hubSum x rows (bestH x rows k part).2 part, true)).ev = some true := by
  have hn := netB_len h.net
  obtain ⟨_, _, b3⟩ := h.best hk
  unfold hubAll
  rw [Tr.ev_t]
  simp only
  by_cases h0 : 0 < x.length
  · rw [decide_eq_true (show (0 : Int) < ((x.length : Nat) : Int) by omega), cond_true, Tr.ev_c, hub0_eq hx hr h (fun v hv => b3 _ (okH_rep hn hk.1 hv)), Option.bind_some]
    exact hubEnd_ok hm hfl d hs
  · rw [decide_eq_false (show ¬ (0 : Int) < ((x.length : Nat) : Int) by omega), cond_false]
    exact hubEnd_ok hm hfl d hs
theorem drawIA_ok {l : List Int} (h : CK 0 l 0) : ∃ g o, F_sp_DrawIsAllocation l = some (g, o) ∧ DrG g ∧ o.length ≤ 7 := by
  obtain ⟨x, i1, c1, e1, hx, h1⟩ := among_ok [(5 : Int), (5 : Int), (5 : Int), (4 : Int), (7 : Int)] 0 h (by omega) (by decide)
  have hx0 : 0 ≤ x := by
    simp only [List.mem_cons, List.not_mem_nil, or_false] at hx
    omega
  obtain ⟨g, i2, c2, e2, hg, h2⟩ := ground_ok hx0 c1 h1 (by omega)
  obtain ⟨o, i3, c3, e3, ho, _⟩ := hubs_ok hg.len c2 h2 (by omega)
  have := hg.len
  unfold F_sp_DrawIsAllocation T_sp_DrawIsAllocation
  simp (disch := omega) only [EV, e1, e2, e3]
  exact ⟨_, _, rfl, hg, by omega⟩
theorem drawHC_ok {l : List Int} (h : CK 0 l 0) : ∃ m fl d hs, F_sp_DrawHubCost l = some (m, (fl, (d, hs))) ∧ DrG m ∧ DrG fl ∧ hs.length ≤ 7 := by
  obtain ⟨m, i2, c2, e2, hg, h2⟩ := ground_ok (most := 5) (by omega) 0 h (by omega)
  obtain ⟨fl, i3, c3, e3, hf, h3⟩ := flows_ok hg.len c2 h2 (by omega)
  obtain ⟨o, i4, c4, e4, ho, h4⟩ := hubs_ok hg.len c3 h3 (by omega)
  obtain ⟨d, i5, c5, e5, _⟩ := discount_ok c4 h4 (by omega)
  have := hg.len
  unfold F_sp_DrawHubCost T_sp_DrawHubCost
  simp (disch := omega) only [EV, e2, e3, e4, e5]
  exact ⟨_, _, _, _, rfl, hg, hf, by omega⟩
theorem drawBH_ok {l : List Int} (h : CK 0 l 0) : ∃ m fl k d, F_sp_DrawBestHubs l = some (m, (fl, (k, d))) ∧ DrG m ∧ DrG fl := by
  obtain ⟨x, i1, c1, e1, hx, h1⟩ := among_ok [(4 : Int), (4 : Int), (4 : Int), (3 : Int), (5 : Int), (6 : Int)] 0 h (by omega) (by decide)
  have hx0 : 0 ≤ x := by
    simp only [List.mem_cons, List.not_mem_nil, or_false] at hx
    omega
  obtain ⟨g, i2, c2, e2, hg, h2⟩ := ground_ok hx0 c1 h1 (by omega)
  obtain ⟨fl, i3, c3, e3, hf, h3⟩ := flows_ok hg.len c2 h2 (by omega)
  obtain ⟨k, i4, c4, e4, _, h4⟩ := among_ok [(1 : Int), (2 : Int), (3 : Int), (2 : Int), (5 : Int), (0 : Int), (6 : Int)] c3 h3 (by omega) (by decide)
  obtain ⟨d, i5, c5, e5, _⟩ := discount_ok c4 h4 (by omega)
  unfold F_sp_DrawBestHubs T_sp_DrawBestHubs
  simp (disch := omega) only [EV, e1, e2, e3, e4, e5]
  exact ⟨_, _, _, _, rfl, hg, hf⟩
theorem hubMid_ok {code : List Int} (hck : CK 0 code 0) {m fl : List (List Int)} (hm : Low2 m) (hfl : Low2 fl) (d : Int) (hs : List Int) : (hubMid code (m, (fl, (d, hs))) (hubCostOf m fl hs d)).ev = some true := by
  obtain ⟨g, o, eA, hg, ho⟩ := drawIA_ok hck
  obtain ⟨x, rows, k, part, eB, hx, hr⟩ := drawBH_ok hck
  have hx2 := hx.low
  have hr2 := hr.low
  have ho1 : Low1 o := by unfold Low1; omega
  obtain ⟨es, hlow⟩ := sp_BestHubs_eq hx2 hr2 k part
  have ei := im_BestHubs_eq hx2 hr2 k part
  unfold hubMid
  rw [Tr.ev_c, eA, Option.bind_some, Tr.ev_c]
  simp only
  rw [im_IsAllocation_eq hg.low o, Option.bind_some, Tr.ev_c, sp_IsAllocation_eq hg.low ho1, Option.bind_some, Tr.ev_t, beq_self_eq_true, Bool.not_true, cond_false, Tr.ev_t, beq_self_eq_true, Bool.not_true, cond_false, Tr.ev_c, eB, Option.bind_some, Tr.ev_c]
  simp only
  rw [ei, Option.bind_some, Tr.ev_c, es, Option.bind_some, Tr.ev_t]
  simp only
  rw [beq_self_eq_true, Bool.not_true, cond_false, Tr.ev_c, rInts_eq hlow, beq_self_eq_true, Option.bind_some, Tr.ev_t, Bool.not_true, cond_false, Tr.ev_t]
  cases hb : hubsB x rows k part with
  | false =>
    have e0 : (bestH x rows k part).1 = false := by unfold bestH; rw [hb]; rfl
    rw [e0, cond_false]
    exact hubEnd_ok hm hfl d hs
  | true =>
    obtain ⟨hO, hk⟩ := hubsB_iff hb
    have hn := netB_len hO.net
    obtain ⟨b1, b2, b3⟩ := hO.best hk
    obtain ⟨a1, a2⟩ := okH_alloc' b2
    obtain ⟨n1, n5⟩ := alloc_five hn a1
    have e0 : (bestH x rows k part).1 = true := by rw [b1]
    have eC := im_HubCost_eq hx2 hr2 (bestH x rows k part).2 part
    rw [hO.cost a1] at eC
    rw [e0, cond_true, Tr.ev_c, eC, Option.bind_some, Tr.ev_t]
    simp only
    rw [Bool.not_true, cond_false, Tr.ev_c, rSorted5 n1 n5, Option.bind_some, Tr.ev_t, decide_eq_false (Int.not_lt.2 a2), cond_false, Tr.ev_t]
    by_cases hk1 : 1 < k
    · have ew : IntKind.wrap .i64 (k - 1) = k - 1 := wrap64 (by omega) (by omega)
      obtain ⟨q1, q2, q3⟩ := hO.best (k := k - 1) ⟨by omega, by omega⟩
      have eD := im_BestHubs_eq hx2 hr2 (k - 1) part
      rw [q1] at eD
      have eE := im_HubCost_eq hx2 hr2 (bestH x rows (k - 1) part).2 part
      rw [hO.cost (okH_alloc' q2).1] at eE
      have hle := b3 _ (okH_mono (k := k - 1) (k' := k) (by omega) q2)
      rw [decide_eq_true hk1, cond_true, Tr.ev_c, ew, eD, Option.bind_some, Tr.ev_c]
      simp only
      rw [eE, Option.bind_some, Tr.ev_t, Bool.not_true, cond_false, Tr.ev_t]
      simp only
      rw [cond_false, Tr.ev_t, decide_eq_false (Int.not_lt.2 hle), cond_false]
      exact hubAll_ok hm hfl d hs hx2 hr2 hO hk
    · rw [decide_eq_false hk1, cond_false]
      exact hubAll_ok hm hfl d hs hx2 hr2 hO hk
theorem cond_ok {b : Bool} {x y : Option Bool} (hx : b = true → x = some true) (hy : b = false → y = some true) : (bif b then x else y) = some true := by
  cases b with
  | true => exact hx rfl
  | false => exact hy rfl
theorem law_FnHubs (code : List Int) (hf : Fit (.slice (.int .u8)) code) : F_lw_FnHubs code = some true := by
  unfold F_lw_FnHubs T_lw_FnHubs F_lw_rBig T_lw_rBig
  rw [Tr.ev_c, Tr.ev_l, Option.bind_some, Tr.ev_t]
  by_cases hbig : (65536 : Int) < (code.length : Int)
  · rw [decide_eq_true hbig, cond_true]
    rfl
  · have hck : CK 0 code 0 := ⟨fun x hx => fitB (hf.2 x hx), by omega, by omega, by omega⟩
    obtain ⟨m, fl, d, hs, eA, hm, hfl, hl⟩ := drawHC_ok hck
    have hm2 := hm.low
    have hf2 := hfl.low
    have hs1 : Low1 hs := by unfold Low1; omega
    rw [decide_eq_false hbig, cond_false, Tr.ev_c, eA, Option.bind_some, Tr.ev_c]
    simp only
    rw [im_HubCost_eq hm2 hf2 hs d, Option.bind_some, Tr.ev_c, sp_HubCost_eq hm2 hf2 hs1 d, Option.bind_some, Tr.ev_t, bne_self_eq_false, cond_false, Tr.ev_t, beq_self_eq_true, Bool.not_true, cond_false, Tr.ev_c, im_IsAllocation_eq hm2 hs, Option.bind_some, Tr.ev_c, sp_IsAllocation_eq hm2 hs1, Option.bind_some, Tr.ev_t, beq_self_eq_true, Bool.not_true, cond_false, Tr.ev_t, beq_self_eq_true, Bool.not_true, cond_false, Tr.ev_t]
    refine cond_ok (fun hok => ?_) (fun _ => hubMid_ok hck hm2 hf2 d hs)
    have ha : (allocOf m hs).1 = true := by
      unfold hubCostOf at hok
      unfold allocOf
      cases h1 : netB m with
      | false => rw [h1] at hok; cases hok
      | true =>
        cases h2 : allocB m.length hs with
        | true => rfl
        | false =>
          rw [h1, h2] at hok
          cases h3 : flowsB m.length fl <;> rw [h3] at hok <;> cases hok
    rw [Tr.ev_t, ha, Bool.not_true, cond_false]
    exact hubMid_ok hck hm2 hf2 d hs
end Go.Proofs.Ytlemejhffpkbkaa
