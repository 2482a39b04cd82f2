/-
  Plain laws: lists of three levels; seasons.
-/
import Derived.Test.YtlmbhkmaflhagaaP21
import Derived.Test.YtlmbhkmaflhagaaP20
namespace Go.Proofs.Ytlmbhkmaflhagaa
def Fit3 (x : List (List (List Int))) : Prop := (x.length : Int) < 9223372036854775808 ∧ ∀ r ∈ x, Fit2 r
def Low3 (x : List (List (List Int))) : Prop := (x.length : Int) ≤ 1048576 ∧ ∀ r ∈ x, Low2 r
theorem szIntSSS_sz {x : List (List (List Int))} {b : Int} (hx : Fit3 x) (h0 : 0 ≤ b) (h1 : b ≤ 1048576) : Sz (F_lw_szIntSSS x b) (Low3 x) := by
  obtain ⟨hx1, hx2⟩ := hx
  unfold F_lw_szIntSSS T_lw_szIntSSS
  simp (disch := omega) only [EV]
  by_cases hb : b - (x.length : Int) < 0
  · simp (disch := omega) only [EV, hb]
    exact ⟨_, rfl, by omega, fun h => by omega⟩
  · have := sz_loop (f := fun v => (S_lw_szIntSSS_0 x v).ev) (l := x) [] Low2 (b := b - (x.length : Int)) (by omega) (by omega) (fun i s hi k0 k1 => by
      obtain ⟨r, k2, k3, k4⟩ := szIntSS_sz (hx2 _ (getD_mem (d := []) hi)) k0 k1
      simp (disch := omega) only [EV, S_lw_szIntSSS_0, hi, k2]
      by_cases hr : r < 0
      · right; simp (disch := omega) only [EV, hr]
      · left
        simp (disch := omega) only [EV, hr]
        exact ⟨r, rfl, by omega, by omega, k4 (by omega)⟩) (fun s => by simp (disch := omega) only [EV, S_lw_szIntSSS_0, Nat.lt_irrefl])
    rcases this with h | ⟨s, h, k0, k1, k2⟩
    · simp (disch := omega) only [EV, hb, L_lw_szIntSSS_0, h]
      exact ⟨_, rfl, by omega, fun h => by omega⟩
    · simp (disch := omega) only [EV, hb, L_lw_szIntSSS_0, h]
      exact ⟨_, rfl, by omega, fun _ => ⟨by omega, k2⟩⟩
theorem toIntSSS_eq {x : List (List (List Int))} (hx : Low3 x) : F_lw_toIntSSS x = some x := by
  obtain ⟨hl, hr⟩ := hx
  unfold F_lw_toIntSSS T_lw_toIntSSS
  rw [Tr.ev_g, show (decide ((0 : Int) ≤ ((x.length : Nat) : Int)) && decide (((x.length : Nat) : Int) ≤ ((x.length : Nat) : Int)) && decide (((24 : Nat) : Int) * ((x.length : Nat) : Int) ≤ 281474976710656)) = true by simp; omega]
  have := copy_loop (f := fun v => (S_lw_toIntSSS_0 x v).ev) (l := x) [] (fun i r hi hr' => by simp (disch := omega) only [EV, S_lw_toIntSSS_0, hr', hi, toIntSS_eq (hr _ (getD_mem (d := []) hi))]; rfl) (fun r => by simp (disch := omega) only [EV, S_lw_toIntSSS_0, Nat.lt_irrefl])
  simp (disch := omega) only [EV, L_lw_toIntSSS_0, this]
theorem eqIntSSS_eq {a b : List (List (List Int))} (ha : Low3 a) : F_lw_eqIntSSS a b = some (a == b) := by
  obtain ⟨ha, hr⟩ := ha
  unfold F_lw_eqIntSSS T_lw_eqIntSSS
  by_cases h : a.length = b.length
  · have hs := eq_loop (f := fun v => (S_lw_eqIntSSS_0 (a, b) v).ev) (a := a) (b := b) [] h (fun i hi => by
      have hi' : i < b.length := by omega
      simp (disch := omega) only [EV, S_lw_eqIntSSS_0, hi, hi', eqIntSS_eq (hr _ (getD_mem (d := []) hi))]
      cases (a.getD i [] == b.getD i []) <;> rfl) (by simp (disch := omega) only [EV, S_lw_eqIntSSS_0, Nat.lt_irrefl])
    simp (disch := omega) only [EV, int_ne, h, L_lw_eqIntSSS_0, hs]
    cases (a == b) <;> rfl
  · have : (a == b) = false := by
      rw [beq_eq_false_iff_ne]
      exact fun e => h (by rw [e])
    simp (disch := omega) only [EV, int_ne, h, this]
theorem szSeason_sz {o c k : List Int} {rs : List (List (List Int))} {b : Int} (ho : Fit1 o) (hc : Fit1 c) (hk : Fit1 k) (hr : Fit3 rs) (h0 : 0 ≤ b) (h1 : b ≤ 1048576) : Sz (F_lw_szSeason o c k rs b) (Low1 o ∧ Low1 c ∧ Low1 k ∧ Low3 rs) := by
  have hm : (-1 : Int) ≤ 1048576 := by omega
  have hm2 : (0 : Int) ≤ -1 → Low1 o ∧ Low1 c ∧ Low1 k ∧ Low3 rs := fun h => by omega
  unfold F_lw_szSeason T_lw_szSeason
  obtain ⟨r1, e1, b1, k1⟩ := szIntS_sz ho h0 h1
  simp (disch := omega) only [EV, e1]
  by_cases h1 : r1 < 0
  · simp (disch := omega) only [EV, h1]; exact ⟨_, rfl, hm, hm2⟩
  obtain ⟨r2, e2, b2, k2⟩ := szIntS_sz hc (b := r1) (by omega) (by omega)
  simp (disch := omega) only [EV, h1, e2]
  by_cases h2 : r2 < 0
  · simp (disch := omega) only [EV, h2]; exact ⟨_, rfl, hm, hm2⟩
  obtain ⟨r3, e3, b3, k3⟩ := szIntS_sz hk (b := r2) (by omega) (by omega)
  simp (disch := omega) only [EV, h2, e3]
  by_cases h3 : r3 < 0
  · simp (disch := omega) only [EV, h3]; exact ⟨_, rfl, hm, hm2⟩
  obtain ⟨r4, e4, b4, k4⟩ := szIntSSS_sz hr (b := r3) (by omega) (by omega)
  simp (disch := omega) only [EV, h3, e4]
  by_cases h4 : r4 < 0
  · simp (disch := omega) only [EV, h4]; exact ⟨_, rfl, hm, hm2⟩
  simp (disch := omega) only [EV, h4]
  exact ⟨_, rfl, b4, fun h => ⟨k1 (by omega), k2 (by omega), k3 (by omega), k4 h⟩⟩
theorem toSeason_eq {o c k : List Int} {rs : List (List (List Int))} (ho : Low1 o) (hc : Low1 c) (hk : Low1 k) (hr : Low3 rs) : F_lw_toSeason o c k rs = some (o, c, k, rs) := by
  unfold F_lw_toSeason T_lw_toSeason
  simp (disch := omega) only [EV, toIntS_eq ho, toIntS_eq hc, toIntS_eq hk, toIntSSS_eq hr]
theorem eqSeason_self {o c k : List Int} {rs : List (List (List Int))} (ho : Low1 o) (hc : Low1 c) (hk : Low1 k) (hr : Low3 rs) : F_lw_eqSeason o c k rs o c k rs = some true := by
  unfold F_lw_eqSeason T_lw_eqSeason
  simp (disch := omega) only [EV, eqIntS_eq ho, eqIntS_eq hc, eqIntS_eq hk, eqIntSSS_eq hr, beq_self_eq_true]
theorem indexFunc_SSint {l : List (List (List Int))} (hl : (l.length : Int) < 9223372036854775807) {p : HL [.slice (.slice (.int .i64))] → Option Bool} {q : List (List Int) → Bool} (hp : ∀ n ∈ l, p (n, ()) = some (q n)) :
    F_slices_IndexFunc_SSSint_SSint l p = some ((l.findIdx? q).elim (-1) (fun i => (i : Int))) := by
  unfold F_slices_IndexFunc_SSSint_SSint T_slices_IndexFunc_SSSint_SSint
  have hs : L_slices_IndexFunc_SSSint_SSint_0 (l, (p, ((l.length : Nat) : Int))) 0 = _ := iter_forE (f := fun v => (S_slices_IndexFunc_SSSint_SSint_0 (l, (p, ((l.length : Nat) : Int))) v).ev) (l := l) [] q (mk := fun i => (i : Int)) (yes := fun i => .inr (i : Int)) (no := .inl ()) (fun i hi => by
    simp (disch := omega) only [EV, S_slices_IndexFunc_SSSint_SSint_0, hi, hp _ (getD_mem hi)]
    cases q (l.getD i []) <;> rfl) (by simp (disch := omega) only [EV, S_slices_IndexFunc_SSSint_SSint_0, Nat.lt_irrefl])
  simp (disch := omega) only [EV, hs]
  cases l.findIdx? q <;> rfl
theorem containsFunc_SSint {l : List (List (List Int))} (hl : (l.length : Int) < 9223372036854775807) {p : HL [.slice (.slice (.int .i64))] → Option Bool} {q : List (List Int) → Bool} (hp : ∀ n ∈ l, p (n, ()) = some (q n)) :
    F_slices_ContainsFunc_SSSint_SSint l p = some (l.any q) := by
  unfold F_slices_ContainsFunc_SSSint_SSint T_slices_ContainsFunc_SSSint_SSint
  simp (disch := omega) only [EV, indexFunc_SSint hl hp]
  congr 1
  rw [Bool.eq_iff_iff, findIdx_any]
  cases l.findIdx? q <;> simp
def roundB (n : Nat) (ds : List (List Int)) : Bool := decide (ds.length ≤ 5) && ds.all fun r => decide (r.length = n) && allIn r 0 99
def seasonB (o c k : List Int) (rs : List (List (List Int))) : Bool :=
  isIn (o.length : Int) 1 5 && (decide (c.length = o.length) && (decide (k.length = o.length) && (allIn (o ++ c ++ k) 0 99 && (decide (rs.length ≤ 5) && rs.all (roundB o.length)))))
theorem allIn_append (a b : List Int) (x y : Int) : allIn (a ++ b) x y = (allIn a x y && allIn b x y) := by simp [allIn, List.all_append]
structure Ssn (o c k : List Int) (rs : List (List (List Int))) : Prop where
  n1 : 1 ≤ o.length
  n5 : o.length ≤ 5
  cl : c.length = o.length
  kl : k.length = o.length
  ov : ∀ i, i < o.length → 0 ≤ o.getD i 0 ∧ o.getD i 0 ≤ 99
  cv : ∀ i, i < o.length → 0 ≤ c.getD i 0 ∧ c.getD i 0 ≤ 99
  kv : ∀ i, i < o.length → 0 ≤ k.getD i 0 ∧ k.getD i 0 ≤ 99
  R : rs.length ≤ 5
  fld : ∀ r, r < rs.length → Fld o (rs.getD r [])
theorem ssn_of {o c k : List Int} {rs : List (List (List Int))} (h : seasonB o c k rs = true) : Ssn o c k rs := by
  simp only [seasonB, Bool.and_eq_true, decide_eq_true_eq, isIn_iff, allIn_append, List.all_eq_true] at h
  obtain ⟨⟨h1, h2⟩, h3, h4, ⟨⟨h5, h6⟩, h7⟩, h8, h9⟩ := h
  refine ⟨by omega, by omega, h3, h4, fun i hi => allIn_getD h5 hi, fun i hi => allIn_getD h6 (by omega), fun i hi => allIn_getD h7 (by omega), h8, fun r hr => fieldB_iff.1 ?_⟩
  have h10 := h9 _ (getD_mem (d := []) hr)
  simp only [roundB, Bool.and_eq_true, decide_eq_true_eq] at h10
  simp only [fieldB, Bool.and_eq_true, decide_eq_true_eq, isIn_iff]
  exact ⟨⟨by omega, by omega⟩, h5, by omega, h10.2⟩
theorem concat3_eq {a b c : List Int} (ha : a.length ≤ 5) (hb : b.length ≤ 5) (hc : c.length ≤ 5) : F_slices_Concat_Sint_int [a, b, c] = some (a ++ b ++ c) := by
  unfold F_slices_Concat_Sint_int T_slices_Concat_Sint_int
  have n1 : ¬ (a.length : Int) < 0 := by omega
  have n2 : ¬ (a.length : Int) + (b.length : Int) < 0 := by omega
  have n3 : ¬ (a.length : Int) + (b.length : Int) + (c.length : Int) < 0 := by omega
  have h0 : L_slices_Concat_Sint_int_0 ([a, b, c], ([a, b, c], 3)) ((0 : Int), (0 : Int)) = some ((a.length : Int) + (b.length : Int) + (c.length : Int)) := by
    unfold L_slices_Concat_Sint_int_0
    rw [iter_eq]
    have s1 : (S_slices_Concat_Sint_int_0 ([a, b, c], ([a, b, c], 3)) ((0 : Int), (0 : Int))).ev = some (.inl ((a.length : Int), 1)) := by
      simp (disch := omega) only [EV, S_slices_Concat_Sint_int_0, List.length_cons, List.length_nil, show ((0 : Int) < 3) by omega, show List.getD [a, b, c] (Int.toNat 0) [] = a from rfl, Int.zero_add, n1, show inR (0 : Int) (0 + 1 + 1 + 1) = true from rfl]
    rw [s1]
    dsimp only
    rw [iter_eq]
    have s2 : (S_slices_Concat_Sint_int_0 ([a, b, c], ([a, b, c], 3)) ((a.length : Int), (1 : Int))).ev = some (.inl ((a.length : Int) + (b.length : Int), 2)) := by
      simp (disch := omega) only [EV, S_slices_Concat_Sint_int_0, List.length_cons, List.length_nil, show ((1 : Int) < 3) by omega, show List.getD [a, b, c] (Int.toNat 1) [] = b from rfl, n2, show inR (1 : Int) (0 + 1 + 1 + 1) = true from rfl]
      rfl
    rw [s2]
    dsimp only
    rw [iter_eq]
    have s3 : (S_slices_Concat_Sint_int_0 ([a, b, c], ([a, b, c], 3)) ((a.length : Int) + (b.length : Int), (2 : Int))).ev = some (.inl ((a.length : Int) + (b.length : Int) + (c.length : Int), 3)) := by
      simp (disch := omega) only [EV, S_slices_Concat_Sint_int_0, List.length_cons, List.length_nil, show ((2 : Int) < 3) by omega, show List.getD [a, b, c] (Int.toNat 2) [] = c from rfl, n3, show inR (2 : Int) (0 + 1 + 1 + 1) = true from rfl]
      rfl
    rw [s3]
    dsimp only
    rw [iter_eq]
    have s4 : (S_slices_Concat_Sint_int_0 ([a, b, c], ([a, b, c], 3)) ((a.length : Int) + (b.length : Int) + (c.length : Int), (3 : Int))).ev = some (.inr ((a.length : Int) + (b.length : Int) + (c.length : Int))) := by
      simp (disch := omega) only [EV, S_slices_Concat_Sint_int_0, show ¬ ((3 : Int) < 3) by omega]
    rw [s4]
  have hg : F_slices_Grow_Sint_int ((a.length : Int) + (b.length : Int) + (c.length : Int)) = some [] := by
    unfold F_slices_Grow_Sint_int T_slices_Grow_Sint_int
    have e : IntKind.wrap .i64 ((a.length : Int) + (b.length : Int) + (c.length : Int) - IntKind.wrap .i64 ((0 : Int) - 0)) = (a.length : Int) + (b.length : Int) + (c.length : Int) := by
      rw [show IntKind.wrap .i64 ((0 : Int) - 0) = 0 from rfl, Int.sub_zero, wrap64 (by omega) (by omega)]
    rw [e]
    by_cases hp : (0 : Int) < (a.length : Int) + (b.length : Int) + (c.length : Int)
    · have g1 : ((a.length : Int) + (b.length : Int) + (c.length : Int)) * ((8 : Nat) : Int) ≤ 281474976710656 := by omega
      have g2 : (0 : Int) ≤ (((List.replicate (Int.toNat ((a.length : Int) + (b.length : Int) + (c.length : Int))) (0 : Int)).length : Nat) : Int) := by omega
      simp (disch := omega) only [EV, n3, hp, g1, g2, Int.le_refl, show ((0 : Int) ≤ ((0 : Nat) : Int)) by omega, show Int.toNat 0 = 0 from rfl, List.take_zero]
    · simp (disch := omega) only [EV, n3, hp]
  have h2 : L_slices_Concat_Sint_int_2 ([a, b, c], 3) ((0 : Int), []) = some (a ++ b ++ c) := by
    unfold L_slices_Concat_Sint_int_2
    have g1 : (0 + a.length) * 8 ≤ 140737488355328 := by omega
    have g2 : (a.length + b.length) * 8 ≤ 140737488355328 := by omega
    have g3 : (a.length + b.length + c.length) * 8 ≤ 140737488355328 := by omega
    rw [iter_eq]
    have s1 : (S_slices_Concat_Sint_int_2 ([a, b, c], 3) ((0 : Int), [])).ev = some (.inl (1, a)) := by
      simp (disch := omega) only [EV, S_slices_Concat_Sint_int_2, List.length_cons, List.length_nil, show ((0 : Int) < 3) by omega, show List.getD [a, b, c] (Int.toNat 0) [] = a from rfl, g1, show inR (0 : Int) (0 + 1 + 1 + 1) = true from rfl, List.nil_append]
      rfl
    rw [s1]
    dsimp only
    rw [iter_eq]
    have s2 : (S_slices_Concat_Sint_int_2 ([a, b, c], 3) ((1 : Int), a)).ev = some (.inl (2, a ++ b)) := by
      simp (disch := omega) only [EV, S_slices_Concat_Sint_int_2, List.length_cons, List.length_nil, show ((1 : Int) < 3) by omega, show List.getD [a, b, c] (Int.toNat 1) [] = b from rfl, g2, show inR (1 : Int) (0 + 1 + 1 + 1) = true from rfl]
      rfl
    rw [s2]
    dsimp only
    rw [iter_eq]
    have s3 : (S_slices_Concat_Sint_int_2 ([a, b, c], 3) ((2 : Int), a ++ b)).ev = some (.inl (3, a ++ b ++ c)) := by
      simp (disch := omega) only [EV, S_slices_Concat_Sint_int_2, List.length_cons, List.length_nil, List.length_append, show ((2 : Int) < 3) by omega, show List.getD [a, b, c] (Int.toNat 2) [] = c from rfl, g3, show inR (2 : Int) (0 + 1 + 1 + 1) = true from rfl]
      rfl
    rw [s3]
    dsimp only
    rw [iter_eq]
    have s4 : (S_slices_Concat_Sint_int_2 ([a, b, c], 3) ((3 : Int), a ++ b ++ c)).ev = some (.inr (a ++ b ++ c)) := by
      simp (disch := omega) only [EV, S_slices_Concat_Sint_int_2, show ¬ ((3 : Int) < 3) by omega]
    rw [s4]
  have e3 : (([a, b, c].length : Nat) : Int) = 3 := rfl
  simp (disch := omega) only [EV, e3, h0, hg, h2]
theorem isSeason1_eq {ds : List (List Int)} (hd : Low2 ds) (n : Nat) : F_im_IsSeason_1 ds (n : Int) = some (!roundB n ds) := by
  have hl := hd.1
  unfold F_im_IsSeason_1 T_im_IsSeason_1 roundB
  by_cases h : (5 : Int) < (ds.length : Int)
  · simp (disch := omega) only [EV, h, show ¬ ds.length ≤ 5 by omega]
  · rw [Tr.ev_t, decide_eq_false h, cond_false, Tr.ev_c, containsFunc_Sint (by omega) (q := fun r => !(decide (r.length = n) && allIn r 0 99)) fun r hr => by
      unfold F_im_IsSeason_1_1 T_im_IsSeason_1_1
      by_cases h2 : r.length = n
      · simp (disch := omega) only [EV, int_ne, h2, areBetween_eq (hd.2 r hr)]
      · simp (disch := omega) only [EV, int_ne, h2]]
    simp (disch := omega) only [EV, show ds.length ≤ 5 by omega]
    rw [List.any_eq_not_all_not]
    simp
theorem IsSeason_eq {o c k : List Int} {rs : List (List (List Int))} (ho : Low1 o) (hc : Low1 c) (hk : Low1 k) (hr : Low3 rs) : F_im_IsSeason o c k rs = some (seasonB o c k rs) := by
  have hl := hr.1
  unfold F_im_IsSeason T_im_IsSeason seasonB
  simp (disch := omega) only [EV, between_eq]
  cases h1 : isIn (o.length : Int) 1 5 with
  | false => rfl
  | true =>
    have hb := isIn_iff.1 h1
    by_cases h2 : c.length = o.length
    · by_cases h3 : k.length = o.length
      · simp (disch := omega) only [EV, int_ne, h2, h3, concat3_eq (a := o) (b := c) (c := k) (by omega) (by omega) (by omega), areBetween_eq (l := o ++ c ++ k) (by unfold Low1; simp only [List.length_append]; omega)]
        cases h4 : allIn (o ++ c ++ k) 0 99 with
        | false => rfl
        | true =>
          by_cases h5 : (5 : Int) < (rs.length : Int)
          · simp (disch := omega) only [EV, h5, show ¬ rs.length ≤ 5 by omega]
          · have := containsFunc_SSint (l := rs) (by omega) (p := fun h4_ => Option.bind (F_im_IsSeason_1 h4_.1 ((List.length o : Nat) : Int)) fun y5_ => some y5_) (q := fun ds => !roundB o.length ds) fun ds hds => by
              simp (disch := omega) only [EV, isSeason1_eq (hr.2 ds hds)]
            simp (disch := omega) only [EV, h5, show rs.length ≤ 5 by omega, this]
            rw [List.any_eq_not_all_not]
            simp
      · simp (disch := omega) only [EV, int_ne, h2, h3]
    · simp (disch := omega) only [EV, int_ne, h2]
theorem l10Good_eq {o c k : List Int} {rs : List (List (List Int))} (ho : Low1 o) (hc : Low1 c) (hk : Low1 k) (hr : Low3 rs) : F_sp_l10Good o c k rs = some (seasonB o c k rs) := by
  have hl := hr.1
  have h2 : ∀ r, r < rs.length → L_sp_l10Good_2 ((o.length : Int), ((r : Int), (o, (c, (k, rs))))) 0 = some (bif (rs.getD r []).all (fun q => decide (q.length = o.length) && allIn q 0 99) then .inl () else .inr ()) := fun r hr' => by
    have hd := hr.2 _ (getD_mem (d := []) hr')
    have hdl := hd.1
    have := iter_allR (f := fun v => (S_sp_l10Good_2 ((o.length : Int), ((r : Int), (o, (c, (k, rs))))) v).ev) (n := (rs.getD r []).length) (mk := fun i => (i : Int)) (p := fun i => decide (((rs.getD r []).getD i []).length = o.length) && allIn ((rs.getD r []).getD i []) 0 99) (yes := .inl ()) (no := .inr ()) (fun i hi _ => by
      simp (disch := omega) only [EV, S_sp_l10Good_2, hr', hi, l2Row_eq (hd.2 _ (getD_mem (d := []) hi)), int_eq]
      cases decide (((rs.getD r []).getD i []).length = o.length) <;> cases allIn ((rs.getD r []).getD i []) 0 99 <;> rfl) (by simp (disch := omega) only [EV, S_sp_l10Good_2, hr', Nat.lt_irrefl])
    rw [all_range (rs.getD r []) [] (fun q => decide (q.length = o.length) && allIn q 0 99)] at this
    exact this
  have h0 := iter_allR (f := fun v => (S_sp_l10Good_0 ((o.length : Int), (o, (c, (k, rs)))) v).ev) (n := rs.length) (mk := fun i => (i : Int)) (p := fun i => roundB o.length (rs.getD i [])) (yes := .inl ()) (no := .inr ()) (fun r hr' _ => by
    simp (disch := omega) only [EV, S_sp_l10Good_0, hr', h2 r hr']
    unfold roundB
    cases (rs.getD r []).all (fun q => decide (q.length = o.length) && allIn q 0 99) with
    | false => simp (disch := omega) only [EV]
    | true =>
      by_cases h5 : (5 : Int) < ((rs.getD r []).length : Int)
      · simp (disch := omega) only [EV, hr', h5, show ¬ (rs.getD r []).length ≤ 5 by omega]
      · simp (disch := omega) only [EV, hr', h5, show (rs.getD r []).length ≤ 5 by omega]
        rfl) (by simp (disch := omega) only [EV, S_sp_l10Good_0, Nat.lt_irrefl])
  rw [all_range rs [] (roundB o.length)] at h0
  unfold F_sp_l10Good T_sp_l10Good
  have h0' : L_sp_l10Good_0 ((o.length : Int), (o, (c, (k, rs)))) 0 = _ := h0
  simp (disch := omega) only [EV, h0', l1In_eq, l2Row_eq ho, l2Row_eq hc, l2Row_eq hk, int_eq]
  have e5 : decide ((rs.length : Int) ≤ 5) = decide (rs.length ≤ 5) := by
    rw [decide_eq_decide]; omega
  unfold seasonB
  rw [allIn_append, allIn_append]
  cases rs.all (roundB o.length) with
  | false => simp (disch := omega) only [EV]
  | true =>
    simp (disch := omega) only [EV, e5]
    generalize decide (c.length = o.length) = q1
    generalize decide (k.length = o.length) = q2
    generalize decide (rs.length ≤ 5) = q3
    cases isIn (o.length : Int) 1 5 <;> cases allIn o 0 99 <;> cases allIn c 0 99 <;> cases allIn k 0 99 <;> cases q1 <;> cases q2 <;> cases q3 <;> rfl
end Go.Proofs.Ytlmbhkmaflhagaa
/-
  Plain laws: moves of seasons, potentials, plans.
-/
namespace Go.Proofs.Ytlmbhkmaflhagaa
def wgt (o c k a s : List Int) (x : Nat) : Int :=
  (if s.contains (x : Int) then k.getD x 0 else 0) + ((if s.contains (x : Int) && !a.contains (x : Int) then o.getD x 0 else 0) + (if a.contains (x : Int) && !s.contains (x : Int) then c.getD x 0 else 0))
def srv0 (ds : List (List Int)) (s : List Int) : Int := if s.length = 0 then 0 else serve ds s
def mv (o c k : List Int) (rs : List (List (List Int))) (r : Nat) (a s : List Int) : Int := (List.range o.length).foldl (fun t x => t + wgt o c k a s x) 0 + srv0 (rs.getD r []) s
def mayB (o : List Int) (rs : List (List (List Int))) (r : Nat) (s : List Int) : Bool := risingB s 0 ((o.length : Int) - 1) && (decide (0 < s.length) || decide ((rs.getD r []).length = 0))
theorem foldl_start {α : Type} (w : α → Int) : ∀ (l : List α) (t : Int), l.foldl (fun t x => t + w x) t = t + l.foldl (fun t x => t + w x) 0
  | [], t => by simp
  | x :: l, t => by
    simp only [List.foldl_cons]
    rw [foldl_start w l (t + w x), foldl_start w l (0 + w x)]
    omega
theorem wgt_in {o c k : List Int} {rs : List (List (List Int))} (h : Ssn o c k rs) (a s : List Int) {x : Nat} (hx : x < o.length) : 0 ≤ wgt o c k a s x ∧ wgt o c k a s x ≤ 297 := by
  have h1 := h.ov x hx
  have h2 := h.cv x hx
  have h3 := h.kv x hx
  unfold wgt
  generalize s.contains (x : Int) = b1
  generalize a.contains (x : Int) = b2
  generalize o.getD x 0 = v1 at h1 ⊢
  generalize c.getD x 0 = v2 at h2 ⊢
  generalize k.getD x 0 = v3 at h3 ⊢
  cases b1 <;> cases b2 <;> simp <;> omega
theorem wsum_in {o c k : List Int} {rs : List (List (List Int))} (h : Ssn o c k rs) (a s : List Int) : 0 ≤ (List.range o.length).foldl (fun t x => t + wgt o c k a s x) 0 ∧ (List.range o.length).foldl (fun t x => t + wgt o c k a s x) 0 ≤ 1485 := by
  have := sum_bound (l := List.range o.length) (f := fun x => wgt o c k a s x) (B := 297) (fun x hx => wgt_in h a s (List.mem_range.1 hx)) 0
  have := h.n5
  simp only [List.length_range] at *
  omega
theorem low_of {n : Nat} (hn : n ≤ 7) (hS : SetsOK n) {s : List Int} (hs : s ∈ allSets n) : Low1 s := by
  have h1 := (risingB_iff.1 (hS.rising s hs)).2
  have h2 := (risingB_iff.1 (hS.rising s hs)).1
  have key : ∀ (l : List Int) (k : Int), l.Pairwise (· < ·) → (∀ x ∈ l, k ≤ x ∧ x ≤ 6) → (l.length : Int) ≤ 7 - k ∨ l = [] := by
    intro l
    induction l with
    | nil => intro _ _ _; exact .inr rfl
    | cons x l ih =>
      intro k hp hb
      obtain ⟨h3, h4⟩ := List.pairwise_cons.1 hp
      have hx := hb x List.mem_cons_self
      left
      rcases ih (x + 1) h4 (fun y hy => by have := h3 y hy; have := hb y (List.mem_cons_of_mem _ hy); omega) with h5 | h5
      · simp only [List.length_cons]; omega
      · subst h5; simp; omega
  rcases key s 0 h1 (fun x hx => by have := h2 x hx; omega) with h | h
  · unfold Low1; omega
  · subst h; unfold Low1; simp
theorem srv0_in {o c k : List Int} {rs : List (List (List Int))} (h : Ssn o c k rs) {r : Nat} (hr : r < rs.length) {s : List Int} (hs : Places s o.length) : 0 ≤ srv0 (rs.getD r []) s ∧ srv0 (rs.getD r []) s ≤ 693 := by
  unfold srv0
  split
  · omega
  · exact serve_in (h.fld r hr) hs (by omega)
theorem l10May_eq {o c k : List Int} {rs : List (List (List Int))} (h : Ssn o c k rs) {r : Nat} (hr : r < rs.length) {s : List Int} (hs : Low1 s) : F_sp_l10May o c k rs (r : Int) s = some (mayB o rs r s) := by
  have h5 := h.n5
  have h1 := h.n1
  unfold F_sp_l10May T_sp_l10May mayB
  simp (disch := omega) only [EV, l1Rising_eq hs]
  cases risingB s 0 ((o.length : Int) - 1) with
  | false => rfl
  | true =>
    by_cases hp : 0 < s.length
    · simp (disch := omega) only [EV, hp, show ((0 : Int) < (s.length : Int)) by omega]
      simp
    · have e : (((rs.getD r []).length : Int) == 0) = decide ((rs.getD r []).length = 0) := int_eq _ 0
      simp (disch := omega) only [EV, hp, show ¬ ((0 : Int) < (s.length : Int)) by omega, hr, e]
      simp
theorem isPossible_eq {o c k : List Int} {rs : List (List (List Int))} (h : Ssn o c k rs) {r : Nat} (hr : r < rs.length) {s : List Int} (hs : Low1 s) : F_im_Season_isPossible o c k rs (r : Int) s = some (mayB o rs r s) := by
  have h5 := h.n5
  have h1 := h.n1
  unfold F_im_Season_isPossible T_im_Season_isPossible mayB
  simp (disch := omega) only [EV, isRising_eq hs]
  cases risingB s 0 ((o.length : Int) - 1) with
  | false => rfl
  | true =>
    by_cases hp : 0 < s.length
    · simp (disch := omega) only [EV, hp, show ((0 : Int) < (s.length : Int)) by omega]
      simp
    · have e : (((rs.getD r []).length : Int) == 0) = decide ((rs.getD r []).length = 0) := int_eq _ 0
      simp (disch := omega) only [EV, hp, show ¬ ((0 : Int) < (s.length : Int)) by omega, hr, e]
      simp
theorem serve0_eq {o : List Int} {ds : List (List Int)} (hf : Fld o ds) {s : List Int} (hs : Places s o.length) (hm : 0 < s.length ∨ ds.length = 0) : F_sp_l2Serve o ds s = some (srv0 ds s) := by
  unfold srv0
  split
  · have hd : ds = [] := List.eq_nil_of_length_eq_zero (by omega)
    subst hd
    unfold F_sp_l2Serve T_sp_l2Serve
    have h0 : L_sp_l2Serve_0 (s, (o, [])) ((0 : Int), (0 : Int)) = some 0 := by
      unfold L_sp_l2Serve_0
      rw [iter_eq]
      rfl
    simp (disch := omega) only [EV, h0]
  · exact l2Serve_eq hf hs (by omega)
theorem l10Move_eq {o c k : List Int} {rs : List (List (List Int))} (h : Ssn o c k rs) (hS : SetsOK o.length) {r : Nat} (hr : r < rs.length) {a s : List Int} (ha : a ∈ allSets o.length) (hs : s ∈ allSets o.length) (hm : mayB o rs r s = true) :
    F_sp_l10Move o c k rs (r : Int) a s = some (mv o c k rs r a s) := by
  have h5 := h.n5
  have hcl := h.cl
  have hkl := h.kl
  have hp : Places s o.length := Places.of (low_of (by omega) hS hs) (hS.rising s hs)
  simp only [mayB, Bool.and_eq_true, Bool.or_eq_true, decide_eq_true_eq] at hm
  have hv := srv0_in h hr hp
  unfold F_sp_l10Move T_sp_l10Move
  have h0 := (iter_fold (f := fun v => (S_sp_l10Move_0 (a, (s, (o, (c, (k, rs))))) v).ev) (n := o.length) (mk := fun i t => (t, (i : Int))) (I := fun i t => 0 ≤ t ∧ t ≤ 693 + 297 * (i : Int)) (g := fun t x => t + wgt o c k a s x) (fin := fun t => t) (s0 := srv0 (rs.getD r []) s) (by omega)
    (fun x t hx hI => by
      have h1 := h.ov x hx
      have h2 := h.cv x hx
      have h3 := h.kv x hx
      have hw := wgt_in h a s hx
      refine ⟨?_, by omega, by omega⟩
      have hxc : x < c.length := by omega
      have hxk : x < k.length := by omega
      simp (disch := omega) only [EV, S_sp_l10Move_0, hx, hxc, hxk, hS.has' s hs x hx, hS.has' a ha x hx]
      unfold wgt
      generalize s.contains (x : Int) = b1
      generalize a.contains (x : Int) = b2
      cases b1 <;> cases b2 <;> simp <;> omega)
    (fun s _ => by simp (disch := omega) only [EV, S_sp_l10Move_0, Nat.lt_irrefl])).1
  have h0' : L_sp_l10Move_0 (a, (s, (o, (c, (k, rs))))) (srv0 (rs.getD r []) s, (0 : Int)) = _ := h0
  simp (disch := omega) only [EV, hr, serve0_eq (h.fld r hr) hp hm.2, h0']
  unfold mv
  rw [foldl_start]
  congr 1
  omega
theorem move_eq {o c k : List Int} {rs : List (List (List Int))} (h : Ssn o c k rs) (hS : SetsOK o.length) {r : Nat} (hr : r < rs.length) {a s : List Int} (ha : a ∈ allSets o.length) (hs : s ∈ allSets o.length) :
    F_im_Season_move o c k rs (r : Int) a s = some (mv o c k rs r a s) := by
  have h5 := h.n5
  have hcl := h.cl
  have hkl := h.kl
  have hp : Places s o.length := Places.of (low_of (by omega) hS hs) (hS.rising s hs)
  have hv := srv0_in h hr hp
  have hws := wsum_in h a s
  unfold F_im_Season_move T_im_Season_move
  have h0 := (iter_fold (f := fun v => (S_im_Season_move_0 ((r : Int), (s, ((codeOf a : Int), ((codeOf s : Int), ((o.length : Int), (o, (c, (k, rs)))))))) v).ev) (n := o.length) (mk := fun i t => (t, (i : Int))) (I := fun i t => 0 ≤ t ∧ t ≤ 297 * (i : Int)) (g := fun t x => t + wgt o c k a s x) (fin := fun t => t) (s0 := 0) (by omega)
    (fun x t hx hI => by
      have h1 := h.ov x hx
      have h2 := h.cv x hx
      have h3 := h.kv x hx
      have hw := wgt_in h a s hx
      refine ⟨?_, by omega, by omega⟩
      have hxc : x < c.length := by omega
      have hxk : x < k.length := by omega
      simp (disch := omega) only [EV, S_im_Season_move_0, hx, hxc, hxk, hS.has s hs x hx, hS.has a ha x hx]
      unfold wgt
      generalize s.contains (x : Int) = b1
      generalize a.contains (x : Int) = b2
      cases b1 <;> cases b2 <;> simp <;> omega)
    (fun s _ => by simp (disch := omega) only [EV, S_im_Season_move_0, Nat.lt_irrefl])).1
  have h0' : L_im_Season_move_0 ((r : Int), (s, ((codeOf a : Int), ((codeOf s : Int), ((o.length : Int), (o, (c, (k, rs)))))))) ((0 : Int), (0 : Int)) = _ := h0
  simp (disch := omega) only [EV, hS.bagOf a ha, hS.bagOf s hs, h0']
  unfold mv srv0 at *
  by_cases hz : s.length = 0
  · simp (disch := omega) only [EV, hz, show ¬ ((0 : Int) < ((0 : Nat) : Int)) by omega]
    simp
  · rw [if_neg hz] at *
    simp (disch := omega) only [EV, show ((0 : Int) < (s.length : Int)) by omega, hr, service_eq (h.fld r hr) hp (by omega)]
theorem pow_wrap {n : Nat} (h : n ≤ 7) : IntKind.wrap .i64 ((1 : Int) * 2 ^ (min n (IntKind.bits .i64))) = ((2 ^ n : Nat) : Int) := by
  have : n = 0 ∨ n = 1 ∨ n = 2 ∨ n = 3 ∨ n = 4 ∨ n = 5 ∨ n = 6 ∨ n = 7 := by omega
  rcases this with rfl | rfl | rfl | rfl | rfl | rfl | rfl | rfl <;> rfl
theorem pow_le {n : Nat} (h : n ≤ 7) : 1 ≤ 2 ^ n ∧ 2 ^ n ≤ 128 := by
  have : n = 0 ∨ n = 1 ∨ n = 2 ∨ n = 3 ∨ n = 4 ∨ n = 5 ∨ n = 6 ∨ n = 7 := by omega
  rcases this with rfl | rfl | rfl | rfl | rfl | rfl | rfl | rfl <;> simp
def rowB (n : Nat) (row : List Int) : Bool := decide (row.length = 2 ^ n) && allIn row (-1000000) 1000000
def tabB (o : List Int) (rs : List (List (List Int))) (tb : List (List Int)) : Bool := decide (tb.length = rs.length + 1) && tb.all (rowB o.length)
structure Tab (o : List Int) (rs : List (List (List Int))) (tb : List (List Int)) : Prop where
  len : tb.length = rs.length + 1
  row : ∀ r, r ≤ rs.length → (tb.getD r []).length = 2 ^ o.length
  val : ∀ r i, r ≤ rs.length → i < 2 ^ o.length → -1000000 ≤ (tb.getD r []).getD i 0 ∧ (tb.getD r []).getD i 0 ≤ 1000000
theorem tab_of {o : List Int} {rs : List (List (List Int))} {tb : List (List Int)} (h : tabB o rs tb = true) : Tab o rs tb := by
  simp only [tabB, Bool.and_eq_true, decide_eq_true_eq, List.all_eq_true, rowB] at h
  have h1 : ∀ r, r ≤ rs.length → _ := fun r hr => h.2 _ (getD_mem (d := []) (show r < tb.length by omega))
  exact ⟨h.1, fun r hr => (h1 r hr).1, fun r i hr hi => allIn_getD (h1 r hr).2 (by rw [(h1 r hr).1]; exact hi)⟩
def okAt (o c k : List Int) (rs : List (List (List Int))) (tb : List (List Int)) (r : Nat) (a s : List Int) : Bool := decide ((tb.getD r []).getD (codeOf a) 0 ≤ mv o c k rs r a s + (tb.getD (r + 1) []).getD (codeOf s) 0)
def setAt (n i : Nat) : List Int := (allSets n).getD i []
def safeB (o c k : List Int) (rs : List (List (List Int))) (tb : List (List Int)) : Bool := (List.range (2 ^ o.length)).all fun i => decide ((tb.getD rs.length []).getD i 0 ≤ 0) &&
  (List.range rs.length).all fun r => (List.range (2 ^ o.length)).all fun j => !mayB o rs r (setAt o.length j) || okAt o c k rs tb r (setAt o.length i) (setAt o.length j)
theorem setAt_mem {n i : Nat} (hS : SetsOK n) (hi : i < 2 ^ n) : setAt n i ∈ allSets n := getD_mem (by rw [hS.len]; exact hi)
theorem mv_in {o c k : List Int} {rs : List (List (List Int))} (h : Ssn o c k rs) (hS : SetsOK o.length) {r : Nat} (hr : r < rs.length) (a : List Int) {s : List Int} (hs : s ∈ allSets o.length) : 0 ≤ mv o c k rs r a s ∧ mv o c k rs r a s ≤ 2178 := by
  have h5 := h.n5
  have hv := srv0_in h hr (Places.of (low_of (by omega) hS hs) (hS.rising s hs))
  have hws := wsum_in h a s
  unfold mv
  omega
theorem l10Sets_eq {o : List Int} (c k : List Int) (rs : List (List (List Int))) (h7 : o.length ≤ 7) (hS : SetsOK o.length) : F_sp_l10Sets o c k rs = some (allSets o.length) := by
  have hlen := hS.len
  have hp := pow_le h7
  unfold F_sp_l10Sets T_sp_l10Sets
  have e : (setsOf o.length).length + 1 = 2 ^ o.length := by rw [← hlen]; rfl
  have hg : (1 + (setsOf o.length).length) * 24 ≤ 140737488355328 := by omega
  simp (disch := omega) only [EV, hS.sp, List.length_singleton, hg]
  rfl
theorem all_filter {α : Type} (l : List α) (m p : α → Bool) : (l.filter m).all p = l.all fun x => !m x || p x := by
  induction l with
  | nil => rfl
  | cons x l ih =>
    rw [List.filter_cons]
    cases h : m x with
    | true => simp [h, ih]
    | false => simp [h, ih]
theorem SetsOK.inj {n : Nat} (hS : SetsOK n) {s t : List Int} (hs : s ∈ allSets n) (ht : t ∈ allSets n) (h : codeOf s = codeOf t) : s = t := by
  have h1 := hS.list s hs
  have h2 := hS.list t ht
  rw [h, h2] at h1
  exact (Option.some.inj h1).symm
def ofCode (n b : Nat) : List Int := ((allSets n).find? fun s => Nat.beq (codeOf s) b).getD []
theorem ofCode_ok {n b : Nat} (hS : SetsOK n) (hb : b < 2 ^ n) : ofCode n b ∈ allSets n ∧ codeOf (ofCode n b) = b := by
  obtain ⟨s, h1, h2⟩ := hS.all b hb
  unfold ofCode
  cases hf : (allSets n).find? fun s => Nat.beq (codeOf s) b with
  | none =>
    have := List.find?_eq_none.1 hf s h1
    rw [h2] at this
    simp at this
  | some t =>
    have h3 := List.find?_some hf
    exact ⟨List.mem_of_find?_eq_some hf, Nat.eq_of_beq_eq_true h3⟩
theorem wrapU {n : Int} (h0 : 0 ≤ n) (h1 : n < 128) : IntKind.wrap .u64 n = n := by
  have e : IntKind.wrap .u64 n = n % 18446744073709551616 := rfl
  rw [e]
  omega
theorem lists_eq {n : Nat} (h7 : n ≤ 7) (hS : SetsOK n) {p : HL [.slice (.int .i64)] → Option Bool} {q : List Int → Bool} (hp : ∀ s ∈ allSets n, p (s, ()) = some (q s)) : F_im_lists (n : Int) p = some ((allSets n).filter q) := by
  have hlen := hS.len
  have hpw := pow_le h7
  have e : (setsOf n).length + 1 = 2 ^ n := by rw [← hlen]; rfl
  have hg : (1 + (setsOf n).length) * 24 ≤ 140737488355328 := by omega
  have e2 : [([] : List Int)] ++ setsOf n = allSets n := rfl
  unfold F_im_lists T_im_lists
  have h0 := (iter_fold (f := fun v => (S_im_lists_0 (p, ((((allSets n).length : Nat) : Int), allSets n)) v).ev) (n := (allSets n).length) (mk := fun i (_ : Unit) => ((i : Int), ((allSets n).take i).filter q)) (I := fun _ _ => True) (g := fun s _ => s) (fin := fun _ => (allSets n).filter q) (s0 := ()) trivial
    (fun i s hi _ => ⟨by
      have hm := getD_mem (d := []) hi
      have hl : (((allSets n).take i).filter q).length ≤ 128 := by
        have h1 := List.length_filter_le q ((allSets n).take i)
        have h2 := List.length_take_le i (allSets n)
        omega
      have hg2 : ((((allSets n).take i).filter q).length + 1) * 24 ≤ 140737488355328 := by omega
      have et : (allSets n).take (i + 1) = (allSets n).take i ++ [(allSets n).getD i []] := by
        rw [List.take_succ_eq_append_getElem hi, List.getD_eq_getElem?_getD, List.getElem?_eq_getElem hi]
        rfl
      simp (disch := omega) only [EV, S_im_lists_0, hi, hp _ hm, List.length_singleton, hg2]
      rw [et, List.filter_append, List.filter_cons, List.filter_nil]
      cases q ((allSets n).getD i []) with
      | true => rfl
      | false => simp, trivial⟩)
    (fun s _ => by simp (disch := omega) only [EV, S_im_lists_0, Nat.lt_irrefl, List.take_length])).1
  have h0' : L_im_lists_0 (p, ((((allSets n).length : Nat) : Int), allSets n)) ((0 : Int), []) = some ((allSets n).filter q) := h0
  simp (disch := omega) only [EV, hS.im, List.length_singleton, hg, e2, h0']
theorem foldl_max_le (b : Int) : ∀ (l : List Int) (a : Int), l.foldl (fun a x => max a x) a ≤ b ↔ a ≤ b ∧ ∀ x ∈ l, x ≤ b
  | [], a => by simp
  | x :: l, a => by
    rw [List.foldl_cons, foldl_max_le b l]
    simp only [List.mem_cons, forall_eq_or_imp, Int.max_le, and_assoc]
def safeI (o c k : List Int) (rs : List (List (List Int))) (tb : List (List Int)) : Bool := (List.range rs.length).all fun r => (List.range (2 ^ o.length)).all fun b => ((allSets o.length).filter (mayB o rs r)).all fun s => okAt o c k rs tb r (ofCode o.length b) s
theorem safe_same {o c k : List Int} {rs : List (List (List Int))} {tb : List (List Int)} (hS : SetsOK o.length) (ht : Tab o rs tb) :
    safeB o c k rs tb = (decide ((tb.getD rs.length []).foldl (fun a x => max a x) ((tb.getD rs.length []).getD 0 0) ≤ 0) && safeI o c k rs tb) := by
  have hrow := ht.row rs.length (Nat.le_refl _)
  have hpw : 0 < 2 ^ o.length := Nat.pos_of_ne_zero (by simp)
  rw [Bool.eq_iff_iff]
  simp only [safeB, safeI, all_filter, List.all_eq_true, List.mem_range, Bool.and_eq_true, decide_eq_true_eq, foldl_max_le]
  constructor
  · intro h
    refine ⟨⟨(h 0 hpw).1, fun x hx => ?_⟩, fun r hr b hb s hs => ?_⟩
    · obtain ⟨i, hi, e⟩ := List.getElem_of_mem hx
      have := (h i (by omega)).1
      rw [List.getD_eq_getElem?_getD, List.getElem?_eq_getElem hi, Option.getD_some, e] at this
      exact this
    · obtain ⟨h1, h2⟩ := ofCode_ok hS hb
      obtain ⟨i, hi, e⟩ := List.getElem_of_mem h1
      obtain ⟨j, hj, e'⟩ := List.getElem_of_mem hs
      have := (h i (by rw [← hS.len]; exact hi)).2 r hr j (by rw [← hS.len]; exact hj)
      have e3 : setAt o.length i = ofCode o.length b := by unfold setAt; rw [List.getD_eq_getElem?_getD, List.getElem?_eq_getElem hi, Option.getD_some, e]
      have e4 : setAt o.length j = s := by unfold setAt; rw [List.getD_eq_getElem?_getD, List.getElem?_eq_getElem hj, Option.getD_some, e']
      rw [e3, e4] at this
      exact this
  · rintro ⟨⟨_, h1⟩, h2⟩ i hi
    refine ⟨h1 _ (getD_mem (by omega)), fun r hr j hj => ?_⟩
    have hia := setAt_mem hS hi
    have hb := hS.lt _ hia
    have := h2 r hr _ hb _ (setAt_mem hS hj)
    have e : ofCode o.length (codeOf (setAt o.length i)) = setAt o.length i := hS.inj (ofCode_ok hS hb).1 hia (ofCode_ok hS hb).2
    rw [e] at this
    exact this
end Go.Proofs.Ytlmbhkmaflhagaa
/-
  Plain laws: the least costs from each round on.
-/
namespace Go.Proofs.Ytlmbhkmaflhagaa
def lstMin : List Int → Int
  | [] => 0
  | x :: l => l.foldl min x
theorem foldl_min_spec : ∀ (l : List Int) (a : Int), (l.foldl min a = a ∨ l.foldl min a ∈ l) ∧ l.foldl min a ≤ a ∧ ∀ x ∈ l, l.foldl min a ≤ x
  | [], a => ⟨.inl rfl, Int.le_refl _, fun x h => by cases h⟩
  | y :: l, a => by
    obtain ⟨h1, h2, h3⟩ := foldl_min_spec l (min a y)
    simp only [List.foldl_cons]
    refine ⟨?_, by omega, fun x hx => ?_⟩
    · rcases h1 with h1 | h1
      · rw [h1]
        rcases Int.le_total a y with h | h
        · left; omega
        · right; rw [Int.min_eq_right h]; exact List.mem_cons_self
      · exact .inr (List.mem_cons_of_mem _ h1)
    · rcases List.mem_cons.1 hx with rfl | hx
      · omega
      · exact h3 x hx
theorem lstMin_spec {l : List Int} (h : l ≠ []) : lstMin l ∈ l ∧ ∀ x ∈ l, lstMin l ≤ x := by
  cases l with
  | nil => exact absurd rfl h
  | cons a l =>
    obtain ⟨h1, h2, h3⟩ := foldl_min_spec l a
    refine ⟨?_, fun x hx => ?_⟩
    · rcases h1 with h1 | h1
      · show l.foldl min a ∈ a :: l
        rw [h1]; exact List.mem_cons_self
      · exact List.mem_cons_of_mem _ h1
    · rcases List.mem_cons.1 hx with rfl | hx
      · exact h2
      · exact h3 x hx
theorem lstMin_eq {l : List Int} {m : Int} (h1 : m ∈ l) (h2 : ∀ x ∈ l, m ≤ x) : lstMin l = m := by
  obtain ⟨h3, h4⟩ := lstMin_spec (l := l) (fun e => by rw [e] at h1; cases h1)
  have := h4 m h1
  have := h2 _ h3
  omega
def firstMin (g : List Int → Int) (l : List (List Int)) : List Int := (l.find? fun s => decide (g s = lstMin (l.map g))).getD []
theorem find_first {p : List Int → Bool} : ∀ {l : List (List Int)} {i : Nat}, i < l.length → p (l.getD i []) = true → (∀ j, j < i → p (l.getD j []) = false) → l.find? p = some (l.getD i [])
  | [], i, h, _, _ => by simp at h
  | a :: l, 0, _, h, _ => by simp at h; simp [h]
  | a :: l, i + 1, hi, h, hf => by
    have h0 := hf 0 (by omega)
    simp at h0
    simp only [List.find?_cons, h0]
    have := find_first (l := l) (i := i) (by simpa using hi) (by simpa using h) fun j hj => by simpa using hf (j + 1) (by omega)
    simpa using this
theorem firstMin_at {g : List Int → Int} {l : List (List Int)} {i : Nat} (hi : i < l.length) (h1 : ∀ s ∈ l, g (l.getD i []) ≤ g s) (h2 : ∀ j, j < i → g (l.getD i []) < g (l.getD j [])) : firstMin g l = l.getD i [] := by
  have hm : lstMin (l.map g) = g (l.getD i []) := lstMin_eq (List.mem_map_of_mem (getD_mem hi)) fun x hx => by
    obtain ⟨s, hs, rfl⟩ := List.mem_map.1 hx
    exact h1 s hs
  unfold firstMin
  rw [find_first hi (by rw [hm]; simp) fun j hj => by
    have := h2 j hj
    rw [hm]
    simp only [decide_eq_false_iff_not]
    omega]
  rfl
theorem firstMin_spec {g : List Int → Int} {l : List (List Int)} (h : l ≠ []) : firstMin g l ∈ l ∧ g (firstMin g l) = lstMin (l.map g) := by
  obtain ⟨h1, _⟩ := lstMin_spec (l := l.map g) (by simpa using h)
  obtain ⟨s, hs, e⟩ := List.mem_map.1 h1
  unfold firstMin
  cases hf : l.find? fun s => decide (g s = lstMin (l.map g)) with
  | none =>
    have := List.find?_eq_none.1 hf s hs
    simp at this
    exact absurd e this
  | some t =>
    have := List.find?_some hf
    exact ⟨List.mem_of_find?_eq_some hf, by simpa using this⟩
theorem least_eq {l : List (List Int)} (h0 : 0 < l.length) (hl : (l.length : Int) ≤ 1048576) {p : HL [.slice (.int .i64)] → Option Int} {g : List Int → Int} (hp : ∀ s ∈ l, p (s, ()) = some (g s)) : F_im_least l p = some (firstMin g l) := by
  unfold F_im_least T_im_least
  have h := iter_fold (f := fun v => (S_im_least_0 (p, (l, (l.length : Int))) v).ev) (n := l.length) (mk := fun i s => (s, (i : Int))) (I := fun i s => ∃ k, k < l.length ∧ s = l.getD k [] ∧ (∀ j, j < i → g s ≤ g (l.getD j [])) ∧ ∀ j, j < k → g s < g (l.getD j [])) (g := fun s i => if g (l.getD i []) < g s then l.getD i [] else s) (fin := fun s => s) (s0 := l.getD 0 []) ⟨0, h0, rfl, fun j hj => by omega, fun j hj => by omega⟩
    (fun i s hi hI => by
      obtain ⟨k, hk, rfl, hle, hlt⟩ := hI
      have hm := getD_mem (d := []) hi
      have hm2 := getD_mem (d := []) hk
      by_cases hq : g (l.getD i []) < g (l.getD k [])
      · refine ⟨?_, ?_⟩
        · simp (disch := omega) only [EV, S_im_least_0, hi, hp _ hm, hp _ hm2, hq]
          rfl
        · rw [if_pos hq]
          refine ⟨i, hi, rfl, fun j hj => ?_, fun j hj => ?_⟩
          · by_cases e : j = i
            · rw [e]; omega
            · have := hle j (by omega); omega
          · have := hle j hj; omega
      · refine ⟨?_, ?_⟩
        · simp (disch := omega) only [EV, S_im_least_0, hi, hp _ hm, hp _ hm2, hq]
          rfl
        · rw [if_neg hq]
          refine ⟨k, hk, rfl, fun j hj => ?_, hlt⟩
          by_cases e : j = i
          · rw [e]; omega
          · exact hle j (by omega))
    (fun s _ => by simp (disch := omega) only [EV, S_im_least_0, Nat.lt_irrefl])
  have h1 : L_im_least_0 (p, (l, (l.length : Int))) (l.getD 0 [], (0 : Int)) = _ := h.1
  obtain ⟨k, hk, e, hle, hlt⟩ := h.2
  rw [e] at h1 hle hlt
  have h1' : L_im_least_0 (p, (l, (l.length : Int))) (l.getD 0 [], (0 : Int)) = some (firstMin g l) := by
    rw [h1]
    congr 1
    refine (firstMin_at hk (fun s hs => ?_) hlt).symm
    obtain ⟨j, hj, e⟩ := List.getElem_of_mem hs
    have := hle j hj
    rw [show l.getD j [] = s by rw [List.getD_eq_getElem?_getD, List.getElem?_eq_getElem hj, Option.getD_some, e]] at this
    exact this
  simp (disch := omega) only [EV, show inR (0 : Int) l.length = true from inR_int (by omega) (by omega), show Int.toNat 0 = 0 from rfl, h1']
def cst (o c k : List Int) (rs : List (List (List Int))) (r : Nat) (nx a s : List Int) : Int := mv o c k rs r a s + nx.getD (codeOf s) 0
def choice (o : List Int) (rs : List (List (List Int))) (r : Nat) : List (List Int) := (allSets o.length).filter (mayB o rs r)
def bst (o c k : List Int) (rs : List (List (List Int))) (r : Nat) (nx a : List Int) : Int := lstMin ((choice o rs r).map (cst o c k rs r nx a))
def rowFn (o c k : List Int) (rs : List (List (List Int))) (r : Nat) (nx : List Int) : List Int := (List.range (2 ^ o.length)).map fun b => bst o c k rs r nx (ofCode o.length b)
def futStep (o c k : List Int) (rs : List (List (List Int))) (t : List (List Int)) (i : Nat) : List (List Int) := rowFn o c k rs (rs.length - 1 - i) (t.getD 0 []) :: t
def futs (o c k : List Int) (rs : List (List (List Int))) : List (List Int) := (List.range rs.length).foldl (futStep o c k rs) [List.replicate (2 ^ o.length) 0]
theorem choice_pos {o c k : List Int} {rs : List (List (List Int))} (h : Ssn o c k rs) (hS : SetsOK o.length) (r : Nat) : ([0] : List Int) ∈ choice o rs r := by
  have h1 := h.n1
  have hr : risingB [0] 0 ((o.length : Int) - 1) = true := by
    rw [risingB_iff]
    refine ⟨fun x hx => ?_, by simp⟩
    simp only [List.mem_singleton] at hx
    omega
  refine List.mem_filter.2 ⟨hS.mem _ hr, ?_⟩
  simp [mayB, hr]
theorem choice_len {o : List Int} (h7 : o.length ≤ 7) (hS : SetsOK o.length) (rs : List (List (List Int))) (r : Nat) : (choice o rs r).length ≤ 128 := by
  have h1 := List.length_filter_le (mayB o rs r) (allSets o.length)
  have h2 := hS.len
  have h3 := pow_le h7
  unfold choice
  omega
structure RowOK (n : Nat) (M : Int) (row : List Int) : Prop where
  len : row.length = 2 ^ n
  val : ∀ i, i < 2 ^ n → 0 ≤ row.getD i 0 ∧ row.getD i 0 ≤ M
theorem cst_in {o c k : List Int} {rs : List (List (List Int))} (h : Ssn o c k rs) (hS : SetsOK o.length) {r : Nat} (hr : r < rs.length) {M : Int} {nx : List Int} (hn : RowOK o.length M nx) (a : List Int) {s : List Int} (hs : s ∈ allSets o.length) : 0 ≤ cst o c k rs r nx a s ∧ cst o c k rs r nx a s ≤ M + 2178 := by
  have h1 := mv_in h hS hr a hs
  have h2 := hn.val _ (hS.lt s hs)
  unfold cst
  omega
theorem bst_in {o c k : List Int} {rs : List (List (List Int))} (h : Ssn o c k rs) (hS : SetsOK o.length) {r : Nat} (hr : r < rs.length) {M : Int} {nx : List Int} (hn : RowOK o.length M nx) (a : List Int) : 0 ≤ bst o c k rs r nx a ∧ bst o c k rs r nx a ≤ M + 2178 := by
  have hne : (choice o rs r).map (cst o c k rs r nx a) ≠ [] := fun e => by
    have := List.mem_map_of_mem (f := cst o c k rs r nx a) (choice_pos h hS r)
    rw [e] at this
    cases this
  obtain ⟨h1, _⟩ := lstMin_spec hne
  obtain ⟨s, h2, h3⟩ := List.mem_map.1 h1
  have := cst_in h hS hr hn a (List.mem_filter.1 h2).1
  unfold bst
  rw [← h3]
  exact this
theorem rowFn_getD {o c k : List Int} {rs : List (List (List Int))} {r : Nat} {nx : List Int} {b : Nat} (hb : b < 2 ^ o.length) : (rowFn o c k rs r nx).getD b 0 = bst o c k rs r nx (ofCode o.length b) := by
  unfold rowFn
  simp [List.getD_eq_getElem?_getD, hb]
theorem rowFn_ok {o c k : List Int} {rs : List (List (List Int))} (h : Ssn o c k rs) (hS : SetsOK o.length) {r : Nat} (hr : r < rs.length) {M : Int} {nx : List Int} (hn : RowOK o.length M nx) : RowOK o.length (M + 2178) (rowFn o c k rs r nx) :=
  ⟨by simp [rowFn], fun i hi => by rw [rowFn_getD hi]; exact bst_in h hS hr hn _⟩
theorem row_ext {n : Nat} {a b : List Int} (ha : a.length = 2 ^ n) (hb : b.length = 2 ^ n) (h : ∀ i, i < 2 ^ n → a.getD i 0 = b.getD i 0) : a = b := by
  refine List.ext_getElem (by omega) fun i hi hi' => ?_
  have := h i (by omega)
  rw [List.getD_eq_getElem?_getD, List.getD_eq_getElem?_getD, List.getElem?_eq_getElem hi, List.getElem?_eq_getElem hi'] at this
  exact this
def FI (n i : Nat) (t : List (List Int)) : Prop := t.length = i + 1 ∧ RowOK n (2178 * (i : Int)) (t.getD 0 [])
theorem FI.zero (n : Nat) : FI n 0 [List.replicate (2 ^ n) 0] := ⟨rfl, by simp, fun i hi => by simp [List.getD_eq_getElem?_getD, hi]⟩
theorem FI.step {o c k : List Int} {rs : List (List (List Int))} (h : Ssn o c k rs) (hS : SetsOK o.length) {i : Nat} (hi : i < rs.length) {t : List (List Int)} (hI : FI o.length i t) : FI o.length (i + 1) (futStep o c k rs t i) := by
  refine ⟨by simp [futStep, hI.1], ?_⟩
  have := rowFn_ok h hS (r := rs.length - 1 - i) (by omega) hI.2
  have e : (2178 * ((i + 1 : Nat) : Int)) = 2178 * (i : Int) + 2178 := by omega
  rw [e]
  exact this
end Go.Proofs.Ytlmbhkmaflhagaa
/-
  Plain laws: the least costs from each round on, as the program finds them.
-/
namespace Go.Proofs.Ytlmbhkmaflhagaa
theorem nil_mem {n : Nat} (hS : SetsOK n) : ([] : List Int) ∈ allSets n := hS.mem [] rfl
theorem mid_getD {α : Type} (P : List α) (x d : α) (t : List α) : (P ++ x :: t).getD P.length d = x := by simp [List.getD_eq_getElem?_getD]
theorem mid_next {α : Type} (P : List α) (x d : α) (t : List α) : (P ++ x :: t).getD (P.length + 1) d = t.getD 0 d := by
  rw [List.getD_eq_getElem?_getD, List.getElem?_append_right (by omega), List.getD_eq_getElem?_getD, show P.length + 1 - P.length = 0 + 1 by omega, List.getElem?_cons_succ]
theorem mid_set {α : Type} (P : List α) (x y : α) (t : List α) : (P ++ x :: t).set P.length y = P ++ y :: t := by
  rw [List.set_append_right _ _ (Nat.le_refl _)]
  simp
theorem pow_wrapU {n : Nat} (h : n ≤ 7) : IntKind.wrap .u64 ((1 : Int) * 2 ^ (min n (IntKind.bits .u64))) = ((2 ^ n : Nat) : Int) := by
  have : n = 0 ∨ n = 1 ∨ n = 2 ∨ n = 3 ∨ n = 4 ∨ n = 5 ∨ n = 6 ∨ n = 7 := by omega
  rcases this with rfl | rfl | rfl | rfl | rfl | rfl | rfl | rfl <;> rfl
theorem wrapU' {n m : Int} (h0 : 0 ≤ n) (h1 : n < 1000000) (e : n = m := by omega) : IntKind.wrap .u64 n = m := by
  have e' : IntKind.wrap .u64 n = n % 18446744073709551616 := rfl
  rw [e']
  omega
theorem choice_bound {o c k : List Int} {rs : List (List (List Int))} (h : Ssn o c k rs) (hS : SetsOK o.length) (r : Nat) : 0 < (choice o rs r).length ∧ ((choice o rs r).length : Int) ≤ 1048576 := by
  have h5 := h.n5
  have := choice_len (o := o) (by omega) hS rs r
  exact ⟨List.length_pos_of_mem (choice_pos h hS r), by omega⟩
structure FJ (o c k : List Int) (rs : List (List (List Int))) (i : Nat) (t : List (List Int)) : Prop where
  len : t.length = i + 1
  ok : ∀ j, j ≤ i → RowOK o.length (2178 * (i : Int)) (t.getD j [])
  row : ∀ j, j < i → t.getD j [] = rowFn o c k rs (rs.length - i + j) (t.getD (j + 1) [])
theorem RowOK.le {n : Nat} {M M' : Int} {row : List Int} (h : RowOK n M row) (hM : M ≤ M') : RowOK n M' row := ⟨h.len, fun i hi => ⟨(h.val i hi).1, by have := (h.val i hi).2; omega⟩⟩
theorem FJ.zero (o c k : List Int) (rs : List (List (List Int))) : FJ o c k rs 0 [List.replicate (2 ^ o.length) 0] :=
  ⟨rfl, fun j hj => by
    have : j = 0 := by omega
    subst this
    exact (FI.zero o.length).2, fun j hj => by omega⟩
theorem FJ.step {o c k : List Int} {rs : List (List (List Int))} (h : Ssn o c k rs) (hS : SetsOK o.length) {i : Nat} (hi : i < rs.length) {t : List (List Int)} (hI : FJ o c k rs i t) : FJ o c k rs (i + 1) (futStep o c k rs t i) := by
  refine ⟨by simp [futStep, hI.len], fun j hj => ?_, fun j hj => ?_⟩
  · cases j with
    | zero =>
      have := rowFn_ok h hS (r := rs.length - 1 - i) (by omega) (hI.ok 0 (by omega))
      exact this.le (by omega)
    | succ j => exact (hI.ok j (by omega)).le (by omega)
  · cases j with
    | zero =>
      show rowFn o c k rs (rs.length - 1 - i) (t.getD 0 []) = _
      rw [show rs.length - (i + 1) + 0 = rs.length - 1 - i by omega]
      rfl
    | succ j =>
      show t.getD j [] = _
      rw [hI.row j (by omega), show rs.length - (i + 1) + (j + 1) = rs.length - i + j by omega]
      rfl
theorem futs_FJ {o c k : List Int} {rs : List (List (List Int))} (h : Ssn o c k rs) (hS : SetsOK o.length) : FJ o c k rs rs.length (futs o c k rs) := by
  have key : ∀ i, i ≤ rs.length → FJ o c k rs i ((List.range i).foldl (futStep o c k rs) [List.replicate (2 ^ o.length) 0]) := by
    intro i
    induction i with
    | zero => intro _; exact FJ.zero o c k rs
    | succ i ih =>
      intro hi
      rw [List.range_succ, List.foldl_append]
      exact FJ.step h hS (by omega) (ih (by omega))
  exact key _ (Nat.le_refl _)
structure Fut (o c k : List Int) (rs : List (List (List Int))) (t : List (List Int)) : Prop where
  len : t.length = rs.length + 1
  ok : ∀ j, j ≤ rs.length → RowOK o.length 10890 (t.getD j [])
  row : ∀ r, r < rs.length → t.getD r [] = rowFn o c k rs r (t.getD (r + 1) [])
theorem futs_Fut {o c k : List Int} {rs : List (List (List Int))} (h : Ssn o c k rs) (hS : SetsOK o.length) : Fut o c k rs (futs o c k rs) := by
  have h1 := futs_FJ h hS
  have hR := h.R
  refine ⟨h1.len, fun j hj => (h1.ok j hj).le (by omega), fun r hr => ?_⟩
  have := h1.row r hr
  rwa [show rs.length - rs.length + r = r by omega] at this
end Go.Proofs.Ytlmbhkmaflhagaa
/-
  Plain laws: marks laid into a season.
-/
namespace Go.Proofs.Ytlmbhkmaflhagaa
theorem mark1_eq : ∀ (l : List Int) (k : Int), 0 ≤ k → k + (l.length : Int) < 9223372036854775808 → mark1 k l = k + (l.length : Int)
  | [], k, _, _ => by simp [mark1]
  | x :: l, k, h0, h1 => by
    simp only [List.length_cons] at h1
    have e : Go.RowKit.wrap64 (k + 1) = k + 1 := by unfold Go.RowKit.wrap64; omega
    have := mark1_eq l (k + 1) (by omega) (by omega)
    unfold mark1 at this ⊢
    rw [List.foldl_cons, e, this, List.length_cons]
    omega
theorem mark2_bd : ∀ (x : List (List Int)) (k : Int), (∀ r ∈ x, Low1 r) → 0 ≤ k → k + (x.length : Int) * 1048576 < 9223372036854775808 → k ≤ mark2 k x ∧ mark2 k x ≤ k + (x.length : Int) * 1048576
  | [], k, _, _, _ => by simp [mark2]
  | r :: x, k, h, h0, h1 => by
    have hr := h r List.mem_cons_self
    unfold Low1 at hr
    simp only [List.length_cons] at h1 ⊢
    have e1 : ((x.length + 1 : Nat) : Int) * 1048576 = (x.length : Int) * 1048576 + 1048576 := by omega
    have e := mark1_eq r k h0 (by omega)
    have := mark2_bd x (mark1 k r) (fun q hq => h q (List.mem_cons_of_mem _ hq)) (by omega) (by omega)
    unfold mark2 at this ⊢
    rw [List.foldl_cons]
    omega
theorem mark3_bd : ∀ (x : List (List (List Int))) (k : Int), (∀ r ∈ x, Low2 r) → 0 ≤ k → k + (x.length : Int) * 1099511627776 < 9223372036854775808 → 0 ≤ mark3 k x
  | [], k, _, h0, _ => by simpa [mark3] using h0
  | r :: x, k, h, h0, h1 => by
    have hr := h r List.mem_cons_self
    have hrl := hr.1
    simp only [List.length_cons] at h1
    have e1 : ((x.length + 1 : Nat) : Int) * 1099511627776 = (x.length : Int) * 1099511627776 + 1099511627776 := by omega
    have hb : (r.length : Int) * 1048576 ≤ 1099511627776 := by
      have : (r.length : Int) * 1048576 ≤ 1048576 * 1048576 := Int.mul_le_mul_of_nonneg_right hrl (by omega)
      omega
    have e := mark2_bd r k hr.2 h0 (by omega)
    have := mark3_bd x (mark2 k r) (fun q hq => h q (List.mem_cons_of_mem _ hq)) (by omega) (by omega)
    unfold mark3 at this ⊢
    rw [List.foldl_cons]
    exact this
theorem low3B_of {rs : List (List (List Int))} (h : Low3 rs) : low3B rs = true := by
  simp only [low3B, Bool.and_eq_true, List.all_eq_true, decide_eq_true_eq]
  have h1 := h.1
  refine ⟨by omega, fun r hr => ?_⟩
  have h2 := (h.2 r hr).1
  refine ⟨by omega, fun s hs => ?_⟩
  have h3 := (h.2 r hr).2 s hs
  unfold Low1 at h3
  omega
theorem markSeason_eq {o c k : List Int} {rs : List (List (List Int))} (ho : Low1 o) (hc : Low1 c) (hk : Low1 k) (hr : Low3 rs) : ∃ y, F_lw_markSeason 1 o c k rs = some y ∧ ¬ y.1 < 0 := by
  have h1 := ho; have h2 := hc; have h3 := hk; have h4 := hr.1
  unfold Low1 at h1 h2 h3
  refine ⟨(mark3 (1 + (o.length : Int) + (c.length : Int) + (k.length : Int)) rs, (markL 1 o.length, (markL (1 + (o.length : Int)) c.length, markL (1 + (o.length : Int) + (c.length : Int)) k.length))), ?_, ?_⟩
  · have em : ∀ k, F_lw_markIntSSS k rs = some (mark3 k rs) := fun k => by
      show mark3F k rs = _
      unfold mark3F
      rw [if_pos (low3B_of hr)]
    unfold F_lw_markSeason T_lw_markSeason
    simp (disch := omega) only [EV, em, markIntS_eq ho (k := 1) (by omega) (by omega), markIntS_eq hc (k := 1 + (o.length : Int)) (by omega) (by omega), markIntS_eq hk (k := 1 + (o.length : Int) + (c.length : Int)) (by omega) (by omega)]
  · have hb : (rs.length : Int) * 1099511627776 ≤ 1152921504606846976 := by
      have : (rs.length : Int) * 1099511627776 ≤ 1048576 * 1099511627776 := Int.mul_le_mul_of_nonneg_right h4 (by omega)
      omega
    have := mark3_bd rs (1 + (o.length : Int) + (c.length : Int) + (k.length : Int)) hr.2 (by omega) (by omega)
    show ¬ mark3 (1 + (o.length : Int) + (c.length : Int) + (k.length : Int)) rs < 0
    omega
end Go.Proofs.Ytlmbhkmaflhagaa
