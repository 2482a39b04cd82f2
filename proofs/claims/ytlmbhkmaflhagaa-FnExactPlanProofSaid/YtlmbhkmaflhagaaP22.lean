/-
  Plain laws: lists of three levels; seasons.
-/
import Derived.Test.YtlmbhkmaflhagaaP21
import Derived.Test.YtlmbhkmaflhagaaP8
namespace Go.Proofs.Ytlmbhkmaflhagaa

def Fit3 (x : List (List (List Int))) : Prop := (x.length : Int) < 9223372036854775808 ∧ ∀ r ∈ x, Fit2 r
def Low3 (x : List (List (List Int))) : Prop := (x.length : Int) ≤ 1048576 ∧ ∀ r ∈ x, Low2 r
theorem szIntSSS_sz {x : List (List (List Int))} {b : Int} (hx : Fit3 x) (h0 : 0 ≤ b) (h1 : b ≤ 1048576) : Sz (F_lw_szIntSSS x b) (Low3 x) := by
  obtain ⟨hx1, hx2⟩ := hx
  unfold F_lw_szIntSSS T_lw_szIntSSS
  simp (disch := omega) only [EV]
  by_cases hb : b - (x.length : Int) < 0
  · simp (disch := omega) only [EV, hb]
    exact ⟨_, rfl, by omega, fun h => by omega⟩
  · have := sz_loop (f := fun v => (S_lw_szIntSSS_0 x v).ev) (l := x) [] Low2 (b := b - (x.length : Int)) (by omega) (by omega) (fun i s hi k0 k1 => by
      obtain ⟨r, k2, k3, k4⟩ := szIntSS_sz (hx2 _ (getD_mem (d := []) hi)) k0 k1
      simp (disch := omega) only [EV, S_lw_szIntSSS_0, hi, k2]
      by_cases hr : r < 0
      · right; simp (disch := omega) only [EV, hr]
      · left
        simp (disch := omega) only [EV, hr]
        exact ⟨r, rfl, by omega, by omega, k4 (by omega)⟩) (fun s => by simp (disch := omega) only [EV, S_lw_szIntSSS_0, Nat.lt_irrefl])
    rcases this with h | ⟨s, h, k0, k1, k2⟩
    · simp (disch := omega) only [EV, hb, L_lw_szIntSSS_0, h]
      exact ⟨_, rfl, by omega, fun h => by omega⟩
    · simp (disch := omega) only [EV, hb, L_lw_szIntSSS_0, h]
      exact ⟨_, rfl, by omega, fun _ => ⟨by omega, k2⟩⟩
theorem toIntSSS_eq {x : List (List (List Int))} (hx : Low3 x) : F_lw_toIntSSS x = some x := by
  obtain ⟨hl, hr⟩ := hx
  unfold F_lw_toIntSSS T_lw_toIntSSS
  rw [Tr.ev_g, show (decide ((0 : Int) ≤ ((x.length : Nat) : Int)) && decide (((x.length : Nat) : Int) ≤ ((x.length : Nat) : Int)) && decide (((24 : Nat) : Int) * ((x.length : Nat) : Int) ≤ 281474976710656)) = true by simp; omega]
  have := copy_loop (f := fun v => (S_lw_toIntSSS_0 x v).ev) (l := x) [] (fun i r hi hr' => by simp (disch := omega) only [EV, S_lw_toIntSSS_0, hr', hi, toIntSS_eq (hr _ (getD_mem (d := []) hi))]; rfl) (fun r => by simp (disch := omega) only [EV, S_lw_toIntSSS_0, Nat.lt_irrefl])
  simp (disch := omega) only [EV, L_lw_toIntSSS_0, this]
theorem eqIntSSS_eq {a b : List (List (List Int))} (ha : Low3 a) : F_lw_eqIntSSS a b = some (a == b) := by
  obtain ⟨ha, hr⟩ := ha
  unfold F_lw_eqIntSSS T_lw_eqIntSSS
  by_cases h : a.length = b.length
  · have hs := eq_loop (f := fun v => (S_lw_eqIntSSS_0 (a, b) v).ev) (a := a) (b := b) [] h (fun i hi => by
      have hi' : i < b.length := by omega
      simp (disch := omega) only [EV, S_lw_eqIntSSS_0, hi, hi', eqIntSS_eq (hr _ (getD_mem (d := []) hi))]
      cases (a.getD i [] == b.getD i []) <;> rfl) (by simp (disch := omega) only [EV, S_lw_eqIntSSS_0, Nat.lt_irrefl])
    simp (disch := omega) only [EV, int_ne, h, L_lw_eqIntSSS_0, hs]
    cases (a == b) <;> rfl
  · have : (a == b) = false := by
      rw [beq_eq_false_iff_ne]
      exact fun e => h (by rw [e])
    simp (disch := omega) only [EV, int_ne, h, this]
theorem szSeason_sz {o c k : List Int} {rs : List (List (List Int))} {b : Int} (ho : Fit1 o) (hc : Fit1 c) (hk : Fit1 k) (hr : Fit3 rs) (h0 : 0 ≤ b) (h1 : b ≤ 1048576) : Sz (F_lw_szSeason o c k rs b) (Low1 o ∧ Low1 c ∧ Low1 k ∧ Low3 rs) := by
  have hm : (-1 : Int) ≤ 1048576 := by omega
  have hm2 : (0 : Int) ≤ -1 → Low1 o ∧ Low1 c ∧ Low1 k ∧ Low3 rs := fun h => by omega
  unfold F_lw_szSeason T_lw_szSeason
  obtain ⟨r1, e1, b1, k1⟩ := szIntS_sz ho h0 h1
  simp (disch := omega) only [EV, e1]
  by_cases h1 : r1 < 0
  · simp (disch := omega) only [EV, h1]; exact ⟨_, rfl, hm, hm2⟩
  obtain ⟨r2, e2, b2, k2⟩ := szIntS_sz hc (b := r1) (by omega) (by omega)
  simp (disch := omega) only [EV, h1, e2]
  by_cases h2 : r2 < 0
  · simp (disch := omega) only [EV, h2]; exact ⟨_, rfl, hm, hm2⟩
  obtain ⟨r3, e3, b3, k3⟩ := szIntS_sz hk (b := r2) (by omega) (by omega)
  simp (disch := omega) only [EV, h2, e3]
  by_cases h3 : r3 < 0
  · simp (disch := omega) only [EV, h3]; exact ⟨_, rfl, hm, hm2⟩
  obtain ⟨r4, e4, b4, k4⟩ := szIntSSS_sz hr (b := r3) (by omega) (by omega)
  simp (disch := omega) only [EV, h3, e4]
  by_cases h4 : r4 < 0
  · simp (disch := omega) only [EV, h4]; exact ⟨_, rfl, hm, hm2⟩
  simp (disch := omega) only [EV, h4]
  exact ⟨_, rfl, b4, fun h => ⟨k1 (by omega), k2 (by omega), k3 (by omega), k4 h⟩⟩
theorem toSeason_eq {o c k : List Int} {rs : List (List (List Int))} (ho : Low1 o) (hc : Low1 c) (hk : Low1 k) (hr : Low3 rs) : F_lw_toSeason o c k rs = some (o, c, k, rs) := by
  unfold F_lw_toSeason T_lw_toSeason
  simp (disch := omega) only [EV, toIntS_eq ho, toIntS_eq hc, toIntS_eq hk, toIntSSS_eq hr]
theorem eqSeason_self {o c k : List Int} {rs : List (List (List Int))} (ho : Low1 o) (hc : Low1 c) (hk : Low1 k) (hr : Low3 rs) : F_lw_eqSeason o c k rs o c k rs = some true := by
  unfold F_lw_eqSeason T_lw_eqSeason
  simp (disch := omega) only [EV, eqIntS_eq ho, eqIntS_eq hc, eqIntS_eq hk, eqIntSSS_eq hr, beq_self_eq_true]

/-! ### What a season is -/
theorem indexFunc_SSint {l : List (List (List Int))} (hl : (l.length : Int) < 9223372036854775807) {p : HL [.slice (.slice (.int .i64))] → Option Bool} {q : List (List Int) → Bool} (hp : ∀ n ∈ l, p (n, ()) = some (q n)) :
    F_slices_IndexFunc_SSSint_SSint l p = some ((l.findIdx? q).elim (-1) (fun i => (i : Int))) := by
  unfold F_slices_IndexFunc_SSSint_SSint T_slices_IndexFunc_SSSint_SSint
  have hs : L_slices_IndexFunc_SSSint_SSint_0 (l, (p, ((l.length : Nat) : Int))) 0 = _ := iter_forE (f := fun v => (S_slices_IndexFunc_SSSint_SSint_0 (l, (p, ((l.length : Nat) : Int))) v).ev) (l := l) [] q (mk := fun i => (i : Int)) (yes := fun i => .inr (i : Int)) (no := .inl ()) (fun i hi => by
    simp (disch := omega) only [EV, S_slices_IndexFunc_SSSint_SSint_0, hi, hp _ (getD_mem hi)]
    cases q (l.getD i []) <;> rfl) (by simp (disch := omega) only [EV, S_slices_IndexFunc_SSSint_SSint_0, Nat.lt_irrefl])
  simp (disch := omega) only [EV, hs]
  cases l.findIdx? q <;> rfl
theorem containsFunc_SSint {l : List (List (List Int))} (hl : (l.length : Int) < 9223372036854775807) {p : HL [.slice (.slice (.int .i64))] → Option Bool} {q : List (List Int) → Bool} (hp : ∀ n ∈ l, p (n, ()) = some (q n)) :
    F_slices_ContainsFunc_SSSint_SSint l p = some (l.any q) := by
  unfold F_slices_ContainsFunc_SSSint_SSint T_slices_ContainsFunc_SSSint_SSint
  simp (disch := omega) only [EV, indexFunc_SSint hl hp]
  congr 1
  rw [Bool.eq_iff_iff, findIdx_any]
  cases l.findIdx? q <;> simp

def roundB (n : Nat) (ds : List (List Int)) : Bool := decide (ds.length ≤ 5) && ds.all fun r => decide (r.length = n) && allIn r 0 99
def seasonB (o c k : List Int) (rs : List (List (List Int))) : Bool :=
  isIn (o.length : Int) 1 5 && (decide (c.length = o.length) && (decide (k.length = o.length) && (allIn (o ++ c ++ k) 0 99 && (decide (rs.length ≤ 5) && rs.all (roundB o.length)))))
theorem allIn_append (a b : List Int) (x y : Int) : allIn (a ++ b) x y = (allIn a x y && allIn b x y) := by simp [allIn, List.all_append]
structure Ssn (o c k : List Int) (rs : List (List (List Int))) : Prop where
  n1 : 1 ≤ o.length
  n5 : o.length ≤ 5
  cl : c.length = o.length
  kl : k.length = o.length
  ov : ∀ i, i < o.length → 0 ≤ o.getD i 0 ∧ o.getD i 0 ≤ 99
  cv : ∀ i, i < o.length → 0 ≤ c.getD i 0 ∧ c.getD i 0 ≤ 99
  kv : ∀ i, i < o.length → 0 ≤ k.getD i 0 ∧ k.getD i 0 ≤ 99
  R : rs.length ≤ 5
  fld : ∀ r, r < rs.length → Fld o (rs.getD r [])
theorem ssn_of {o c k : List Int} {rs : List (List (List Int))} (h : seasonB o c k rs = true) : Ssn o c k rs := by
  simp only [seasonB, Bool.and_eq_true, decide_eq_true_eq, isIn_iff, allIn_append, List.all_eq_true] at h
  obtain ⟨⟨h1, h2⟩, h3, h4, ⟨⟨h5, h6⟩, h7⟩, h8, h9⟩ := h
  refine ⟨by omega, by omega, h3, h4, fun i hi => allIn_getD h5 hi, fun i hi => allIn_getD h6 (by omega), fun i hi => allIn_getD h7 (by omega), h8, fun r hr => fieldB_iff.1 ?_⟩
  have h10 := h9 _ (getD_mem (d := []) hr)
  simp only [roundB, Bool.and_eq_true, decide_eq_true_eq] at h10
  simp only [fieldB, Bool.and_eq_true, decide_eq_true_eq, isIn_iff]
  exact ⟨⟨by omega, by omega⟩, h5, by omega, h10.2⟩

theorem concat3_eq {a b c : List Int} (ha : a.length ≤ 5) (hb : b.length ≤ 5) (hc : c.length ≤ 5) : F_slices_Concat_Sint_int [a, b, c] = some (a ++ b ++ c) := by
  unfold F_slices_Concat_Sint_int T_slices_Concat_Sint_int
  have n1 : ¬ (a.length : Int) < 0 := by omega
  have n2 : ¬ (a.length : Int) + (b.length : Int) < 0 := by omega
  have n3 : ¬ (a.length : Int) + (b.length : Int) + (c.length : Int) < 0 := by omega
  have h0 : L_slices_Concat_Sint_int_0 ([a, b, c], ([a, b, c], 3)) ((0 : Int), (0 : Int)) = some ((a.length : Int) + (b.length : Int) + (c.length : Int)) := by
    unfold L_slices_Concat_Sint_int_0
    rw [iter_eq]
    have s1 : (S_slices_Concat_Sint_int_0 ([a, b, c], ([a, b, c], 3)) ((0 : Int), (0 : Int))).ev = some (.inl ((a.length : Int), 1)) := by
      simp (disch := omega) only [EV, S_slices_Concat_Sint_int_0, List.length_cons, List.length_nil, show ((0 : Int) < 3) by omega, show List.getD [a, b, c] (Int.toNat 0) [] = a from rfl, Int.zero_add, n1, show inR (0 : Int) (0 + 1 + 1 + 1) = true from rfl]
    rw [s1]
    dsimp only
    rw [iter_eq]
    have s2 : (S_slices_Concat_Sint_int_0 ([a, b, c], ([a, b, c], 3)) ((a.length : Int), (1 : Int))).ev = some (.inl ((a.length : Int) + (b.length : Int), 2)) := by
      simp (disch := omega) only [EV, S_slices_Concat_Sint_int_0, List.length_cons, List.length_nil, show ((1 : Int) < 3) by omega, show List.getD [a, b, c] (Int.toNat 1) [] = b from rfl, n2, show inR (1 : Int) (0 + 1 + 1 + 1) = true from rfl]
      rfl
    rw [s2]
    dsimp only
    rw [iter_eq]
    have s3 : (S_slices_Concat_Sint_int_0 ([a, b, c], ([a, b, c], 3)) ((a.length : Int) + (b.length : Int), (2 : Int))).ev = some (.inl ((a.length : Int) + (b.length : Int) + (c.length : Int), 3)) := by
      simp (disch := omega) only [EV, S_slices_Concat_Sint_int_0, List.length_cons, List.length_nil, show ((2 : Int) < 3) by omega, show List.getD [a, b, c] (Int.toNat 2) [] = c from rfl, n3, show inR (2 : Int) (0 + 1 + 1 + 1) = true from rfl]
      rfl
    rw [s3]
    dsimp only
    rw [iter_eq]
    have s4 : (S_slices_Concat_Sint_int_0 ([a, b, c], ([a, b, c], 3)) ((a.length : Int) + (b.length : Int) + (c.length : Int), (3 : Int))).ev = some (.inr ((a.length : Int) + (b.length : Int) + (c.length : Int))) := by
      simp (disch := omega) only [EV, S_slices_Concat_Sint_int_0, show ¬ ((3 : Int) < 3) by omega]
    rw [s4]
  have hg : F_slices_Grow_Sint_int ((a.length : Int) + (b.length : Int) + (c.length : Int)) = some [] := by
    unfold F_slices_Grow_Sint_int T_slices_Grow_Sint_int
    have e : IntKind.wrap .i64 ((a.length : Int) + (b.length : Int) + (c.length : Int) - IntKind.wrap .i64 ((0 : Int) - 0)) = (a.length : Int) + (b.length : Int) + (c.length : Int) := by
      rw [show IntKind.wrap .i64 ((0 : Int) - 0) = 0 from rfl, Int.sub_zero, wrap64 (by omega) (by omega)]
    rw [e]
    by_cases hp : (0 : Int) < (a.length : Int) + (b.length : Int) + (c.length : Int)
    · have g1 : ((a.length : Int) + (b.length : Int) + (c.length : Int)) * ((8 : Nat) : Int) ≤ 281474976710656 := by omega
      have g2 : (0 : Int) ≤ (((List.replicate (Int.toNat ((a.length : Int) + (b.length : Int) + (c.length : Int))) (0 : Int)).length : Nat) : Int) := by omega
      simp (disch := omega) only [EV, n3, hp, g1, g2, Int.le_refl, show ((0 : Int) ≤ ((0 : Nat) : Int)) by omega, show Int.toNat 0 = 0 from rfl, List.take_zero]
    · simp (disch := omega) only [EV, n3, hp]
  have h2 : L_slices_Concat_Sint_int_2 ([a, b, c], 3) ((0 : Int), []) = some (a ++ b ++ c) := by
    unfold L_slices_Concat_Sint_int_2
    have g1 : (0 + a.length) * 8 ≤ 140737488355328 := by omega
    have g2 : (a.length + b.length) * 8 ≤ 140737488355328 := by omega
    have g3 : (a.length + b.length + c.length) * 8 ≤ 140737488355328 := by omega
    rw [iter_eq]
    have s1 : (S_slices_Concat_Sint_int_2 ([a, b, c], 3) ((0 : Int), [])).ev = some (.inl (1, a)) := by
      simp (disch := omega) only [EV, S_slices_Concat_Sint_int_2, List.length_cons, List.length_nil, show ((0 : Int) < 3) by omega, show List.getD [a, b, c] (Int.toNat 0) [] = a from rfl, g1, show inR (0 : Int) (0 + 1 + 1 + 1) = true from rfl, List.nil_append]
      rfl
    rw [s1]
    dsimp only
    rw [iter_eq]
    have s2 : (S_slices_Concat_Sint_int_2 ([a, b, c], 3) ((1 : Int), a)).ev = some (.inl (2, a ++ b)) := by
      simp (disch := omega) only [EV, S_slices_Concat_Sint_int_2, List.length_cons, List.length_nil, show ((1 : Int) < 3) by omega, show List.getD [a, b, c] (Int.toNat 1) [] = b from rfl, g2, show inR (1 : Int) (0 + 1 + 1 + 1) = true from rfl]
      rfl
    rw [s2]
    dsimp only
    rw [iter_eq]
    have s3 : (S_slices_Concat_Sint_int_2 ([a, b, c], 3) ((2 : Int), a ++ b)).ev = some (.inl (3, a ++ b ++ c)) := by
      simp (disch := omega) only [EV, S_slices_Concat_Sint_int_2, List.length_cons, List.length_nil, List.length_append, show ((2 : Int) < 3) by omega, show List.getD [a, b, c] (Int.toNat 2) [] = c from rfl, g3, show inR (2 : Int) (0 + 1 + 1 + 1) = true from rfl]
      rfl
    rw [s3]
    dsimp only
    rw [iter_eq]
    have s4 : (S_slices_Concat_Sint_int_2 ([a, b, c], 3) ((3 : Int), a ++ b ++ c)).ev = some (.inr (a ++ b ++ c)) := by
      simp (disch := omega) only [EV, S_slices_Concat_Sint_int_2, show ¬ ((3 : Int) < 3) by omega]
    rw [s4]
  have e3 : (([a, b, c].length : Nat) : Int) = 3 := rfl
  simp (disch := omega) only [EV, e3, h0, hg, h2]
theorem isSeason1_eq {ds : List (List Int)} (hd : Low2 ds) (n : Nat) : F_im_IsSeason_1 ds (n : Int) = some (!roundB n ds) := by
  have hl := hd.1
  unfold F_im_IsSeason_1 T_im_IsSeason_1 roundB
  by_cases h : (5 : Int) < (ds.length : Int)
  · simp (disch := omega) only [EV, h, show ¬ ds.length ≤ 5 by omega]
  · rw [Tr.ev_t, decide_eq_false h, cond_false, Tr.ev_c, containsFunc_Sint (by omega) (q := fun r => !(decide (r.length = n) && allIn r 0 99)) fun r hr => by
      unfold F_im_IsSeason_1_1 T_im_IsSeason_1_1
      by_cases h2 : r.length = n
      · simp (disch := omega) only [EV, int_ne, h2, areBetween_eq (hd.2 r hr)]
      · simp (disch := omega) only [EV, int_ne, h2]]
    simp (disch := omega) only [EV, show ds.length ≤ 5 by omega]
    rw [List.any_eq_not_all_not]
    simp
theorem IsSeason_eq {o c k : List Int} {rs : List (List (List Int))} (ho : Low1 o) (hc : Low1 c) (hk : Low1 k) (hr : Low3 rs) : F_im_IsSeason o c k rs = some (seasonB o c k rs) := by
  have hl := hr.1
  unfold F_im_IsSeason T_im_IsSeason seasonB
  simp (disch := omega) only [EV, between_eq]
  cases h1 : isIn (o.length : Int) 1 5 with
  | false => rfl
  | true =>
    have hb := isIn_iff.1 h1
    by_cases h2 : c.length = o.length
    · by_cases h3 : k.length = o.length
      · simp (disch := omega) only [EV, int_ne, h2, h3, concat3_eq (a := o) (b := c) (c := k) (by omega) (by omega) (by omega), areBetween_eq (l := o ++ c ++ k) (by unfold Low1; simp only [List.length_append]; omega)]
        cases h4 : allIn (o ++ c ++ k) 0 99 with
        | false => rfl
        | true =>
          by_cases h5 : (5 : Int) < (rs.length : Int)
          · simp (disch := omega) only [EV, h5, show ¬ rs.length ≤ 5 by omega]
          · have := containsFunc_SSint (l := rs) (by omega) (p := fun h4_ => Option.bind (F_im_IsSeason_1 h4_.1 ((List.length o : Nat) : Int)) fun y5_ => some y5_) (q := fun ds => !roundB o.length ds) fun ds hds => by
              simp (disch := omega) only [EV, isSeason1_eq (hr.2 ds hds)]
            simp (disch := omega) only [EV, h5, show rs.length ≤ 5 by omega, this]
            rw [List.any_eq_not_all_not]
            simp
      · simp (disch := omega) only [EV, int_ne, h2, h3]
    · simp (disch := omega) only [EV, int_ne, h2]
theorem l10Good_eq {o c k : List Int} {rs : List (List (List Int))} (ho : Low1 o) (hc : Low1 c) (hk : Low1 k) (hr : Low3 rs) : F_sp_l10Good o c k rs = some (seasonB o c k rs) := by
  have hl := hr.1
  have h2 : ∀ r, r < rs.length → L_sp_l10Good_2 ((o.length : Int), ((r : Int), (o, (c, (k, rs))))) 0 = some (bif (rs.getD r []).all (fun q => decide (q.length = o.length) && allIn q 0 99) then .inl () else .inr ()) := fun r hr' => by
    have hd := hr.2 _ (getD_mem (d := []) hr')
    have hdl := hd.1
    have := iter_allR (f := fun v => (S_sp_l10Good_2 ((o.length : Int), ((r : Int), (o, (c, (k, rs))))) v).ev) (n := (rs.getD r []).length) (mk := fun i => (i : Int)) (p := fun i => decide (((rs.getD r []).getD i []).length = o.length) && allIn ((rs.getD r []).getD i []) 0 99) (yes := .inl ()) (no := .inr ()) (fun i hi _ => by
      simp (disch := omega) only [EV, S_sp_l10Good_2, hr', hi, l2Row_eq (hd.2 _ (getD_mem (d := []) hi)), int_eq]
      cases decide (((rs.getD r []).getD i []).length = o.length) <;> cases allIn ((rs.getD r []).getD i []) 0 99 <;> rfl) (by simp (disch := omega) only [EV, S_sp_l10Good_2, hr', Nat.lt_irrefl])
    rw [all_range (rs.getD r []) [] (fun q => decide (q.length = o.length) && allIn q 0 99)] at this
    exact this
  have h0 := iter_allR (f := fun v => (S_sp_l10Good_0 ((o.length : Int), (o, (c, (k, rs)))) v).ev) (n := rs.length) (mk := fun i => (i : Int)) (p := fun i => roundB o.length (rs.getD i [])) (yes := .inl ()) (no := .inr ()) (fun r hr' _ => by
    simp (disch := omega) only [EV, S_sp_l10Good_0, hr', h2 r hr']
    unfold roundB
    cases (rs.getD r []).all (fun q => decide (q.length = o.length) && allIn q 0 99) with
    | false => simp (disch := omega) only [EV]
    | true =>
      by_cases h5 : (5 : Int) < ((rs.getD r []).length : Int)
      · simp (disch := omega) only [EV, hr', h5, show ¬ (rs.getD r []).length ≤ 5 by omega]
      · simp (disch := omega) only [EV, hr', h5, show (rs.getD r []).length ≤ 5 by omega]
        rfl) (by simp (disch := omega) only [EV, S_sp_l10Good_0, Nat.lt_irrefl])
  rw [all_range rs [] (roundB o.length)] at h0
  unfold F_sp_l10Good T_sp_l10Good
  have h0' : L_sp_l10Good_0 ((o.length : Int), (o, (c, (k, rs)))) 0 = _ := h0
  simp (disch := omega) only [EV, h0', l1In_eq, l2Row_eq ho, l2Row_eq hc, l2Row_eq hk, int_eq]
  have e5 : decide ((rs.length : Int) ≤ 5) = decide (rs.length ≤ 5) := by
    rw [decide_eq_decide]; omega
  unfold seasonB
  rw [allIn_append, allIn_append]
  cases rs.all (roundB o.length) with
  | false => simp (disch := omega) only [EV]
  | true =>
    simp (disch := omega) only [EV, e5]
    generalize decide (c.length = o.length) = q1
    generalize decide (k.length = o.length) = q2
    generalize decide (rs.length ≤ 5) = q3
    cases isIn (o.length : Int) 1 5 <;> cases allIn o 0 99 <;> cases allIn c 0 99 <;> cases allIn k 0 99 <;> cases q1 <;> cases q2 <;> cases q3 <;> rfl
end Go.Proofs.Ytlmbhkmaflhagaa
