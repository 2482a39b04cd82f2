/-
  Plain laws: lists of three levels; seasons.
-/
import Derived.Test.YtlmbhkmaflhagaaGreatP21
import Derived.Test.YtlmbhkmaflhagaaGreatP8
import Derived.Test.YtlmbhkmaflhagaaGreatP15
import Derived.Test.YtlmbhkmaflhagaaGreatPM
namespace Go.Proofs.YtlmbhkmaflhagaaGreat
def Low3 (x : List (List (List Int))) : Prop := (x.length : Int) ≤ 1048576 ∧ ∀ r ∈ x, Low2 r
theorem indexFunc_SSint {l : List (List (List Int))} (hl : (l.length : Int) < 9223372036854775807) {p : HL [.slice (.slice (.int .i64))] → Option Bool} {q : List (List Int) → Bool} (hp : ∀ n ∈ l, p (n, ()) = some (q n)) :
    F_zbc l p = some ((l.findIdx? q).elim (-1) (fun i => (i : Int))) := by
  unfold F_zbc T_zbc
  have hs : L_zbc_0 (l, (p, ((l.length : Nat) : Int))) 0 = _ := iter_forE (f := fun v => (S_zbc_0 (l, (p, ((l.length : Nat) : Int))) v).ev) (l := l) [] q (mk := fun i => (i : Int)) (yes := fun i => .inr (i : Int)) (no := .inl ()) (fun i hi => by
    simp (disch := omega) only [EV, S_zbc_0, hi, hp _ (getD_mem hi)]
    cases q (l.getD i []) <;> rfl) (by simp (disch := omega) only [EV, S_zbc_0, Nat.lt_irrefl])
  simp (disch := omega) only [EV, hs]
  cases l.findIdx? q <;> rfl
theorem containsFunc_SSint {l : List (List (List Int))} (hl : (l.length : Int) < 9223372036854775807) {p : HL [.slice (.slice (.int .i64))] → Option Bool} {q : List (List Int) → Bool} (hp : ∀ n ∈ l, p (n, ()) = some (q n)) :
    F_zay l p = some (l.any q) := by
  unfold F_zay T_zay
  simp (disch := omega) only [EV, indexFunc_SSint hl hp]
  congr 1
  rw [Bool.eq_iff_iff, findIdx_any]
  cases l.findIdx? q <;> simp
def roundB (n : Nat) (ds : List (List Int)) : Bool := decide (ds.length ≤ 5) && ds.all fun r => decide (r.length = n) && allIn r 0 99
def seasonB (o c k : List Int) (rs : List (List (List Int))) : Bool :=
  isIn (o.length : Int) 1 5 && (decide (c.length = o.length) && (decide (k.length = o.length) && (allIn (o ++ c ++ k) 0 99 && (decide (rs.length ≤ 5) && rs.all (roundB o.length)))))
theorem allIn_append (a b : List Int) (x y : Int) : allIn (a ++ b) x y = (allIn a x y && allIn b x y) := by simp [allIn, List.all_append]
structure Ssn (o c k : List Int) (rs : List (List (List Int))) : Prop where
  n1 : 1 ≤ o.length
  n5 : o.length ≤ 5
  cl : c.length = o.length
  kl : k.length = o.length
  ov : ∀ i, i < o.length → 0 ≤ o.getD i 0 ∧ o.getD i 0 ≤ 99
  cv : ∀ i, i < o.length → 0 ≤ c.getD i 0 ∧ c.getD i 0 ≤ 99
  kv : ∀ i, i < o.length → 0 ≤ k.getD i 0 ∧ k.getD i 0 ≤ 99
  R : rs.length ≤ 5
  fld : ∀ r, r < rs.length → Fld o (rs.getD r [])
theorem ssn_of {o c k : List Int} {rs : List (List (List Int))} (h : seasonB o c k rs = true) : Ssn o c k rs := by
  simp only [seasonB, Bool.and_eq_true, decide_eq_true_eq, isIn_iff, allIn_append, List.all_eq_true] at h
  obtain ⟨⟨h1, h2⟩, h3, h4, ⟨⟨h5, h6⟩, h7⟩, h8, h9⟩ := h
  refine ⟨by omega, by omega, h3, h4, fun i hi => allIn_getD h5 hi, fun i hi => allIn_getD h6 (by omega), fun i hi => allIn_getD h7 (by omega), h8, fun r hr => fieldB_iff.1 ?_⟩
  have h10 := h9 _ (getD_mem (d := []) hr)
  simp only [roundB, Bool.and_eq_true, decide_eq_true_eq] at h10
  simp only [fieldB, Bool.and_eq_true, decide_eq_true_eq, isIn_iff]
  exact ⟨⟨by omega, by omega⟩, h5, by omega, h10.2⟩
theorem concat3_eq {a b c : List Int} (ha : a.length ≤ 5) (hb : b.length ≤ 5) (hc : c.length ≤ 5) : F_zax [a, b, c] = some (a ++ b ++ c) := by
  unfold F_zax T_zax
  have n1 : ¬ (a.length : Int) < 0 := by omega
  have n2 : ¬ (a.length : Int) + (b.length : Int) < 0 := by omega
  have n3 : ¬ (a.length : Int) + (b.length : Int) + (c.length : Int) < 0 := by omega
  have h0 : L_zax_0 ([a, b, c], ([a, b, c], 3)) ((0 : Int), (0 : Int)) = some ((a.length : Int) + (b.length : Int) + (c.length : Int)) := by
    unfold L_zax_0
    rw [iter_eq]
    have s1 : (S_zax_0 ([a, b, c], ([a, b, c], 3)) ((0 : Int), (0 : Int))).ev = some (.inl ((a.length : Int), 1)) := by
      simp (disch := omega) only [EV, S_zax_0, List.length_cons, List.length_nil, show ((0 : Int) < 3) by omega, show List.getD [a, b, c] (Int.toNat 0) [] = a from rfl, Int.zero_add, n1, show inR (0 : Int) (0 + 1 + 1 + 1) = true from rfl]
    rw [s1]
    dsimp only
    rw [iter_eq]
    have s2 : (S_zax_0 ([a, b, c], ([a, b, c], 3)) ((a.length : Int), (1 : Int))).ev = some (.inl ((a.length : Int) + (b.length : Int), 2)) := by
      simp (disch := omega) only [EV, S_zax_0, List.length_cons, List.length_nil, show ((1 : Int) < 3) by omega, show List.getD [a, b, c] (Int.toNat 1) [] = b from rfl, n2, show inR (1 : Int) (0 + 1 + 1 + 1) = true from rfl]
      rfl
    rw [s2]
    dsimp only
    rw [iter_eq]
    have s3 : (S_zax_0 ([a, b, c], ([a, b, c], 3)) ((a.length : Int) + (b.length : Int), (2 : Int))).ev = some (.inl ((a.length : Int) + (b.length : Int) + (c.length : Int), 3)) := by
      simp (disch := omega) only [EV, S_zax_0, List.length_cons, List.length_nil, show ((2 : Int) < 3) by omega, show List.getD [a, b, c] (Int.toNat 2) [] = c from rfl, n3, show inR (2 : Int) (0 + 1 + 1 + 1) = true from rfl]
      rfl
    rw [s3]
    dsimp only
    rw [iter_eq]
    have s4 : (S_zax_0 ([a, b, c], ([a, b, c], 3)) ((a.length : Int) + (b.length : Int) + (c.length : Int), (3 : Int))).ev = some (.inr ((a.length : Int) + (b.length : Int) + (c.length : Int))) := by
      simp (disch := omega) only [EV, S_zax_0, show ¬ ((3 : Int) < 3) by omega]
    rw [s4]
  have hg : F_zbb ((a.length : Int) + (b.length : Int) + (c.length : Int)) = some [] := by
    unfold F_zbb T_zbb
    have e : IntKind.wrap .i64 ((a.length : Int) + (b.length : Int) + (c.length : Int) - IntKind.wrap .i64 ((0 : Int) - 0)) = (a.length : Int) + (b.length : Int) + (c.length : Int) := by
      rw [show IntKind.wrap .i64 ((0 : Int) - 0) = 0 from rfl, Int.sub_zero, wrap64 (by omega) (by omega)]
    rw [e]
    by_cases hp : (0 : Int) < (a.length : Int) + (b.length : Int) + (c.length : Int)
    · have g1 : ((a.length : Int) + (b.length : Int) + (c.length : Int)) * ((8 : Nat) : Int) ≤ 281474976710656 := by omega
      have g2 : (0 : Int) ≤ (((List.replicate (Int.toNat ((a.length : Int) + (b.length : Int) + (c.length : Int))) (0 : Int)).length : Nat) : Int) := by omega
      simp (disch := omega) only [EV, n3, hp, g1, g2, Int.le_refl, show ((0 : Int) ≤ ((0 : Nat) : Int)) by omega, show Int.toNat 0 = 0 from rfl, List.take_zero]
    · simp (disch := omega) only [EV, n3, hp]
  have h2 : L_zax_2 ([a, b, c], 3) ((0 : Int), []) = some (a ++ b ++ c) := by
    unfold L_zax_2
    have g1 : (0 + a.length) * 8 ≤ 140737488355328 := by omega
    have g2 : (a.length + b.length) * 8 ≤ 140737488355328 := by omega
    have g3 : (a.length + b.length + c.length) * 8 ≤ 140737488355328 := by omega
    rw [iter_eq]
    have s1 : (S_zax_2 ([a, b, c], 3) ((0 : Int), [])).ev = some (.inl (1, a)) := by
      simp (disch := omega) only [EV, S_zax_2, List.length_cons, List.length_nil, show ((0 : Int) < 3) by omega, show List.getD [a, b, c] (Int.toNat 0) [] = a from rfl, g1, show inR (0 : Int) (0 + 1 + 1 + 1) = true from rfl, List.nil_append]
      rfl
    rw [s1]
    dsimp only
    rw [iter_eq]
    have s2 : (S_zax_2 ([a, b, c], 3) ((1 : Int), a)).ev = some (.inl (2, a ++ b)) := by
      simp (disch := omega) only [EV, S_zax_2, List.length_cons, List.length_nil, show ((1 : Int) < 3) by omega, show List.getD [a, b, c] (Int.toNat 1) [] = b from rfl, g2, show inR (1 : Int) (0 + 1 + 1 + 1) = true from rfl]
      rfl
    rw [s2]
    dsimp only
    rw [iter_eq]
    have s3 : (S_zax_2 ([a, b, c], 3) ((2 : Int), a ++ b)).ev = some (.inl (3, a ++ b ++ c)) := by
      simp (disch := omega) only [EV, S_zax_2, List.length_cons, List.length_nil, List.length_append, show ((2 : Int) < 3) by omega, show List.getD [a, b, c] (Int.toNat 2) [] = c from rfl, g3, show inR (2 : Int) (0 + 1 + 1 + 1) = true from rfl]
      rfl
    rw [s3]
    dsimp only
    rw [iter_eq]
    have s4 : (S_zax_2 ([a, b, c], 3) ((3 : Int), a ++ b ++ c)).ev = some (.inr (a ++ b ++ c)) := by
      simp (disch := omega) only [EV, S_zax_2, show ¬ ((3 : Int) < 3) by omega]
    rw [s4]
  have e3 : (([a, b, c].length : Nat) : Int) = 3 := rfl
  simp (disch := omega) only [EV, e3, h0, hg, h2]
theorem isSeason1_eq {ds : List (List Int)} (hd : Low2 ds) (n : Nat) : F_zo ds (n : Int) = some (!roundB n ds) := by
  have hl := hd.1
  unfold F_zo T_zo roundB
  by_cases h : (5 : Int) < (ds.length : Int)
  · simp (disch := omega) only [EV, h, show ¬ ds.length ≤ 5 by omega]
  · rw [Tr.ev_t, decide_eq_false h, cond_false, Tr.ev_c, containsFunc_Sint (by omega) (q := fun r => !(decide (r.length = n) && allIn r 0 99)) fun r hr => by
      unfold F_zp T_zp
      by_cases h2 : r.length = n
      · simp (disch := omega) only [EV, int_ne, h2, areBetween_eq (hd.2 r hr)]
      · simp (disch := omega) only [EV, int_ne, h2]]
    simp (disch := omega) only [EV, show ds.length ≤ 5 by omega]
    rw [List.any_eq_not_all_not]
    simp
theorem IsSeason_eq {o c k : List Int} {rs : List (List (List Int))} (ho : Low1 o) (hc : Low1 c) (hk : Low1 k) (hr : Low3 rs) : F_zn o c k rs = some (seasonB o c k rs) := by
  have hl := hr.1
  unfold F_zn T_zn seasonB
  simp (disch := omega) only [EV, between_eq]
  cases h1 : isIn (o.length : Int) 1 5 with
  | false => rfl
  | true =>
    have hb := isIn_iff.1 h1
    by_cases h2 : c.length = o.length
    · by_cases h3 : k.length = o.length
      · simp (disch := omega) only [EV, int_ne, h2, h3, concat3_eq (a := o) (b := c) (c := k) (by omega) (by omega) (by omega), areBetween_eq (l := o ++ c ++ k) (by unfold Low1; simp only [List.length_append]; omega)]
        cases h4 : allIn (o ++ c ++ k) 0 99 with
        | false => rfl
        | true =>
          by_cases h5 : (5 : Int) < (rs.length : Int)
          · simp (disch := omega) only [EV, h5, show ¬ rs.length ≤ 5 by omega]
          · have := containsFunc_SSint (l := rs) (by omega) (p := fun h4_ => Option.bind (F_zo h4_.1 ((List.length o : Nat) : Int)) fun y5_ => some y5_) (q := fun ds => !roundB o.length ds) fun ds hds => by
              simp (disch := omega) only [EV, isSeason1_eq (hr.2 ds hds)]
            simp (disch := omega) only [EV, h5, show rs.length ≤ 5 by omega, this]
            rw [List.any_eq_not_all_not]
            simp
      · simp (disch := omega) only [EV, int_ne, h2, h3]
    · simp (disch := omega) only [EV, int_ne, h2]
theorem l10Good_eq {o c k : List Int} {rs : List (List (List Int))} (ho : Low1 o) (hc : Low1 c) (hk : Low1 k) (hr : Low3 rs) : F_zbv o c k rs = some (seasonB o c k rs) := by
  have hl := hr.1
  have h2 : ∀ r, r < rs.length → L_zbv_2 ((o.length : Int), ((r : Int), (o, (c, (k, rs))))) 0 = some (bif (rs.getD r []).all (fun q => decide (q.length = o.length) && allIn q 0 99) then .inl () else .inr ()) := fun r hr' => by
    have hd := hr.2 _ (getD_mem (d := []) hr')
    have hdl := hd.1
    have := iter_allR (f := fun v => (S_zbv_2 ((o.length : Int), ((r : Int), (o, (c, (k, rs))))) v).ev) (n := (rs.getD r []).length) (mk := fun i => (i : Int)) (p := fun i => decide (((rs.getD r []).getD i []).length = o.length) && allIn ((rs.getD r []).getD i []) 0 99) (yes := .inl ()) (no := .inr ()) (fun i hi _ => by
      simp (disch := omega) only [EV, S_zbv_2, hr', hi, l2Row_eq (hd.2 _ (getD_mem (d := []) hi)), int_eq]
      cases decide (((rs.getD r []).getD i []).length = o.length) <;> cases allIn ((rs.getD r []).getD i []) 0 99 <;> rfl) (by simp (disch := omega) only [EV, S_zbv_2, hr', Nat.lt_irrefl])
    rw [all_range (rs.getD r []) [] (fun q => decide (q.length = o.length) && allIn q 0 99)] at this
    exact this
  have h0 := iter_allR (f := fun v => (S_zbv_0 ((o.length : Int), (o, (c, (k, rs)))) v).ev) (n := rs.length) (mk := fun i => (i : Int)) (p := fun i => roundB o.length (rs.getD i [])) (yes := .inl ()) (no := .inr ()) (fun r hr' _ => by
    simp (disch := omega) only [EV, S_zbv_0, hr', h2 r hr']
    unfold roundB
    cases (rs.getD r []).all (fun q => decide (q.length = o.length) && allIn q 0 99) with
    | false => simp (disch := omega) only [EV]
    | true =>
      by_cases h5 : (5 : Int) < ((rs.getD r []).length : Int)
      · simp (disch := omega) only [EV, hr', h5, show ¬ (rs.getD r []).length ≤ 5 by omega]
      · simp (disch := omega) only [EV, hr', h5, show (rs.getD r []).length ≤ 5 by omega]
        rfl) (by simp (disch := omega) only [EV, S_zbv_0, Nat.lt_irrefl])
  rw [all_range rs [] (roundB o.length)] at h0
  unfold F_zbv T_zbv
  have h0' : L_zbv_0 ((o.length : Int), (o, (c, (k, rs)))) 0 = _ := h0
  simp (disch := omega) only [EV, h0', l1In_eq, l2Row_eq ho, l2Row_eq hc, l2Row_eq hk, int_eq]
  have e5 : decide ((rs.length : Int) ≤ 5) = decide (rs.length ≤ 5) := by
    rw [decide_eq_decide]; omega
  unfold seasonB
  rw [allIn_append, allIn_append]
  cases rs.all (roundB o.length) with
  | false => simp (disch := omega) only [EV]
  | true =>
    simp (disch := omega) only [EV, e5]
    generalize decide (c.length = o.length) = q1
    generalize decide (k.length = o.length) = q2
    generalize decide (rs.length ≤ 5) = q3
    cases isIn (o.length : Int) 1 5 <;> cases allIn o 0 99 <;> cases allIn c 0 99 <;> cases allIn k 0 99 <;> cases q1 <;> cases q2 <;> cases q3 <;> rfl
end Go.Proofs.YtlmbhkmaflhagaaGreat
/-
  Plain laws: moves of seasons, potentials, plans.
-/
namespace Go.Proofs.YtlmbhkmaflhagaaGreat
def wgt (o c k a s : List Int) (x : Nat) : Int :=
  (if s.contains (x : Int) then k.getD x 0 else 0) + ((if s.contains (x : Int) && !a.contains (x : Int) then o.getD x 0 else 0) + (if a.contains (x : Int) && !s.contains (x : Int) then c.getD x 0 else 0))
def srv0 (ds : List (List Int)) (s : List Int) : Int := if s.length = 0 then 0 else serve ds s
def mv (o c k : List Int) (rs : List (List (List Int))) (r : Nat) (a s : List Int) : Int := (List.range o.length).foldl (fun t x => t + wgt o c k a s x) 0 + srv0 (rs.getD r []) s
def mayB (o : List Int) (rs : List (List (List Int))) (r : Nat) (s : List Int) : Bool := risingB s 0 ((o.length : Int) - 1) && (decide (0 < s.length) || decide ((rs.getD r []).length = 0))
theorem foldl_start {α : Type} (w : α → Int) : ∀ (l : List α) (t : Int), l.foldl (fun t x => t + w x) t = t + l.foldl (fun t x => t + w x) 0
  | [], t => by simp
  | x :: l, t => by
    simp only [List.foldl_cons]
    rw [foldl_start w l (t + w x), foldl_start w l (0 + w x)]
    omega
theorem wgt_in {o c k : List Int} {rs : List (List (List Int))} (h : Ssn o c k rs) (a s : List Int) {x : Nat} (hx : x < o.length) : 0 ≤ wgt o c k a s x ∧ wgt o c k a s x ≤ 297 := by
  have h1 := h.ov x hx
  have h2 := h.cv x hx
  have h3 := h.kv x hx
  unfold wgt
  generalize s.contains (x : Int) = b1
  generalize a.contains (x : Int) = b2
  generalize o.getD x 0 = v1 at h1 ⊢
  generalize c.getD x 0 = v2 at h2 ⊢
  generalize k.getD x 0 = v3 at h3 ⊢
  cases b1 <;> cases b2 <;> simp <;> omega
theorem wsum_in {o c k : List Int} {rs : List (List (List Int))} (h : Ssn o c k rs) (a s : List Int) : 0 ≤ (List.range o.length).foldl (fun t x => t + wgt o c k a s x) 0 ∧ (List.range o.length).foldl (fun t x => t + wgt o c k a s x) 0 ≤ 1485 := by
  have := sum_bound (l := List.range o.length) (f := fun x => wgt o c k a s x) (B := 297) (fun x hx => wgt_in h a s (List.mem_range.1 hx)) 0
  have := h.n5
  simp only [List.length_range] at *
  omega
theorem low_of {n : Nat} (hn : n ≤ 7) (hS : SetsOK n) {s : List Int} (hs : s ∈ allSets n) : Low1 s := by
  have h1 := (risingB_iff.1 (hS.rising s hs)).2
  have h2 := (risingB_iff.1 (hS.rising s hs)).1
  have key : ∀ (l : List Int) (k : Int), l.Pairwise (· < ·) → (∀ x ∈ l, k ≤ x ∧ x ≤ 6) → (l.length : Int) ≤ 7 - k ∨ l = [] := by
    intro l
    induction l with
    | nil => intro _ _ _; exact .inr rfl
    | cons x l ih =>
      intro k hp hb
      obtain ⟨h3, h4⟩ := List.pairwise_cons.1 hp
      have hx := hb x List.mem_cons_self
      left
      rcases ih (x + 1) h4 (fun y hy => by have := h3 y hy; have := hb y (List.mem_cons_of_mem _ hy); omega) with h5 | h5
      · simp only [List.length_cons]; omega
      · subst h5; simp; omega
  rcases key s 0 h1 (fun x hx => by have := h2 x hx; omega) with h | h
  · unfold Low1; omega
  · subst h; unfold Low1; simp
theorem srv0_in {o c k : List Int} {rs : List (List (List Int))} (h : Ssn o c k rs) {r : Nat} (hr : r < rs.length) {s : List Int} (hs : Places s o.length) : 0 ≤ srv0 (rs.getD r []) s ∧ srv0 (rs.getD r []) s ≤ 693 := by
  unfold srv0
  split
  · omega
  · exact serve_in (h.fld r hr) hs (by omega)
theorem l10May_eq {o c k : List Int} {rs : List (List (List Int))} (h : Ssn o c k rs) {r : Nat} (hr : r < rs.length) {s : List Int} (hs : Low1 s) : F_zbw o c k rs (r : Int) s = some (mayB o rs r s) := by
  have h5 := h.n5
  have h1 := h.n1
  unfold F_zbw T_zbw mayB
  simp (disch := omega) only [EV, l1Rising_eq hs]
  cases risingB s 0 ((o.length : Int) - 1) with
  | false => rfl
  | true =>
    by_cases hp : 0 < s.length
    · simp (disch := omega) only [EV, hp, show ((0 : Int) < (s.length : Int)) by omega]
      simp
    · have e : (((rs.getD r []).length : Int) == 0) = decide ((rs.getD r []).length = 0) := int_eq _ 0
      simp (disch := omega) only [EV, hp, show ¬ ((0 : Int) < (s.length : Int)) by omega, hr, e]
      simp
theorem isPossible_eq {o c k : List Int} {rs : List (List (List Int))} (h : Ssn o c k rs) {r : Nat} (hr : r < rs.length) {s : List Int} (hs : Low1 s) : F_zaa o c k rs (r : Int) s = some (mayB o rs r s) := by
  have h5 := h.n5
  have h1 := h.n1
  unfold F_zaa T_zaa mayB
  simp (disch := omega) only [EV, isRising_eq hs]
  cases risingB s 0 ((o.length : Int) - 1) with
  | false => rfl
  | true =>
    by_cases hp : 0 < s.length
    · simp (disch := omega) only [EV, hp, show ((0 : Int) < (s.length : Int)) by omega]
      simp
    · have e : (((rs.getD r []).length : Int) == 0) = decide ((rs.getD r []).length = 0) := int_eq _ 0
      simp (disch := omega) only [EV, hp, show ¬ ((0 : Int) < (s.length : Int)) by omega, hr, e]
      simp
theorem serve0_eq {o : List Int} {ds : List (List Int)} (hf : Fld o ds) {s : List Int} (hs : Places s o.length) (hm : 0 < s.length ∨ ds.length = 0) : F_zcv o ds s = some (srv0 ds s) := by
  unfold srv0
  split
  · have hd : ds = [] := List.eq_nil_of_length_eq_zero (by omega)
    subst hd
    unfold F_zcv T_zcv
    have h0 : L_zcv_0 (s, (o, [])) ((0 : Int), (0 : Int)) = some 0 := by
      unfold L_zcv_0
      rw [iter_eq]
      rfl
    simp (disch := omega) only [EV, h0]
  · exact l2Serve_eq hf hs (by omega)
theorem l10Move_eq {o c k : List Int} {rs : List (List (List Int))} (h : Ssn o c k rs) (hS : SetsOK o.length) {r : Nat} (hr : r < rs.length) {a s : List Int} (ha : a ∈ allSets o.length) (hs : s ∈ allSets o.length) (hm : mayB o rs r s = true) :
    F_zbx o c k rs (r : Int) a s = some (mv o c k rs r a s) := by
  have h5 := h.n5
  have hcl := h.cl
  have hkl := h.kl
  have hp : Places s o.length := Places.of (low_of (by omega) hS hs) (hS.rising s hs)
  simp only [mayB, Bool.and_eq_true, Bool.or_eq_true, decide_eq_true_eq] at hm
  have hv := srv0_in h hr hp
  unfold F_zbx T_zbx
  have h0 := (iter_fold (f := fun v => (S_zbx_0 (a, (s, (o, (c, (k, rs))))) v).ev) (n := o.length) (mk := fun i t => (t, (i : Int))) (I := fun i t => 0 ≤ t ∧ t ≤ 693 + 297 * (i : Int)) (g := fun t x => t + wgt o c k a s x) (fin := fun t => t) (s0 := srv0 (rs.getD r []) s) (by omega)
    (fun x t hx hI => by
      have h1 := h.ov x hx
      have h2 := h.cv x hx
      have h3 := h.kv x hx
      have hw := wgt_in h a s hx
      refine ⟨?_, by omega, by omega⟩
      have hxc : x < c.length := by omega
      have hxk : x < k.length := by omega
      simp (disch := omega) only [EV, S_zbx_0, hx, hxc, hxk, hS.has' s hs x hx, hS.has' a ha x hx]
      unfold wgt
      generalize s.contains (x : Int) = b1
      generalize a.contains (x : Int) = b2
      cases b1 <;> cases b2 <;> simp <;> omega)
    (fun s _ => by simp (disch := omega) only [EV, S_zbx_0, Nat.lt_irrefl])).1
  have h0' : L_zbx_0 (a, (s, (o, (c, (k, rs))))) (srv0 (rs.getD r []) s, (0 : Int)) = _ := h0
  simp (disch := omega) only [EV, hr, serve0_eq (h.fld r hr) hp hm.2, h0']
  unfold mv
  rw [foldl_start]
  congr 1
  omega
theorem move_eq {o c k : List Int} {rs : List (List (List Int))} (h : Ssn o c k rs) (hS : SetsOK o.length) {r : Nat} (hr : r < rs.length) {a s : List Int} (ha : a ∈ allSets o.length) (hs : s ∈ allSets o.length) :
    F_zab o c k rs (r : Int) a s = some (mv o c k rs r a s) := by
  have h5 := h.n5
  have hcl := h.cl
  have hkl := h.kl
  have hp : Places s o.length := Places.of (low_of (by omega) hS hs) (hS.rising s hs)
  have hv := srv0_in h hr hp
  have hws := wsum_in h a s
  unfold F_zab T_zab
  have h0 := (iter_fold (f := fun v => (S_zab_0 ((r : Int), (s, ((codeOf a : Int), ((codeOf s : Int), ((o.length : Int), (o, (c, (k, rs)))))))) v).ev) (n := o.length) (mk := fun i t => (t, (i : Int))) (I := fun i t => 0 ≤ t ∧ t ≤ 297 * (i : Int)) (g := fun t x => t + wgt o c k a s x) (fin := fun t => t) (s0 := 0) (by omega)
    (fun x t hx hI => by
      have h1 := h.ov x hx
      have h2 := h.cv x hx
      have h3 := h.kv x hx
      have hw := wgt_in h a s hx
      refine ⟨?_, by omega, by omega⟩
      have hxc : x < c.length := by omega
      have hxk : x < k.length := by omega
      simp (disch := omega) only [EV, S_zab_0, hx, hxc, hxk, hS.has s hs x hx, hS.has a ha x hx]
      unfold wgt
      generalize s.contains (x : Int) = b1
      generalize a.contains (x : Int) = b2
      cases b1 <;> cases b2 <;> simp <;> omega)
    (fun s _ => by simp (disch := omega) only [EV, S_zab_0, Nat.lt_irrefl])).1
  have h0' : L_zab_0 ((r : Int), (s, ((codeOf a : Int), ((codeOf s : Int), ((o.length : Int), (o, (c, (k, rs)))))))) ((0 : Int), (0 : Int)) = _ := h0
  simp (disch := omega) only [EV, hS.bagOf a ha, hS.bagOf s hs, h0']
  unfold mv srv0 at *
  by_cases hz : s.length = 0
  · simp (disch := omega) only [EV, hz, show ¬ ((0 : Int) < ((0 : Nat) : Int)) by omega]
    simp
  · rw [if_neg hz] at *
    simp (disch := omega) only [EV, show ((0 : Int) < (s.length : Int)) by omega, hr, service_eq (h.fld r hr) hp (by omega)]
theorem pow_wrap {n : Nat} (h : n ≤ 7) : IntKind.wrap .i64 ((1 : Int) * 2 ^ (min n (IntKind.bits .i64))) = ((2 ^ n : Nat) : Int) := by
  have : n = 0 ∨ n = 1 ∨ n = 2 ∨ n = 3 ∨ n = 4 ∨ n = 5 ∨ n = 6 ∨ n = 7 := by omega
  rcases this with rfl | rfl | rfl | rfl | rfl | rfl | rfl | rfl <;> rfl
theorem pow_le {n : Nat} (h : n ≤ 7) : 1 ≤ 2 ^ n ∧ 2 ^ n ≤ 128 := by
  have : n = 0 ∨ n = 1 ∨ n = 2 ∨ n = 3 ∨ n = 4 ∨ n = 5 ∨ n = 6 ∨ n = 7 := by omega
  rcases this with rfl | rfl | rfl | rfl | rfl | rfl | rfl | rfl <;> simp
def rowB (n : Nat) (row : List Int) : Bool := decide (row.length = 2 ^ n) && allIn row (-1000000) 1000000
def tabB (o : List Int) (rs : List (List (List Int))) (tb : List (List Int)) : Bool := decide (tb.length = rs.length + 1) && tb.all (rowB o.length)
theorem l10Table_eq {o c k : List Int} {rs : List (List (List Int))} (h : Ssn o c k rs) {tb : List (List Int)} (ht : Low2 tb) : F_zcd o c k rs tb = some (tabB o rs tb) := by
  have h5 := h.n5
  have hR := h.R
  have hl := ht.1
  have h2 : ∀ r, r < tb.length → L_zcd_2 (tb, ((r : Int), (o, (c, (k, rs))))) 0 = some (bif allIn (tb.getD r []) (-1000000) 1000000 then .inl () else .inr ()) := fun r hr => by
    have hrl := ht.2 _ (getD_mem (d := []) hr)
    unfold Low1 at hrl
    have := iter_allR (f := fun v => (S_zcd_2 (tb, ((r : Int), (o, (c, (k, rs))))) v).ev) (n := (tb.getD r []).length) (mk := fun i => (i : Int)) (p := fun i => isIn ((tb.getD r []).getD i 0) (-1000000) 1000000) (yes := .inl ()) (no := .inr ()) (fun i hi _ => by
      simp (disch := omega) only [EV, S_zcd_2, hr, hi, l1In_eq]
      cases isIn ((tb.getD r []).getD i 0) (-1000000) 1000000 <;> rfl) (by simp (disch := omega) only [EV, S_zcd_2, hr, Nat.lt_irrefl])
    rw [all_range (tb.getD r []) 0 (fun x => isIn x (-1000000) 1000000)] at this
    exact this
  have h0 := iter_allR (f := fun v => (S_zcd_0 (tb, (o, (c, (k, rs)))) v).ev) (n := tb.length) (mk := fun i => (i : Int)) (p := fun i => rowB o.length (tb.getD i [])) (yes := .inl ()) (no := .inr ()) (fun r hr _ => by
    simp (disch := omega) only [EV, S_zcd_0, hr, show (0 : Int) ≤ (o.length : Int) by omega, pow_wrap (n := o.length) (by omega), int_ne, h2 r hr]
    unfold rowB
    cases decide ((tb.getD r []).length = 2 ^ o.length) <;> cases allIn (tb.getD r []) (-1000000) 1000000 <;> rfl) (by simp (disch := omega) only [EV, S_zcd_0, Nat.lt_irrefl])
  rw [all_range tb [] (rowB o.length)] at h0
  have h0' : L_zcd_0 (tb, (o, (c, (k, rs)))) 0 = _ := h0
  unfold F_zcd T_zcd tabB
  have e : ((tb.length : Int) == (rs.length : Int) + 1) = decide (tb.length = rs.length + 1) := int_eq tb.length (rs.length + 1)
  simp (disch := omega) only [EV, h0', e]
  cases tb.all (rowB o.length) <;> cases decide (tb.length = rs.length + 1) <;> rfl
structure Tab (o : List Int) (rs : List (List (List Int))) (tb : List (List Int)) : Prop where
  len : tb.length = rs.length + 1
  row : ∀ r, r ≤ rs.length → (tb.getD r []).length = 2 ^ o.length
  val : ∀ r i, r ≤ rs.length → i < 2 ^ o.length → -1000000 ≤ (tb.getD r []).getD i 0 ∧ (tb.getD r []).getD i 0 ≤ 1000000
theorem tab_of {o : List Int} {rs : List (List (List Int))} {tb : List (List Int)} (h : tabB o rs tb = true) : Tab o rs tb := by
  simp only [tabB, Bool.and_eq_true, decide_eq_true_eq, List.all_eq_true, rowB] at h
  have h1 : ∀ r, r ≤ rs.length → _ := fun r hr => h.2 _ (getD_mem (d := []) (show r < tb.length by omega))
  exact ⟨h.1, fun r hr => (h1 r hr).1, fun r i hr hi => allIn_getD (h1 r hr).2 (by rw [(h1 r hr).1]; exact hi)⟩
def okAt (o c k : List Int) (rs : List (List (List Int))) (tb : List (List Int)) (r : Nat) (a s : List Int) : Bool := decide ((tb.getD r []).getD (codeOf a) 0 ≤ mv o c k rs r a s + (tb.getD (r + 1) []).getD (codeOf s) 0)
def setAt (n i : Nat) : List Int := (allSets n).getD i []
def safeB (o c k : List Int) (rs : List (List (List Int))) (tb : List (List Int)) : Bool := (List.range (2 ^ o.length)).all fun i => decide ((tb.getD rs.length []).getD i 0 ≤ 0) &&
  (List.range rs.length).all fun r => (List.range (2 ^ o.length)).all fun j => !mayB o rs r (setAt o.length j) || okAt o c k rs tb r (setAt o.length i) (setAt o.length j)
theorem setAt_mem {n i : Nat} (hS : SetsOK n) (hi : i < 2 ^ n) : setAt n i ∈ allSets n := getD_mem (by rw [hS.len]; exact hi)
theorem mv_in {o c k : List Int} {rs : List (List (List Int))} (h : Ssn o c k rs) (hS : SetsOK o.length) {r : Nat} (hr : r < rs.length) (a : List Int) {s : List Int} (hs : s ∈ allSets o.length) : 0 ≤ mv o c k rs r a s ∧ mv o c k rs r a s ≤ 2178 := by
  have h5 := h.n5
  have hv := srv0_in h hr (Places.of (low_of (by omega) hS hs) (hS.rising s hs))
  have hws := wsum_in h a s
  unfold mv
  omega
theorem l10Sets_eq {o : List Int} (c k : List Int) (rs : List (List (List Int))) (h7 : o.length ≤ 7) (hS : SetsOK o.length) : F_zcb o c k rs = some (allSets o.length) := by
  have hlen := hS.len
  have hp := pow_le h7
  unfold F_zcb T_zcb
  have e : (setsOf o.length).length + 1 = 2 ^ o.length := by rw [← hlen]; rfl
  have hg : (1 + (setsOf o.length).length) * 24 ≤ 140737488355328 := by omega
  simp (disch := omega) only [EV, hS.sp, List.length_singleton, hg]
  rfl
theorem l10Safe_eq {o c k : List Int} {rs : List (List (List Int))} (h : Ssn o c k rs) (hS : SetsOK o.length) {tb : List (List Int)} (ht : Tab o rs tb) : F_zca o c k rs tb = some (safeB o c k rs tb) := by
  have h5 := h.n5
  have hR := h.R
  have hlen := hS.len
  have hp := pow_le (n := o.length) (by omega)
  have htl := ht.len
  have h4 : ∀ i r : Nat, i < 2 ^ o.length → r < rs.length → L_zca_4 (tb, ((i : Int), ((r : Int), (o, (c, (k, (rs, allSets o.length))))))) 0 = some (bif (List.range (2 ^ o.length)).all fun j => !mayB o rs r (setAt o.length j) || okAt o c k rs tb r (setAt o.length i) (setAt o.length j) then .inl () else .inr ()) := fun i r hi hr => by
    have hia := setAt_mem hS hi
    have hil := hS.lt _ hia
    refine iter_allR (f := fun v => (S_zca_4 (tb, ((i : Int), ((r : Int), (o, (c, (k, (rs, allSets o.length))))))) v).ev) (n := 2 ^ o.length) (mk := fun i => (i : Int)) (p := fun j => !mayB o rs r (setAt o.length j) || okAt o c k rs tb r (setAt o.length i) (setAt o.length j)) (yes := .inl ()) (no := .inr ()) (fun j hj _ => ?_) (by simp (disch := omega) only [EV, S_zca_4, hlen, Nat.lt_irrefl])
    have hja := setAt_mem hS hj
    have hjl := hS.lt _ hja
    have e1 : (allSets o.length).getD j [] = setAt o.length j := rfl
    have e2 : (allSets o.length).getD i [] = setAt o.length i := rfl
    simp (disch := omega) only [EV, S_zca_4, hlen, hj, e1, l10May_eq h hr (low_of (by omega) hS hja)]
    cases hm : mayB o rs r (setAt o.length j) with
    | false => rfl
    | true =>
      have hmv := mv_in h hS hr (setAt o.length i) hja
      have ht1 : r < tb.length := by omega
      have ht2 : r + 1 < tb.length := by omega
      have hv1 := ht.val r (codeOf (setAt o.length i)) (by omega) hil
      have hv2 := ht.val (r + 1) (codeOf (setAt o.length j)) (by omega) hjl
      have e3 : (r : Int) + 1 = ((r + 1 : Nat) : Int) := by omega
      simp (disch := omega) only [EV, ht1, hi, hj, e2, hS.code _ hia, ht.row r (by omega), hil, l10Move_eq h hS hr hia hja hm, e3, ht2, hS.code _ hja, ht.row (r + 1) (by omega), hjl]
      unfold okAt
      by_cases hq : (tb.getD r []).getD (codeOf (setAt o.length i)) 0 ≤ mv o c k rs r (setAt o.length i) (setAt o.length j) + (tb.getD (r + 1) []).getD (codeOf (setAt o.length j)) 0
      · rw [if_neg (by omega), decide_eq_true hq]; rfl
      · rw [if_pos (by omega), decide_eq_false hq]; rfl
  have h2 : ∀ i : Nat, i < 2 ^ o.length → L_zca_2 (tb, ((i : Int), (o, (c, (k, (rs, allSets o.length)))))) 0 = some (bif (List.range rs.length).all fun r => (List.range (2 ^ o.length)).all fun j => !mayB o rs r (setAt o.length j) || okAt o c k rs tb r (setAt o.length i) (setAt o.length j) then .inl () else .inr ()) := fun i hi =>
    iter_allR (f := fun v => (S_zca_2 (tb, ((i : Int), (o, (c, (k, (rs, allSets o.length)))))) v).ev) (n := rs.length) (mk := fun i => (i : Int)) (p := fun r => (List.range (2 ^ o.length)).all fun j => !mayB o rs r (setAt o.length j) || okAt o c k rs tb r (setAt o.length i) (setAt o.length j)) (yes := .inl ()) (no := .inr ()) (fun r hr _ => by
      simp (disch := omega) only [EV, S_zca_2, hr, h4 i r hi hr]
      cases (List.range (2 ^ o.length)).all fun j => !mayB o rs r (setAt o.length j) || okAt o c k rs tb r (setAt o.length i) (setAt o.length j) <;> rfl) (by simp (disch := omega) only [EV, S_zca_2, Nat.lt_irrefl])
  have h0 := iter_allR (f := fun v => (S_zca_0 (tb, (o, (c, (k, (rs, allSets o.length))))) v).ev) (n := 2 ^ o.length) (mk := fun i => (i : Int)) (p := fun i => decide ((tb.getD rs.length []).getD i 0 ≤ 0) &&
      (List.range rs.length).all fun r => (List.range (2 ^ o.length)).all fun j => !mayB o rs r (setAt o.length j) || okAt o c k rs tb r (setAt o.length i) (setAt o.length j)) (yes := .inl ()) (no := .inr ()) (fun i hi _ => by
    simp (disch := omega) only [EV, S_zca_0, hlen, hi, show rs.length < tb.length by omega, ht.row rs.length (Nat.le_refl _), h2 i hi]
    by_cases hq : (tb.getD rs.length []).getD i 0 ≤ 0
    · rw [if_neg (by omega), decide_eq_true hq, Bool.true_and]
      cases (List.range rs.length).all fun r => (List.range (2 ^ o.length)).all fun j => !mayB o rs r (setAt o.length j) || okAt o c k rs tb r (setAt o.length i) (setAt o.length j) <;> rfl
    · rw [if_pos (by omega), decide_eq_false hq]; rfl) (by simp (disch := omega) only [EV, S_zca_0, hlen, Nat.lt_irrefl])
  have h0' : L_zca_0 (tb, (o, (c, (k, (rs, allSets o.length))))) 0 = _ := h0
  unfold F_zca T_zca safeB
  simp (disch := omega) only [EV, l10Sets_eq c k rs (by omega) hS, h0']
  cases (List.range (2 ^ o.length)).all fun i => decide ((tb.getD rs.length []).getD i 0 ≤ 0) &&
      (List.range rs.length).all fun r => (List.range (2 ^ o.length)).all fun j => !mayB o rs r (setAt o.length j) || okAt o c k rs tb r (setAt o.length i) (setAt o.length j) <;> rfl
theorem all_filter {α : Type} (l : List α) (m p : α → Bool) : (l.filter m).all p = l.all fun x => !m x || p x := by
  induction l with
  | nil => rfl
  | cons x l ih =>
    rw [List.filter_cons]
    cases h : m x with
    | true => simp [h, ih]
    | false => simp [h, ih]
theorem SetsOK.inj {n : Nat} (hS : SetsOK n) {s t : List Int} (hs : s ∈ allSets n) (ht : t ∈ allSets n) (h : codeOf s = codeOf t) : s = t := by
  have h1 := hS.list s hs
  have h2 := hS.list t ht
  rw [h, h2] at h1
  exact (Option.some.inj h1).symm
def ofCode (n b : Nat) : List Int := ((allSets n).find? fun s => Nat.beq (codeOf s) b).getD []
theorem ofCode_ok {n b : Nat} (hS : SetsOK n) (hb : b < 2 ^ n) : ofCode n b ∈ allSets n ∧ codeOf (ofCode n b) = b := by
  obtain ⟨s, h1, h2⟩ := hS.all b hb
  unfold ofCode
  cases hf : (allSets n).find? fun s => Nat.beq (codeOf s) b with
  | none =>
    have := List.find?_eq_none.1 hf s h1
    rw [h2] at this
    simp at this
  | some t =>
    have h3 := List.find?_some hf
    exact ⟨List.mem_of_find?_eq_some hf, Nat.eq_of_beq_eq_true h3⟩
theorem wrapU {n : Int} (h0 : 0 ≤ n) (h1 : n < 128) : IntKind.wrap .u64 n = n := by
  have e : IntKind.wrap .u64 n = n % 18446744073709551616 := rfl
  rw [e]
  omega
theorem lists_eq {n : Nat} (h7 : n ≤ 7) (hS : SetsOK n) {p : HL [.slice (.int .i64)] → Option Bool} {q : List Int → Bool} (hp : ∀ s ∈ allSets n, p (s, ()) = some (q s)) : F_zam (n : Int) p = some ((allSets n).filter q) := by
  have hlen := hS.len
  have hpw := pow_le h7
  have e : (setsOf n).length + 1 = 2 ^ n := by rw [← hlen]; rfl
  have hg : (1 + (setsOf n).length) * 24 ≤ 140737488355328 := by omega
  have e2 : [([] : List Int)] ++ setsOf n = allSets n := rfl
  unfold F_zam T_zam
  have h0 := (iter_fold (f := fun v => (S_zam_0 (p, ((((allSets n).length : Nat) : Int), allSets n)) v).ev) (n := (allSets n).length) (mk := fun i (_ : Unit) => ((i : Int), ((allSets n).take i).filter q)) (I := fun _ _ => True) (g := fun s _ => s) (fin := fun _ => (allSets n).filter q) (s0 := ()) trivial
    (fun i s hi _ => ⟨by
      have hm := getD_mem (d := []) hi
      have hl : (((allSets n).take i).filter q).length ≤ 128 := by
        have h1 := List.length_filter_le q ((allSets n).take i)
        have h2 := List.length_take_le i (allSets n)
        omega
      have hg2 : ((((allSets n).take i).filter q).length + 1) * 24 ≤ 140737488355328 := by omega
      have et : (allSets n).take (i + 1) = (allSets n).take i ++ [(allSets n).getD i []] := by
        rw [List.take_succ_eq_append_getElem hi, List.getD_eq_getElem?_getD, List.getElem?_eq_getElem hi]
        rfl
      simp (disch := omega) only [EV, S_zam_0, hi, hp _ hm, List.length_singleton, hg2]
      rw [et, List.filter_append, List.filter_cons, List.filter_nil]
      cases q ((allSets n).getD i []) with
      | true => rfl
      | false => simp, trivial⟩)
    (fun s _ => by simp (disch := omega) only [EV, S_zam_0, Nat.lt_irrefl, List.take_length])).1
  have h0' : L_zam_0 (p, ((((allSets n).length : Nat) : Int), allSets n)) ((0 : Int), []) = some ((allSets n).filter q) := h0
  simp (disch := omega) only [EV, hS.im, List.length_singleton, hg, e2, h0']
theorem choices_eq {o c k : List Int} {rs : List (List (List Int))} (h : Ssn o c k rs) (hS : SetsOK o.length) {r : Nat} (hr : r < rs.length) : F_zv o c k rs (r : Int) = some ((allSets o.length).filter (mayB o rs r)) := by
  have h5 := h.n5
  unfold F_zv T_zv
  have := lists_eq (n := o.length) (by omega) hS (p := fun h1_ => Option.bind (F_zw h1_.1 o c k rs (r : Int)) fun y2_ => some y2_) (q := mayB o rs r) fun s hs => by
    unfold F_zw T_zw
    simp (disch := omega) only [EV, isPossible_eq h hr (low_of (by omega) hS hs)]
  simp (disch := omega) only [EV, this]
theorem foldl_max_le (b : Int) : ∀ (l : List Int) (a : Int), l.foldl (fun a x => max a x) a ≤ b ↔ a ≤ b ∧ ∀ x ∈ l, x ≤ b
  | [], a => by simp
  | x :: l, a => by
    rw [List.foldl_cons, foldl_max_le b l]
    simp only [List.mem_cons, forall_eq_or_imp, Int.max_le, and_assoc]
def safeI (o c k : List Int) (rs : List (List (List Int))) (tb : List (List Int)) : Bool := (List.range rs.length).all fun r => (List.range (2 ^ o.length)).all fun b => ((allSets o.length).filter (mayB o rs r)).all fun s => okAt o c k rs tb r (ofCode o.length b) s
theorem safe_same {o c k : List Int} {rs : List (List (List Int))} {tb : List (List Int)} (hS : SetsOK o.length) (ht : Tab o rs tb) :
    safeB o c k rs tb = (decide ((tb.getD rs.length []).foldl (fun a x => max a x) ((tb.getD rs.length []).getD 0 0) ≤ 0) && safeI o c k rs tb) := by
  have hrow := ht.row rs.length (Nat.le_refl _)
  have hpw : 0 < 2 ^ o.length := Nat.pos_of_ne_zero (by simp)
  rw [Bool.eq_iff_iff]
  simp only [safeB, safeI, all_filter, List.all_eq_true, List.mem_range, Bool.and_eq_true, decide_eq_true_eq, foldl_max_le]
  constructor
  · intro h
    refine ⟨⟨(h 0 hpw).1, fun x hx => ?_⟩, fun r hr b hb s hs => ?_⟩
    · obtain ⟨i, hi, e⟩ := List.getElem_of_mem hx
      have := (h i (by omega)).1
      rw [List.getD_eq_getElem?_getD, List.getElem?_eq_getElem hi, Option.getD_some, e] at this
      exact this
    · obtain ⟨h1, h2⟩ := ofCode_ok hS hb
      obtain ⟨i, hi, e⟩ := List.getElem_of_mem h1
      obtain ⟨j, hj, e'⟩ := List.getElem_of_mem hs
      have := (h i (by rw [← hS.len]; exact hi)).2 r hr j (by rw [← hS.len]; exact hj)
      have e3 : setAt o.length i = ofCode o.length b := by unfold setAt; rw [List.getD_eq_getElem?_getD, List.getElem?_eq_getElem hi, Option.getD_some, e]
      have e4 : setAt o.length j = s := by unfold setAt; rw [List.getD_eq_getElem?_getD, List.getElem?_eq_getElem hj, Option.getD_some, e']
      rw [e3, e4] at this
      exact this
  · rintro ⟨⟨_, h1⟩, h2⟩ i hi
    refine ⟨h1 _ (getD_mem (by omega)), fun r hr j hj => ?_⟩
    have hia := setAt_mem hS hi
    have hb := hS.lt _ hia
    have := h2 r hr _ hb _ (setAt_mem hS hj)
    have e : ofCode o.length (codeOf (setAt o.length i)) = setAt o.length i := hS.inj (ofCode_ok hS hb).1 hia (ofCode_ok hS hb).2
    rw [e] at this
    exact this
theorem arePotentials_eq {o c k : List Int} {rs : List (List (List Int))} (h : Ssn o c k rs) (hS : SetsOK o.length) {tb : List (List Int)} (htl : Low2 tb) : F_zt o c k rs tb = some (tabB o rs tb && safeB o c k rs tb) := by
  have h5 := h.n5
  have hR := h.R
  have hlen := hS.len
  have hp := pow_le (n := o.length) (by omega)
  have hl := htl.1
  unfold F_zt T_zt
  have e : ((tb.length : Int) != (rs.length : Int) + 1) = !decide (tb.length = rs.length + 1) := int_ne tb.length (rs.length + 1)
  have hc := containsFunc_Sint (l := tb) (by omega) (p := fun h1_ => Option.bind (F_zu h1_.1 o c k rs) fun y2_ => some y2_) (q := fun row => !rowB o.length row) fun row hrow => by
    unfold F_zu T_zu rowB
    by_cases hq : row.length = 2 ^ o.length
    · simp (disch := omega) only [EV, show (0 : Int) ≤ (o.length : Int) by omega, pow_wrap (n := o.length) (by omega), int_ne, hq, areBetween_eq (htl.2 row hrow)]
    · simp (disch := omega) only [EV, show (0 : Int) ≤ (o.length : Int) by omega, pow_wrap (n := o.length) (by omega), int_ne, hq]
  have hcb : tb.any (fun row => !rowB o.length row) = !tb.all (rowB o.length) := by
    rw [List.any_eq_not_all_not]
    simp
  rw [hcb] at hc
  have htb : tabB o rs tb = (decide (tb.length = rs.length + 1) && tb.all (rowB o.length)) := rfl
  have e0 : (((rs.length + 1 : Nat) : Int) != (rs.length : Int) + 1) = false := by simp
  by_cases hlt : tb.length = rs.length + 1
  case neg =>
    rw [htb, decide_eq_false hlt]
    simp (disch := omega) only [EV, e, hlt]
  cases hall : tb.all (rowB o.length) with
  | false =>
    rw [htb, hall]
    rw [hall] at hc
    simp (disch := omega) only [EV, e0, hlt, hc]
  | true =>
  have ht : Tab o rs tb := tab_of (by rw [htb, hall, decide_eq_true hlt]; rfl)
  rw [hall] at hc
  have hrow := ht.row rs.length (Nat.le_refl _)
  have h4 : ∀ r b : Nat, r < rs.length → b < 2 ^ o.length → L_zt_4 (tb, ((r : Int), ((b : Int), ((tb.getD r []).getD b 0, ((rs.length : Int), ((r : Int), (tb.getD r [], ((2 ^ o.length : Nat) : Int), ((b : Int), (((((allSets o.length).filter (mayB o rs r)).length : Nat) : Int), (o, (c, (k, (rs, (allSets o.length).filter (mayB o rs r)))))))))))))) 0 =
      some (bif ((allSets o.length).filter (mayB o rs r)).all (fun s => okAt o c k rs tb r (ofCode o.length b) s) then .inl () else .inr ()) := fun r b hr hb => by
    obtain ⟨hbm, hbc⟩ := ofCode_ok hS hb
    have := iter_allR (f := fun v => (S_zt_4 (tb, ((r : Int), ((b : Int), ((tb.getD r []).getD b 0, ((rs.length : Int), ((r : Int), (tb.getD r [], ((2 ^ o.length : Nat) : Int), ((b : Int), (((((allSets o.length).filter (mayB o rs r)).length : Nat) : Int), (o, (c, (k, (rs, (allSets o.length).filter (mayB o rs r)))))))))))))) v).ev) (n := ((allSets o.length).filter (mayB o rs r)).length) (mk := fun i => (i : Int)) (p := fun j => okAt o c k rs tb r (ofCode o.length b) (((allSets o.length).filter (mayB o rs r)).getD j [])) (yes := .inl ()) (no := .inr ()) (fun j hj _ => by
      have hjm := getD_mem (d := []) hj
      have hja := (List.mem_filter.1 hjm).1
      have hjl := hS.lt _ hja
      have hmv := mv_in h hS hr (ofCode o.length b) hja
      have hll : ((allSets o.length).filter (mayB o rs r)).length ≤ 128 := by
        have h1 := List.length_filter_le (mayB o rs r) (allSets o.length)
        omega
      have e3 : (r : Int) + 1 = ((r + 1 : Nat) : Int) := by omega
      have e4 : F_zah (b : Int) = some (ofCode o.length b) := by
        have := hS.list _ hbm
        rw [hbc] at this
        exact this
      have hv1 := ht.val r b (by omega) hb
      have hv2 := ht.val (r + 1) (codeOf (((allSets o.length).filter (mayB o rs r)).getD j [])) (by omega) hjl
      simp (disch := omega) only [EV, S_zt_4, hj, wrapU (n := (b : Int)) (by omega) (by omega), e4, move_eq h hS hr hbm hja, e3, show r + 1 < tb.length by omega, hS.bagOf _ hja, ht.row (r + 1) (by omega), hjl]
      unfold okAt
      rw [hbc]
      by_cases hq : (tb.getD r []).getD b 0 ≤ mv o c k rs r (ofCode o.length b) (((allSets o.length).filter (mayB o rs r)).getD j []) + (tb.getD (r + 1) []).getD (codeOf (((allSets o.length).filter (mayB o rs r)).getD j [])) 0
      · rw [if_neg (by omega), decide_eq_true hq]; rfl
      · rw [if_pos (by omega), decide_eq_false hq]; rfl) (by simp (disch := omega) only [EV, S_zt_4, Nat.lt_irrefl])
    rw [all_range ((allSets o.length).filter (mayB o rs r)) [] (fun s => okAt o c k rs tb r (ofCode o.length b) s)] at this
    exact this
  have h2 : ∀ r : Nat, r < rs.length → L_zt_2 (tb, ((r : Int), ((rs.length : Int), ((r : Int), (tb.getD r [], (((2 ^ o.length : Nat) : Int), (o, (c, (k, rs))))))))) 0 =
      some (bif (List.range (2 ^ o.length)).all fun b => ((allSets o.length).filter (mayB o rs r)).all fun s => okAt o c k rs tb r (ofCode o.length b) s then .inl () else .inr ()) := fun r hr =>
    iter_allR (f := fun v => (S_zt_2 (tb, ((r : Int), ((rs.length : Int), ((r : Int), (tb.getD r [], (((2 ^ o.length : Nat) : Int), (o, (c, (k, rs))))))))) v).ev) (n := 2 ^ o.length) (mk := fun i => (i : Int)) (p := fun b => ((allSets o.length).filter (mayB o rs r)).all fun s => okAt o c k rs tb r (ofCode o.length b) s) (yes := .inl ()) (no := .inr ()) (fun b hb _ => by
      simp (disch := omega) only [EV, S_zt_2, hb, ht.row r (by omega), choices_eq h hS hr, h4 r b hr hb]
      cases ((allSets o.length).filter (mayB o rs r)).all fun s => okAt o c k rs tb r (ofCode o.length b) s <;> rfl) (by simp (disch := omega) only [EV, S_zt_2, Nat.lt_irrefl])
  have h0 := iter_allR (f := fun v => (S_zt_0 (tb, ((rs.length : Int), (o, (c, (k, rs))))) v).ev) (n := rs.length) (mk := fun i => (i : Int)) (p := fun r => (List.range (2 ^ o.length)).all fun b => ((allSets o.length).filter (mayB o rs r)).all fun s => okAt o c k rs tb r (ofCode o.length b) s) (yes := .inl ()) (no := .inr ()) (fun r hr _ => by
    simp (disch := omega) only [EV, S_zt_0, hr, show r < tb.length by omega, ht.row r (by omega), h2 r hr]
    cases (List.range (2 ^ o.length)).all fun b => ((allSets o.length).filter (mayB o rs r)).all fun s => okAt o c k rs tb r (ofCode o.length b) s <;> rfl) (by simp (disch := omega) only [EV, S_zt_0, Nat.lt_irrefl])
  have h0' : L_zt_0 (tb, ((rs.length : Int), (o, (c, (k, rs))))) 0 = some (bif safeI o c k rs tb then .inl () else .inr ()) := h0
  rw [safe_same hS ht, htb, hall, decide_eq_true hlt]
  simp (disch := omega) only [EV, e0, hlt, hc, show rs.length < rs.length + 1 by omega, slicesMax_eq (l := tb.getD rs.length []) (by omega) (by omega), h0']
  generalize (tb.getD rs.length []).foldl (fun a x => max a x) ((tb.getD rs.length []).getD 0 0) = m
  by_cases hm : m ≤ 0
  · rw [if_neg (by omega), decide_eq_true hm]
    cases safeI o c k rs tb <;> rfl
  · rw [if_pos (by omega), decide_eq_false hm]
    rfl
end Go.Proofs.YtlmbhkmaflhagaaGreat
/-
  Plain laws: the least costs from each round on.
-/
namespace Go.Proofs.YtlmbhkmaflhagaaGreat
theorem least_eq {l : List (List Int)} (h0 : 0 < l.length) (hl : (l.length : Int) ≤ 1048576) {p : HL [.slice (.int .i64)] → Option Int} {g : List Int → Int} (hp : ∀ s ∈ l, p (s, ()) = some (g s)) : F_zal l p = some (firstMin g l) := by
  unfold F_zal T_zal
  have h := iter_fold (f := fun v => (S_zal_0 (p, (l, (l.length : Int))) v).ev) (n := l.length) (mk := fun i s => (s, (i : Int))) (I := fun i s => ∃ k, k < l.length ∧ s = l.getD k [] ∧ (∀ j, j < i → g s ≤ g (l.getD j [])) ∧ ∀ j, j < k → g s < g (l.getD j [])) (g := fun s i => if g (l.getD i []) < g s then l.getD i [] else s) (fin := fun s => s) (s0 := l.getD 0 []) ⟨0, h0, rfl, fun j hj => by omega, fun j hj => by omega⟩
    (fun i s hi hI => by
      obtain ⟨k, hk, rfl, hle, hlt⟩ := hI
      have hm := getD_mem (d := []) hi
      have hm2 := getD_mem (d := []) hk
      by_cases hq : g (l.getD i []) < g (l.getD k [])
      · refine ⟨?_, ?_⟩
        · simp (disch := omega) only [EV, S_zal_0, hi, hp _ hm, hp _ hm2, hq]
          rfl
        · rw [if_pos hq]
          refine ⟨i, hi, rfl, fun j hj => ?_, fun j hj => ?_⟩
          · by_cases e : j = i
            · rw [e]; omega
            · have := hle j (by omega); omega
          · have := hle j hj; omega
      · refine ⟨?_, ?_⟩
        · simp (disch := omega) only [EV, S_zal_0, hi, hp _ hm, hp _ hm2, hq]
          rfl
        · rw [if_neg hq]
          refine ⟨k, hk, rfl, fun j hj => ?_, hlt⟩
          by_cases e : j = i
          · rw [e]; omega
          · exact hle j (by omega))
    (fun s _ => by simp (disch := omega) only [EV, S_zal_0, Nat.lt_irrefl])
  have h1 : L_zal_0 (p, (l, (l.length : Int))) (l.getD 0 [], (0 : Int)) = _ := h.1
  obtain ⟨k, hk, e, hle, hlt⟩ := h.2
  rw [e] at h1 hle hlt
  have h1' : L_zal_0 (p, (l, (l.length : Int))) (l.getD 0 [], (0 : Int)) = some (firstMin g l) := by
    rw [h1]
    congr 1
    refine (firstMin_at hk (fun s hs => ?_) hlt).symm
    obtain ⟨j, hj, e⟩ := List.getElem_of_mem hs
    have := hle j hj
    rw [show l.getD j [] = s by rw [List.getD_eq_getElem?_getD, List.getElem?_eq_getElem hj, Option.getD_some, e]] at this
    exact this
  simp (disch := omega) only [EV, show inR (0 : Int) l.length = true from inR_int (by omega) (by omega), show Int.toNat 0 = 0 from rfl, h1']
def cst (o c k : List Int) (rs : List (List (List Int))) (r : Nat) (nx a s : List Int) : Int := mv o c k rs r a s + nx.getD (codeOf s) 0
def choice (o : List Int) (rs : List (List (List Int))) (r : Nat) : List (List Int) := (allSets o.length).filter (mayB o rs r)
def bst (o c k : List Int) (rs : List (List (List Int))) (r : Nat) (nx a : List Int) : Int := lstMin ((choice o rs r).map (cst o c k rs r nx a))
def rowFn (o c k : List Int) (rs : List (List (List Int))) (r : Nat) (nx : List Int) : List Int := (List.range (2 ^ o.length)).map fun b => bst o c k rs r nx (ofCode o.length b)
def futStep (o c k : List Int) (rs : List (List (List Int))) (t : List (List Int)) (i : Nat) : List (List Int) := rowFn o c k rs (rs.length - 1 - i) (t.getD 0 []) :: t
def futs (o c k : List Int) (rs : List (List (List Int))) : List (List Int) := (List.range rs.length).foldl (futStep o c k rs) [List.replicate (2 ^ o.length) 0]
theorem choice_pos {o c k : List Int} {rs : List (List (List Int))} (h : Ssn o c k rs) (hS : SetsOK o.length) (r : Nat) : ([0] : List Int) ∈ choice o rs r := by
  have h1 := h.n1
  have hr : risingB [0] 0 ((o.length : Int) - 1) = true := by
    rw [risingB_iff]
    refine ⟨fun x hx => ?_, by simp⟩
    simp only [List.mem_singleton] at hx
    omega
  refine List.mem_filter.2 ⟨hS.mem _ hr, ?_⟩
  simp [mayB, hr]
theorem choice_len {o : List Int} (h7 : o.length ≤ 7) (hS : SetsOK o.length) (rs : List (List (List Int))) (r : Nat) : (choice o rs r).length ≤ 128 := by
  have h1 := List.length_filter_le (mayB o rs r) (allSets o.length)
  have h2 := hS.len
  have h3 := pow_le h7
  unfold choice
  omega
structure RowOK (n : Nat) (M : Int) (row : List Int) : Prop where
  len : row.length = 2 ^ n
  val : ∀ i, i < 2 ^ n → 0 ≤ row.getD i 0 ∧ row.getD i 0 ≤ M
theorem cst_in {o c k : List Int} {rs : List (List (List Int))} (h : Ssn o c k rs) (hS : SetsOK o.length) {r : Nat} (hr : r < rs.length) {M : Int} {nx : List Int} (hn : RowOK o.length M nx) (a : List Int) {s : List Int} (hs : s ∈ allSets o.length) : 0 ≤ cst o c k rs r nx a s ∧ cst o c k rs r nx a s ≤ M + 2178 := by
  have h1 := mv_in h hS hr a hs
  have h2 := hn.val _ (hS.lt s hs)
  unfold cst
  omega
theorem bst_in {o c k : List Int} {rs : List (List (List Int))} (h : Ssn o c k rs) (hS : SetsOK o.length) {r : Nat} (hr : r < rs.length) {M : Int} {nx : List Int} (hn : RowOK o.length M nx) (a : List Int) : 0 ≤ bst o c k rs r nx a ∧ bst o c k rs r nx a ≤ M + 2178 := by
  have hne : (choice o rs r).map (cst o c k rs r nx a) ≠ [] := fun e => by
    have := List.mem_map_of_mem (f := cst o c k rs r nx a) (choice_pos h hS r)
    rw [e] at this
    cases this
  obtain ⟨h1, _⟩ := lstMin_spec hne
  obtain ⟨s, h2, h3⟩ := List.mem_map.1 h1
  have := cst_in h hS hr hn a (List.mem_filter.1 h2).1
  unfold bst
  rw [← h3]
  exact this
theorem rowFn_getD {o c k : List Int} {rs : List (List (List Int))} {r : Nat} {nx : List Int} {b : Nat} (hb : b < 2 ^ o.length) : (rowFn o c k rs r nx).getD b 0 = bst o c k rs r nx (ofCode o.length b) := by
  unfold rowFn
  simp [List.getD_eq_getElem?_getD, hb]
theorem rowFn_ok {o c k : List Int} {rs : List (List (List Int))} (h : Ssn o c k rs) (hS : SetsOK o.length) {r : Nat} (hr : r < rs.length) {M : Int} {nx : List Int} (hn : RowOK o.length M nx) : RowOK o.length (M + 2178) (rowFn o c k rs r nx) :=
  ⟨by simp [rowFn], fun i hi => by rw [rowFn_getD hi]; exact bst_in h hS hr hn _⟩
theorem row_ext {n : Nat} {a b : List Int} (ha : a.length = 2 ^ n) (hb : b.length = 2 ^ n) (h : ∀ i, i < 2 ^ n → a.getD i 0 = b.getD i 0) : a = b := by
  refine List.ext_getElem (by omega) fun i hi hi' => ?_
  have := h i (by omega)
  rw [List.getD_eq_getElem?_getD, List.getD_eq_getElem?_getD, List.getElem?_eq_getElem hi, List.getElem?_eq_getElem hi'] at this
  exact this
def FI (n i : Nat) (t : List (List Int)) : Prop := t.length = i + 1 ∧ RowOK n (2178 * (i : Int)) (t.getD 0 [])
theorem FI.zero (n : Nat) : FI n 0 [List.replicate (2 ^ n) 0] := ⟨rfl, by simp, fun i hi => by simp [List.getD_eq_getElem?_getD, hi]⟩
theorem FI.step {o c k : List Int} {rs : List (List (List Int))} (h : Ssn o c k rs) (hS : SetsOK o.length) {i : Nat} (hi : i < rs.length) {t : List (List Int)} (hI : FI o.length i t) : FI o.length (i + 1) (futStep o c k rs t i) := by
  refine ⟨by simp [futStep, hI.1], ?_⟩
  have := rowFn_ok h hS (r := rs.length - 1 - i) (by omega) hI.2
  have e : (2178 * ((i + 1 : Nat) : Int)) = 2178 * (i : Int) + 2178 := by omega
  rw [e]
  exact this
theorem sp_best {o c k : List Int} {rs : List (List (List Int))} (h : Ssn o c k rs) (hS : SetsOK o.length) {r : Nat} (hr : r < rs.length) {M : Int} (hM : M ≤ 100000) {t : List (List Int)} (ht0 : 0 < t.length) (hn : RowOK o.length M (t.getD 0 [])) {i : Nat} (hi : i < 2 ^ o.length) (row : List Int) :
    L_zbu_4 ((r : Int), ((i : Int), (o, (c, (k, (rs, (t, (allSets o.length, row)))))))) ((-1 : Int), (0 : Int)) = some (bst o c k rs r (t.getD 0 []) (setAt o.length i)) := by
  have h5 := h.n5
  have hlen := hS.len
  have hp := pow_le (n := o.length) (by omega)
  have hia := setAt_mem hS hi
  have h0 := iter_fold (f := fun v => (S_zbu_4 ((r : Int), ((i : Int), (o, (c, (k, (rs, (t, (allSets o.length, row)))))))) v).ev) (n := 2 ^ o.length) (mk := fun j m => (m, (j : Int))) (I := fun j m => RM j (fun s => mayB o rs r (setAt o.length s) = true) (fun s => cst o c k rs r (t.getD 0 []) (setAt o.length i) (setAt o.length s)) m)
    (g := fun m j => if mayB o rs r (setAt o.length j) then (if m < 0 then cst o c k rs r (t.getD 0 []) (setAt o.length i) (setAt o.length j) else if cst o c k rs r (t.getD 0 []) (setAt o.length i) (setAt o.length j) < m then cst o c k rs r (t.getD 0 []) (setAt o.length i) (setAt o.length j) else m) else m) (fin := fun m => m) (s0 := (-1 : Int)) (RM.zero _ _)
    (fun j m hj hI => by
      have hja := setAt_mem hS hj
      have hjl := hS.lt _ hja
      have e1 : (allSets o.length).getD j [] = setAt o.length j := rfl
      have e2 : (allSets o.length).getD i [] = setAt o.length i := rfl
      have hc := cst_in h hS hr hn (setAt o.length i) hja
      have hv := hn.val _ hjl
      have hmv := mv_in h hS hr (setAt o.length i) hja
      cases hm : mayB o rs r (setAt o.length j) with
      | false =>
        refine ⟨?_, ?_⟩
        · simp (disch := omega) only [EV, S_zbu_4, hlen, hj, e1, l10May_eq h hr (low_of (by omega) hS hja), hm]
          rfl
        · simp only [Bool.false_eq_true, if_false]
          exact hI.skip (by rw [hm]; simp)
      | true =>
        have hev : ∀ q : Option ((Int × Int) ⊕ Int), (bif decide (m < 0) then some (.inl (cst o c k rs r (t.getD 0 []) (setAt o.length i) (setAt o.length j), ((j + 1 : Nat) : Int))) else bif decide (cst o c k rs r (t.getD 0 []) (setAt o.length i) (setAt o.length j) < m) then some (.inl (cst o c k rs r (t.getD 0 []) (setAt o.length i) (setAt o.length j), ((j + 1 : Nat) : Int))) else some (.inl (m, ((j + 1 : Nat) : Int)))) = q →
            (S_zbu_4 ((r : Int), ((i : Int), (o, (c, (k, (rs, (t, (allSets o.length, row)))))))) (m, (j : Int))).ev = q := fun q hq => by
          rw [← hq]
          simp (disch := omega) only [EV, S_zbu_4, hlen, hi, hj, e1, e2, l10May_eq h hr (low_of (by omega) hS hja), hm, l10Move_eq h hS hr hia hja hm, show inR (0 : Int) t.length = true from inR_int (by omega) (by omega), show Int.toNat 0 = 0 from rfl, hS.code _ hja, hn.len, hjl, ht0]
          rfl
        simp only [if_true]
        by_cases hq1 : m < 0
        · rw [if_pos hq1]
          exact ⟨hev _ (by rw [decide_eq_true hq1]; rfl), hI.take hm hc.1 (.inl hq1)⟩
        · rw [if_neg hq1]
          by_cases hq2 : cst o c k rs r (t.getD 0 []) (setAt o.length i) (setAt o.length j) < m
          · rw [if_pos hq2]
            exact ⟨hev _ (by rw [decide_eq_false hq1, decide_eq_true hq2]; rfl), hI.take hm hc.1 (.inr hq2)⟩
          · rw [if_neg hq2]
            exact ⟨hev _ (by rw [decide_eq_false hq1, decide_eq_false hq2]; rfl), hI.keep hq1 hq2⟩)
    (fun s _ => by simp (disch := omega) only [EV, S_zbu_4, hlen, Nat.lt_irrefl])
  have h1 : L_zbu_4 ((r : Int), ((i : Int), (o, (c, (k, (rs, (t, (allSets o.length, row)))))))) ((-1 : Int), (0 : Int)) = _ := h0.1
  rw [h1]
  congr 1
  have hat : ∀ s ∈ allSets o.length, ∃ j, j < 2 ^ o.length ∧ setAt o.length j = s := fun s hs => by
    obtain ⟨j, hj, e⟩ := List.getElem_of_mem hs
    exact ⟨j, by rw [← hlen]; exact hj, by unfold setAt; rw [List.getD_eq_getElem?_getD, List.getElem?_eq_getElem hj, Option.getD_some, e]⟩
  rcases h0.2 with ⟨_, hno⟩ | ⟨_, hle, s, hs, hsel, hm⟩
  · exfalso
    have hc := List.mem_filter.1 (choice_pos h hS r)
    obtain ⟨j, hj, e⟩ := hat _ hc.1
    exact hno j hj (by show mayB o rs r (setAt o.length j) = true; rw [e]; exact hc.2)
  · refine Eq.symm (lstMin_eq ?_ fun x hx => ?_)
    · refine List.mem_map.2 ⟨setAt o.length s, List.mem_filter.2 ⟨setAt_mem hS hs, hsel⟩, hm.symm⟩
    · obtain ⟨y, hy, e⟩ := List.mem_map.1 hx
      have hy' := List.mem_filter.1 hy
      obtain ⟨j, hj, e'⟩ := hat _ hy'.1
      have := hle j hj (by show mayB o rs r (setAt o.length j) = true; rw [e']; exact hy'.2)
      simp only [e'] at this
      rw [← e]
      exact this
theorem sp_row {o c k : List Int} {rs : List (List (List Int))} (h : Ssn o c k rs) (hS : SetsOK o.length) {r : Nat} (hr : r < rs.length) {M : Int} (hM : M ≤ 100000) {t : List (List Int)} (ht0 : 0 < t.length) (hn : RowOK o.length M (t.getD 0 [])) :
    L_zbu_2 ((r : Int), (o, (c, (k, (rs, (t, allSets o.length)))))) ((0 : Int), List.replicate (2 ^ o.length) 0) = some (rowFn o c k rs r (t.getD 0 [])) := by
  have h5 := h.n5
  have hlen := hS.len
  have hp := pow_le (n := o.length) (by omega)
  have h0 := iter_fold (f := fun v => (S_zbu_2 ((r : Int), (o, (c, (k, (rs, (t, allSets o.length)))))) v).ev) (n := 2 ^ o.length) (mk := fun i row => ((i : Int), row)) (I := fun i row => row.length = 2 ^ o.length ∧ ∀ j, j < i → row.getD (codeOf (setAt o.length j)) 0 = bst o c k rs r (t.getD 0 []) (setAt o.length j))
    (g := fun row i => row.set (codeOf (setAt o.length i)) (bst o c k rs r (t.getD 0 []) (setAt o.length i))) (fin := fun row => row) (s0 := List.replicate (2 ^ o.length) 0) ⟨by simp, fun j hj => by omega⟩
    (fun i row hi hI => by
      have hia := setAt_mem hS hi
      have hil := hS.lt _ hia
      have e2 : (allSets o.length).getD i [] = setAt o.length i := rfl
      have hrl := hI.1
      refine ⟨?_, by simp [hI.1], fun j hj => ?_⟩
      · simp (disch := omega) only [EV, S_zbu_2, hlen, hi, sp_best h hS hr hM ht0 hn hi row, e2, hS.code _ hia, hrl, hil]
        rfl
      · rw [set_getD _ (by omega)]
        by_cases e : codeOf (setAt o.length i) = codeOf (setAt o.length j)
        · rw [if_pos e]
          by_cases hji : j = i
          · rw [hji]
          · rw [hS.inj hia (setAt_mem hS (by omega)) e]
        · rw [if_neg e]
          exact hI.2 j (by
            have : j ≠ i := fun e' => e (by rw [e'])
            omega))
    (fun s _ => by simp (disch := omega) only [EV, S_zbu_2, hlen, Nat.lt_irrefl])
  have h1 : L_zbu_2 ((r : Int), (o, (c, (k, (rs, (t, allSets o.length)))))) ((0 : Int), List.replicate (2 ^ o.length) 0) = _ := h0.1
  rw [h1]
  congr 1
  refine row_ext h0.2.1 (by simp [rowFn]) fun b hb => ?_
  obtain ⟨h2, h3⟩ := ofCode_ok hS hb
  obtain ⟨j, hj, e⟩ := List.getElem_of_mem h2
  have e' : setAt o.length j = ofCode o.length b := by unfold setAt; rw [List.getD_eq_getElem?_getD, List.getElem?_eq_getElem hj, Option.getD_some, e]
  have := h0.2.2 j (by rw [← hlen]; exact hj)
  rw [e', h3] at this
  rw [this, rowFn_getD hb]
theorem l10Future_eq {o c k : List Int} {rs : List (List (List Int))} (h : Ssn o c k rs) (hS : SetsOK o.length) : F_zbu o c k rs = some (futs o c k rs) ∧ FI o.length rs.length (futs o c k rs) := by
  have h5 := h.n5
  have hR := h.R
  have hp := pow_le (n := o.length) (by omega)
  have hg : (decide ((0 : Int) ≤ ((2 ^ o.length : Nat) : Int)) && decide (((2 ^ o.length : Nat) : Int) ≤ ((2 ^ o.length : Nat) : Int)) && decide (((8 : Nat) : Int) * ((2 ^ o.length : Nat) : Int) ≤ 281474976710656)) = true := by simp only [Bool.and_eq_true, decide_eq_true_eq]; omega
  have h0 := iter_fold (f := fun v => (S_zbu_0 (o, (c, (k, (rs, allSets o.length)))) v).ev) (n := rs.length) (mk := fun i t => ((rs.length : Int) - 1 - (i : Int), t)) (I := FI o.length) (g := futStep o c k rs) (fin := fun t => t) (s0 := [List.replicate (2 ^ o.length) 0]) (FI.zero _)
    (fun i t hi hI => by
      refine ⟨?_, hI.step h hS hi⟩
      have e : (rs.length : Int) - 1 - (i : Int) = ((rs.length - 1 - i : Nat) : Int) := by omega
      have hge : (0 : Int) ≤ ((rs.length - 1 - i : Nat) : Int) := by omega
      have e2 : ((rs.length - 1 - i : Nat) : Int) - 1 = (rs.length : Int) - 1 - ((i + 1 : Nat) : Int) := by omega
      have ht0 : 0 < t.length := by have := hI.1; omega
      have hg2 : (1 + t.length) * 24 ≤ 140737488355328 := by have := hI.1; omega
      have e3 : (List.set ([[]] : List (List Int)) 0 (rowFn o c k rs (rs.length - 1 - i) (t.getD 0 []))) = [rowFn o c k rs (rs.length - 1 - i) (t.getD 0 [])] := rfl
      rw [e]
      simp (disch := omega) only [EV, S_zbu_0, hge, show (0 : Int) ≤ (o.length : Int) by omega, pow_wrap (n := o.length) (by omega), hg, sp_row h hS (r := rs.length - 1 - i) (by omega) (M := 2178 * (i : Int)) (by omega) ht0 hI.2, e3, List.length_singleton, hg2, e2]
      rfl)
    (fun s _ => by
      have hge : ¬ (0 : Int) ≤ (rs.length : Int) - 1 - (rs.length : Int) := by omega
      simp (disch := omega) only [EV, S_zbu_0, hge])
  refine ⟨?_, h0.2⟩
  have h1 : L_zbu_0 (o, (c, (k, (rs, allSets o.length)))) ((rs.length : Int) - 1, [List.replicate (2 ^ o.length) 0]) = some (futs o c k rs) := by
    have e : (rs.length : Int) - 1 = (rs.length : Int) - 1 - ((0 : Nat) : Int) := by omega
    rw [e]
    exact h0.1
  unfold F_zbu T_zbu
  have e3 : (List.set ([[]] : List (List Int)) 0 (List.replicate (2 ^ o.length) 0)) = [List.replicate (2 ^ o.length) 0] := rfl
  simp (disch := omega) only [EV, show (0 : Int) ≤ (o.length : Int) by omega, pow_wrap (n := o.length) (by omega), hg, l10Sets_eq c k rs (by omega) hS, e3, h1]
end Go.Proofs.YtlmbhkmaflhagaaGreat
