/-
  Plain laws: moves of seasons, potentials, plans.
-/
import Derived.Test.YtlmbhkmaflhagaaP22
namespace Go.Proofs.Ytlmbhkmaflhagaa

/-- What a move pays at a site. -/
def wgt (o c k a s : List Int) (x : Nat) : Int :=
  (if s.contains (x : Int) then k.getD x 0 else 0) + ((if s.contains (x : Int) && !a.contains (x : Int) then o.getD x 0 else 0) + (if a.contains (x : Int) && !s.contains (x : Int) then c.getD x 0 else 0))
def srv0 (ds : List (List Int)) (s : List Int) : Int := if s.length = 0 then 0 else serve ds s
def mv (o c k : List Int) (rs : List (List (List Int))) (r : Nat) (a s : List Int) : Int := (List.range o.length).foldl (fun t x => t + wgt o c k a s x) 0 + srv0 (rs.getD r []) s
def mayB (o : List Int) (rs : List (List (List Int))) (r : Nat) (s : List Int) : Bool := risingB s 0 ((o.length : Int) - 1) && (decide (0 < s.length) || decide ((rs.getD r []).length = 0))

theorem foldl_start {α : Type} (w : α → Int) : ∀ (l : List α) (t : Int), l.foldl (fun t x => t + w x) t = t + l.foldl (fun t x => t + w x) 0
  | [], t => by simp
  | x :: l, t => by
    simp only [List.foldl_cons]
    rw [foldl_start w l (t + w x), foldl_start w l (0 + w x)]
    omega
theorem wgt_in {o c k : List Int} {rs : List (List (List Int))} (h : Ssn o c k rs) (a s : List Int) {x : Nat} (hx : x < o.length) : 0 ≤ wgt o c k a s x ∧ wgt o c k a s x ≤ 297 := by
  have h1 := h.ov x hx
  have h2 := h.cv x hx
  have h3 := h.kv x hx
  unfold wgt
  generalize s.contains (x : Int) = b1
  generalize a.contains (x : Int) = b2
  generalize o.getD x 0 = v1 at h1 ⊢
  generalize c.getD x 0 = v2 at h2 ⊢
  generalize k.getD x 0 = v3 at h3 ⊢
  cases b1 <;> cases b2 <;> simp <;> omega
theorem wsum_in {o c k : List Int} {rs : List (List (List Int))} (h : Ssn o c k rs) (a s : List Int) : 0 ≤ (List.range o.length).foldl (fun t x => t + wgt o c k a s x) 0 ∧ (List.range o.length).foldl (fun t x => t + wgt o c k a s x) 0 ≤ 1485 := by
  have := sum_bound (l := List.range o.length) (f := fun x => wgt o c k a s x) (B := 297) (fun x hx => wgt_in h a s (List.mem_range.1 hx)) 0
  have := h.n5
  simp only [List.length_range] at *
  omega
theorem low_of {n : Nat} (hn : n ≤ 7) (hS : SetsOK n) {s : List Int} (hs : s ∈ allSets n) : Low1 s := by
  have h1 := (risingB_iff.1 (hS.rising s hs)).2
  have h2 := (risingB_iff.1 (hS.rising s hs)).1
  have key : ∀ (l : List Int) (k : Int), l.Pairwise (· < ·) → (∀ x ∈ l, k ≤ x ∧ x ≤ 6) → (l.length : Int) ≤ 7 - k ∨ l = [] := by
    intro l
    induction l with
    | nil => intro _ _ _; exact .inr rfl
    | cons x l ih =>
      intro k hp hb
      obtain ⟨h3, h4⟩ := List.pairwise_cons.1 hp
      have hx := hb x List.mem_cons_self
      left
      rcases ih (x + 1) h4 (fun y hy => by have := h3 y hy; have := hb y (List.mem_cons_of_mem _ hy); omega) with h5 | h5
      · simp only [List.length_cons]; omega
      · subst h5; simp; omega
  rcases key s 0 h1 (fun x hx => by have := h2 x hx; omega) with h | h
  · unfold Low1; omega
  · subst h; unfold Low1; simp
theorem srv0_in {o c k : List Int} {rs : List (List (List Int))} (h : Ssn o c k rs) {r : Nat} (hr : r < rs.length) {s : List Int} (hs : Places s o.length) : 0 ≤ srv0 (rs.getD r []) s ∧ srv0 (rs.getD r []) s ≤ 693 := by
  unfold srv0
  split
  · omega
  · exact serve_in (h.fld r hr) hs (by omega)

theorem l10May_eq {o c k : List Int} {rs : List (List (List Int))} (h : Ssn o c k rs) {r : Nat} (hr : r < rs.length) {s : List Int} (hs : Low1 s) : F_sp_l10May o c k rs (r : Int) s = some (mayB o rs r s) := by
  have h5 := h.n5
  have h1 := h.n1
  unfold F_sp_l10May T_sp_l10May mayB
  simp (disch := omega) only [EV, l1Rising_eq hs]
  cases risingB s 0 ((o.length : Int) - 1) with
  | false => rfl
  | true =>
    by_cases hp : 0 < s.length
    · simp (disch := omega) only [EV, hp, show ((0 : Int) < (s.length : Int)) by omega]
      simp
    · have e : (((rs.getD r []).length : Int) == 0) = decide ((rs.getD r []).length = 0) := int_eq _ 0
      simp (disch := omega) only [EV, hp, show ¬ ((0 : Int) < (s.length : Int)) by omega, hr, e]
      simp
theorem isPossible_eq {o c k : List Int} {rs : List (List (List Int))} (h : Ssn o c k rs) {r : Nat} (hr : r < rs.length) {s : List Int} (hs : Low1 s) : F_im_Season_isPossible o c k rs (r : Int) s = some (mayB o rs r s) := by
  have h5 := h.n5
  have h1 := h.n1
  unfold F_im_Season_isPossible T_im_Season_isPossible mayB
  simp (disch := omega) only [EV, isRising_eq hs]
  cases risingB s 0 ((o.length : Int) - 1) with
  | false => rfl
  | true =>
    by_cases hp : 0 < s.length
    · simp (disch := omega) only [EV, hp, show ((0 : Int) < (s.length : Int)) by omega]
      simp
    · have e : (((rs.getD r []).length : Int) == 0) = decide ((rs.getD r []).length = 0) := int_eq _ 0
      simp (disch := omega) only [EV, hp, show ¬ ((0 : Int) < (s.length : Int)) by omega, hr, e]
      simp
theorem serve0_eq {o : List Int} {ds : List (List Int)} (hf : Fld o ds) {s : List Int} (hs : Places s o.length) (hm : 0 < s.length ∨ ds.length = 0) : F_sp_l2Serve o ds s = some (srv0 ds s) := by
  unfold srv0
  split
  · have hd : ds = [] := List.eq_nil_of_length_eq_zero (by omega)
    subst hd
    unfold F_sp_l2Serve T_sp_l2Serve
    have h0 : L_sp_l2Serve_0 (s, (o, [])) ((0 : Int), (0 : Int)) = some 0 := by
      unfold L_sp_l2Serve_0
      rw [iter_eq]
      rfl
    simp (disch := omega) only [EV, h0]
  · exact l2Serve_eq hf hs (by omega)
theorem l10Move_eq {o c k : List Int} {rs : List (List (List Int))} (h : Ssn o c k rs) (hS : SetsOK o.length) {r : Nat} (hr : r < rs.length) {a s : List Int} (ha : a ∈ allSets o.length) (hs : s ∈ allSets o.length) (hm : mayB o rs r s = true) :
    F_sp_l10Move o c k rs (r : Int) a s = some (mv o c k rs r a s) := by
  have h5 := h.n5
  have hcl := h.cl
  have hkl := h.kl
  have hp : Places s o.length := Places.of (low_of (by omega) hS hs) (hS.rising s hs)
  simp only [mayB, Bool.and_eq_true, Bool.or_eq_true, decide_eq_true_eq] at hm
  have hv := srv0_in h hr hp
  unfold F_sp_l10Move T_sp_l10Move
  have h0 := (iter_fold (f := fun v => (S_sp_l10Move_0 (a, (s, (o, (c, (k, rs))))) v).ev) (n := o.length) (mk := fun i t => (t, (i : Int))) (I := fun i t => 0 ≤ t ∧ t ≤ 693 + 297 * (i : Int)) (g := fun t x => t + wgt o c k a s x) (fin := fun t => t) (s0 := srv0 (rs.getD r []) s) (by omega)
    (fun x t hx hI => by
      have h1 := h.ov x hx
      have h2 := h.cv x hx
      have h3 := h.kv x hx
      have hw := wgt_in h a s hx
      refine ⟨?_, by omega, by omega⟩
      have hxc : x < c.length := by omega
      have hxk : x < k.length := by omega
      simp (disch := omega) only [EV, S_sp_l10Move_0, hx, hxc, hxk, hS.has' s hs x hx, hS.has' a ha x hx]
      unfold wgt
      generalize s.contains (x : Int) = b1
      generalize a.contains (x : Int) = b2
      cases b1 <;> cases b2 <;> simp <;> omega)
    (fun s _ => by simp (disch := omega) only [EV, S_sp_l10Move_0, Nat.lt_irrefl])).1
  have h0' : L_sp_l10Move_0 (a, (s, (o, (c, (k, rs))))) (srv0 (rs.getD r []) s, (0 : Int)) = _ := h0
  simp (disch := omega) only [EV, hr, serve0_eq (h.fld r hr) hp hm.2, h0']
  unfold mv
  rw [foldl_start]
  congr 1
  omega
theorem move_eq {o c k : List Int} {rs : List (List (List Int))} (h : Ssn o c k rs) (hS : SetsOK o.length) {r : Nat} (hr : r < rs.length) {a s : List Int} (ha : a ∈ allSets o.length) (hs : s ∈ allSets o.length) :
    F_im_Season_move o c k rs (r : Int) a s = some (mv o c k rs r a s) := by
  have h5 := h.n5
  have hcl := h.cl
  have hkl := h.kl
  have hp : Places s o.length := Places.of (low_of (by omega) hS hs) (hS.rising s hs)
  have hv := srv0_in h hr hp
  have hws := wsum_in h a s
  unfold F_im_Season_move T_im_Season_move
  have h0 := (iter_fold (f := fun v => (S_im_Season_move_0 ((r : Int), (s, ((codeOf a : Int), ((codeOf s : Int), ((o.length : Int), (o, (c, (k, rs)))))))) v).ev) (n := o.length) (mk := fun i t => (t, (i : Int))) (I := fun i t => 0 ≤ t ∧ t ≤ 297 * (i : Int)) (g := fun t x => t + wgt o c k a s x) (fin := fun t => t) (s0 := 0) (by omega)
    (fun x t hx hI => by
      have h1 := h.ov x hx
      have h2 := h.cv x hx
      have h3 := h.kv x hx
      have hw := wgt_in h a s hx
      refine ⟨?_, by omega, by omega⟩
      have hxc : x < c.length := by omega
      have hxk : x < k.length := by omega
      simp (disch := omega) only [EV, S_im_Season_move_0, hx, hxc, hxk, hS.has s hs x hx, hS.has a ha x hx]
      unfold wgt
      generalize s.contains (x : Int) = b1
      generalize a.contains (x : Int) = b2
      cases b1 <;> cases b2 <;> simp <;> omega)
    (fun s _ => by simp (disch := omega) only [EV, S_im_Season_move_0, Nat.lt_irrefl])).1
  have h0' : L_im_Season_move_0 ((r : Int), (s, ((codeOf a : Int), ((codeOf s : Int), ((o.length : Int), (o, (c, (k, rs)))))))) ((0 : Int), (0 : Int)) = _ := h0
  simp (disch := omega) only [EV, hS.bagOf a ha, hS.bagOf s hs, h0']
  unfold mv srv0 at *
  by_cases hz : s.length = 0
  · simp (disch := omega) only [EV, hz, show ¬ ((0 : Int) < ((0 : Nat) : Int)) by omega]
    simp
  · rw [if_neg hz] at *
    simp (disch := omega) only [EV, show ((0 : Int) < (s.length : Int)) by omega, hr, service_eq (h.fld r hr) hp (by omega)]

/-! ### Tables -/
theorem pow_wrap {n : Nat} (h : n ≤ 7) : IntKind.wrap .i64 ((1 : Int) * 2 ^ (min n (IntKind.bits .i64))) = ((2 ^ n : Nat) : Int) := by
  have : n = 0 ∨ n = 1 ∨ n = 2 ∨ n = 3 ∨ n = 4 ∨ n = 5 ∨ n = 6 ∨ n = 7 := by omega
  rcases this with rfl | rfl | rfl | rfl | rfl | rfl | rfl | rfl <;> rfl
theorem pow_le {n : Nat} (h : n ≤ 7) : 1 ≤ 2 ^ n ∧ 2 ^ n ≤ 128 := by
  have : n = 0 ∨ n = 1 ∨ n = 2 ∨ n = 3 ∨ n = 4 ∨ n = 5 ∨ n = 6 ∨ n = 7 := by omega
  rcases this with rfl | rfl | rfl | rfl | rfl | rfl | rfl | rfl <;> simp
def rowB (n : Nat) (row : List Int) : Bool := decide (row.length = 2 ^ n) && allIn row (-1000000) 1000000
def tabB (o : List Int) (rs : List (List (List Int))) (tb : List (List Int)) : Bool := decide (tb.length = rs.length + 1) && tb.all (rowB o.length)
theorem l10Table_eq {o c k : List Int} {rs : List (List (List Int))} (h : Ssn o c k rs) {tb : List (List Int)} (ht : Low2 tb) : F_sp_l10Table o c k rs tb = some (tabB o rs tb) := by
  have h5 := h.n5
  have hR := h.R
  have hl := ht.1
  have h2 : ∀ r, r < tb.length → L_sp_l10Table_2 (tb, ((r : Int), (o, (c, (k, rs))))) 0 = some (bif allIn (tb.getD r []) (-1000000) 1000000 then .inl () else .inr ()) := fun r hr => by
    have hrl := ht.2 _ (getD_mem (d := []) hr)
    unfold Low1 at hrl
    have := iter_allR (f := fun v => (S_sp_l10Table_2 (tb, ((r : Int), (o, (c, (k, rs))))) v).ev) (n := (tb.getD r []).length) (mk := fun i => (i : Int)) (p := fun i => isIn ((tb.getD r []).getD i 0) (-1000000) 1000000) (yes := .inl ()) (no := .inr ()) (fun i hi _ => by
      simp (disch := omega) only [EV, S_sp_l10Table_2, hr, hi, l1In_eq]
      cases isIn ((tb.getD r []).getD i 0) (-1000000) 1000000 <;> rfl) (by simp (disch := omega) only [EV, S_sp_l10Table_2, hr, Nat.lt_irrefl])
    rw [all_range (tb.getD r []) 0 (fun x => isIn x (-1000000) 1000000)] at this
    exact this
  have h0 := iter_allR (f := fun v => (S_sp_l10Table_0 (tb, (o, (c, (k, rs)))) v).ev) (n := tb.length) (mk := fun i => (i : Int)) (p := fun i => rowB o.length (tb.getD i [])) (yes := .inl ()) (no := .inr ()) (fun r hr _ => by
    simp (disch := omega) only [EV, S_sp_l10Table_0, hr, show (0 : Int) ≤ (o.length : Int) by omega, pow_wrap (n := o.length) (by omega), int_ne, h2 r hr]
    unfold rowB
    cases decide ((tb.getD r []).length = 2 ^ o.length) <;> cases allIn (tb.getD r []) (-1000000) 1000000 <;> rfl) (by simp (disch := omega) only [EV, S_sp_l10Table_0, Nat.lt_irrefl])
  rw [all_range tb [] (rowB o.length)] at h0
  have h0' : L_sp_l10Table_0 (tb, (o, (c, (k, rs)))) 0 = _ := h0
  unfold F_sp_l10Table T_sp_l10Table tabB
  have e : ((tb.length : Int) == (rs.length : Int) + 1) = decide (tb.length = rs.length + 1) := int_eq tb.length (rs.length + 1)
  simp (disch := omega) only [EV, h0', e]
  cases tb.all (rowB o.length) <;> cases decide (tb.length = rs.length + 1) <;> rfl
structure Tab (o : List Int) (rs : List (List (List Int))) (tb : List (List Int)) : Prop where
  len : tb.length = rs.length + 1
  row : ∀ r, r ≤ rs.length → (tb.getD r []).length = 2 ^ o.length
  val : ∀ r i, r ≤ rs.length → i < 2 ^ o.length → -1000000 ≤ (tb.getD r []).getD i 0 ∧ (tb.getD r []).getD i 0 ≤ 1000000
theorem tab_of {o : List Int} {rs : List (List (List Int))} {tb : List (List Int)} (h : tabB o rs tb = true) : Tab o rs tb := by
  simp only [tabB, Bool.and_eq_true, decide_eq_true_eq, List.all_eq_true, rowB] at h
  have h1 : ∀ r, r ≤ rs.length → _ := fun r hr => h.2 _ (getD_mem (d := []) (show r < tb.length by omega))
  exact ⟨h.1, fun r hr => (h1 r hr).1, fun r i hr hi => allIn_getD (h1 r hr).2 (by rw [(h1 r hr).1]; exact hi)⟩

/-- What is asked of a table of potentials at a set, a round, a set behind it. -/
def okAt (o c k : List Int) (rs : List (List (List Int))) (tb : List (List Int)) (r : Nat) (a s : List Int) : Bool := decide ((tb.getD r []).getD (codeOf a) 0 ≤ mv o c k rs r a s + (tb.getD (r + 1) []).getD (codeOf s) 0)
def setAt (n i : Nat) : List Int := (allSets n).getD i []
def safeB (o c k : List Int) (rs : List (List (List Int))) (tb : List (List Int)) : Bool := (List.range (2 ^ o.length)).all fun i => decide ((tb.getD rs.length []).getD i 0 ≤ 0) &&
  (List.range rs.length).all fun r => (List.range (2 ^ o.length)).all fun j => !mayB o rs r (setAt o.length j) || okAt o c k rs tb r (setAt o.length i) (setAt o.length j)
theorem setAt_mem {n i : Nat} (hS : SetsOK n) (hi : i < 2 ^ n) : setAt n i ∈ allSets n := getD_mem (by rw [hS.len]; exact hi)
theorem mv_in {o c k : List Int} {rs : List (List (List Int))} (h : Ssn o c k rs) (hS : SetsOK o.length) {r : Nat} (hr : r < rs.length) (a : List Int) {s : List Int} (hs : s ∈ allSets o.length) : 0 ≤ mv o c k rs r a s ∧ mv o c k rs r a s ≤ 2178 := by
  have h5 := h.n5
  have hv := srv0_in h hr (Places.of (low_of (by omega) hS hs) (hS.rising s hs))
  have hws := wsum_in h a s
  unfold mv
  omega
theorem l10Sets_eq {o : List Int} (c k : List Int) (rs : List (List (List Int))) (h7 : o.length ≤ 7) (hS : SetsOK o.length) : F_sp_l10Sets o c k rs = some (allSets o.length) := by
  have hlen := hS.len
  have hp := pow_le h7
  unfold F_sp_l10Sets T_sp_l10Sets
  have e : (setsOf o.length).length + 1 = 2 ^ o.length := by rw [← hlen]; rfl
  have hg : (1 + (setsOf o.length).length) * 24 ≤ 140737488355328 := by omega
  simp (disch := omega) only [EV, hS.sp, List.length_singleton, hg]
  rfl
theorem l10Safe_eq {o c k : List Int} {rs : List (List (List Int))} (h : Ssn o c k rs) (hS : SetsOK o.length) {tb : List (List Int)} (ht : Tab o rs tb) : F_sp_l10Safe o c k rs tb = some (safeB o c k rs tb) := by
  have h5 := h.n5
  have hR := h.R
  have hlen := hS.len
  have hp := pow_le (n := o.length) (by omega)
  have htl := ht.len
  have h4 : ∀ i r : Nat, i < 2 ^ o.length → r < rs.length → L_sp_l10Safe_4 (tb, ((i : Int), ((r : Int), (o, (c, (k, (rs, allSets o.length))))))) 0 = some (bif (List.range (2 ^ o.length)).all fun j => !mayB o rs r (setAt o.length j) || okAt o c k rs tb r (setAt o.length i) (setAt o.length j) then .inl () else .inr ()) := fun i r hi hr => by
    have hia := setAt_mem hS hi
    have hil := hS.lt _ hia
    refine iter_allR (f := fun v => (S_sp_l10Safe_4 (tb, ((i : Int), ((r : Int), (o, (c, (k, (rs, allSets o.length))))))) v).ev) (n := 2 ^ o.length) (mk := fun i => (i : Int)) (p := fun j => !mayB o rs r (setAt o.length j) || okAt o c k rs tb r (setAt o.length i) (setAt o.length j)) (yes := .inl ()) (no := .inr ()) (fun j hj _ => ?_) (by simp (disch := omega) only [EV, S_sp_l10Safe_4, hlen, Nat.lt_irrefl])
    have hja := setAt_mem hS hj
    have hjl := hS.lt _ hja
    have e1 : (allSets o.length).getD j [] = setAt o.length j := rfl
    have e2 : (allSets o.length).getD i [] = setAt o.length i := rfl
    simp (disch := omega) only [EV, S_sp_l10Safe_4, hlen, hj, e1, l10May_eq h hr (low_of (by omega) hS hja)]
    cases hm : mayB o rs r (setAt o.length j) with
    | false => rfl
    | true =>
      have hmv := mv_in h hS hr (setAt o.length i) hja
      have ht1 : r < tb.length := by omega
      have ht2 : r + 1 < tb.length := by omega
      have hv1 := ht.val r (codeOf (setAt o.length i)) (by omega) hil
      have hv2 := ht.val (r + 1) (codeOf (setAt o.length j)) (by omega) hjl
      have e3 : (r : Int) + 1 = ((r + 1 : Nat) : Int) := by omega
      simp (disch := omega) only [EV, ht1, hi, hj, e2, hS.code _ hia, ht.row r (by omega), hil, l10Move_eq h hS hr hia hja hm, e3, ht2, hS.code _ hja, ht.row (r + 1) (by omega), hjl]
      unfold okAt
      by_cases hq : (tb.getD r []).getD (codeOf (setAt o.length i)) 0 ≤ mv o c k rs r (setAt o.length i) (setAt o.length j) + (tb.getD (r + 1) []).getD (codeOf (setAt o.length j)) 0
      · rw [if_neg (by omega), decide_eq_true hq]; rfl
      · rw [if_pos (by omega), decide_eq_false hq]; rfl
  have h2 : ∀ i : Nat, i < 2 ^ o.length → L_sp_l10Safe_2 (tb, ((i : Int), (o, (c, (k, (rs, allSets o.length)))))) 0 = some (bif (List.range rs.length).all fun r => (List.range (2 ^ o.length)).all fun j => !mayB o rs r (setAt o.length j) || okAt o c k rs tb r (setAt o.length i) (setAt o.length j) then .inl () else .inr ()) := fun i hi =>
    iter_allR (f := fun v => (S_sp_l10Safe_2 (tb, ((i : Int), (o, (c, (k, (rs, allSets o.length)))))) v).ev) (n := rs.length) (mk := fun i => (i : Int)) (p := fun r => (List.range (2 ^ o.length)).all fun j => !mayB o rs r (setAt o.length j) || okAt o c k rs tb r (setAt o.length i) (setAt o.length j)) (yes := .inl ()) (no := .inr ()) (fun r hr _ => by
      simp (disch := omega) only [EV, S_sp_l10Safe_2, hr, h4 i r hi hr]
      cases (List.range (2 ^ o.length)).all fun j => !mayB o rs r (setAt o.length j) || okAt o c k rs tb r (setAt o.length i) (setAt o.length j) <;> rfl) (by simp (disch := omega) only [EV, S_sp_l10Safe_2, Nat.lt_irrefl])
  have h0 := iter_allR (f := fun v => (S_sp_l10Safe_0 (tb, (o, (c, (k, (rs, allSets o.length))))) v).ev) (n := 2 ^ o.length) (mk := fun i => (i : Int)) (p := fun i => decide ((tb.getD rs.length []).getD i 0 ≤ 0) &&
      (List.range rs.length).all fun r => (List.range (2 ^ o.length)).all fun j => !mayB o rs r (setAt o.length j) || okAt o c k rs tb r (setAt o.length i) (setAt o.length j)) (yes := .inl ()) (no := .inr ()) (fun i hi _ => by
    simp (disch := omega) only [EV, S_sp_l10Safe_0, hlen, hi, show rs.length < tb.length by omega, ht.row rs.length (Nat.le_refl _), h2 i hi]
    by_cases hq : (tb.getD rs.length []).getD i 0 ≤ 0
    · rw [if_neg (by omega), decide_eq_true hq, Bool.true_and]
      cases (List.range rs.length).all fun r => (List.range (2 ^ o.length)).all fun j => !mayB o rs r (setAt o.length j) || okAt o c k rs tb r (setAt o.length i) (setAt o.length j) <;> rfl
    · rw [if_pos (by omega), decide_eq_false hq]; rfl) (by simp (disch := omega) only [EV, S_sp_l10Safe_0, hlen, Nat.lt_irrefl])
  have h0' : L_sp_l10Safe_0 (tb, (o, (c, (k, (rs, allSets o.length))))) 0 = _ := h0
  unfold F_sp_l10Safe T_sp_l10Safe safeB
  simp (disch := omega) only [EV, l10Sets_eq c k rs (by omega) hS, h0']
  cases (List.range (2 ^ o.length)).all fun i => decide ((tb.getD rs.length []).getD i 0 ≤ 0) &&
      (List.range rs.length).all fun r => (List.range (2 ^ o.length)).all fun j => !mayB o rs r (setAt o.length j) || okAt o c k rs tb r (setAt o.length i) (setAt o.length j) <;> rfl

/-! ### The other side -/
theorem all_filter {α : Type} (l : List α) (m p : α → Bool) : (l.filter m).all p = l.all fun x => !m x || p x := by
  induction l with
  | nil => rfl
  | cons x l ih =>
    rw [List.filter_cons]
    cases h : m x with
    | true => simp [h, ih]
    | false => simp [h, ih]
theorem SetsOK.inj {n : Nat} (hS : SetsOK n) {s t : List Int} (hs : s ∈ allSets n) (ht : t ∈ allSets n) (h : codeOf s = codeOf t) : s = t := by
  have h1 := hS.list s hs
  have h2 := hS.list t ht
  rw [h, h2] at h1
  exact (Option.some.inj h1).symm
/-- The set with a code. -/
def ofCode (n b : Nat) : List Int := ((allSets n).find? fun s => Nat.beq (codeOf s) b).getD []
theorem ofCode_ok {n b : Nat} (hS : SetsOK n) (hb : b < 2 ^ n) : ofCode n b ∈ allSets n ∧ codeOf (ofCode n b) = b := by
  obtain ⟨s, h1, h2⟩ := hS.all b hb
  unfold ofCode
  cases hf : (allSets n).find? fun s => Nat.beq (codeOf s) b with
  | none =>
    have := List.find?_eq_none.1 hf s h1
    rw [h2] at this
    simp at this
  | some t =>
    have h3 := List.find?_some hf
    exact ⟨List.mem_of_find?_eq_some hf, Nat.eq_of_beq_eq_true h3⟩
theorem wrapU {n : Int} (h0 : 0 ≤ n) (h1 : n < 128) : IntKind.wrap .u64 n = n := by
  have e : IntKind.wrap .u64 n = n % 18446744073709551616 := rfl
  rw [e]
  omega
theorem lists_eq {n : Nat} (h7 : n ≤ 7) (hS : SetsOK n) {p : HL [.slice (.int .i64)] → Option Bool} {q : List Int → Bool} (hp : ∀ s ∈ allSets n, p (s, ()) = some (q s)) : F_im_lists (n : Int) p = some ((allSets n).filter q) := by
  have hlen := hS.len
  have hpw := pow_le h7
  have e : (setsOf n).length + 1 = 2 ^ n := by rw [← hlen]; rfl
  have hg : (1 + (setsOf n).length) * 24 ≤ 140737488355328 := by omega
  have e2 : [([] : List Int)] ++ setsOf n = allSets n := rfl
  unfold F_im_lists T_im_lists
  have h0 := (iter_fold (f := fun v => (S_im_lists_0 (p, ((((allSets n).length : Nat) : Int), allSets n)) v).ev) (n := (allSets n).length) (mk := fun i (_ : Unit) => ((i : Int), ((allSets n).take i).filter q)) (I := fun _ _ => True) (g := fun s _ => s) (fin := fun _ => (allSets n).filter q) (s0 := ()) trivial
    (fun i s hi _ => ⟨by
      have hm := getD_mem (d := []) hi
      have hl : (((allSets n).take i).filter q).length ≤ 128 := by
        have h1 := List.length_filter_le q ((allSets n).take i)
        have h2 := List.length_take_le i (allSets n)
        omega
      have hg2 : ((((allSets n).take i).filter q).length + 1) * 24 ≤ 140737488355328 := by omega
      have et : (allSets n).take (i + 1) = (allSets n).take i ++ [(allSets n).getD i []] := by
        rw [List.take_succ_eq_append_getElem hi, List.getD_eq_getElem?_getD, List.getElem?_eq_getElem hi]
        rfl
      simp (disch := omega) only [EV, S_im_lists_0, hi, hp _ hm, List.length_singleton, hg2]
      rw [et, List.filter_append, List.filter_cons, List.filter_nil]
      cases q ((allSets n).getD i []) with
      | true => rfl
      | false => simp, trivial⟩)
    (fun s _ => by simp (disch := omega) only [EV, S_im_lists_0, Nat.lt_irrefl, List.take_length])).1
  have h0' : L_im_lists_0 (p, ((((allSets n).length : Nat) : Int), allSets n)) ((0 : Int), []) = some ((allSets n).filter q) := h0
  simp (disch := omega) only [EV, hS.im, List.length_singleton, hg, e2, h0']
theorem choices_eq {o c k : List Int} {rs : List (List (List Int))} (h : Ssn o c k rs) (hS : SetsOK o.length) {r : Nat} (hr : r < rs.length) : F_im_Season_choices o c k rs (r : Int) = some ((allSets o.length).filter (mayB o rs r)) := by
  have h5 := h.n5
  unfold F_im_Season_choices T_im_Season_choices
  have := lists_eq (n := o.length) (by omega) hS (p := fun h1_ => Option.bind (F_im_Season_choices_1 h1_.1 o c k rs (r : Int)) fun y2_ => some y2_) (q := mayB o rs r) fun s hs => by
    unfold F_im_Season_choices_1 T_im_Season_choices_1
    simp (disch := omega) only [EV, isPossible_eq h hr (low_of (by omega) hS hs)]
  simp (disch := omega) only [EV, this]
theorem foldl_max_le (b : Int) : ∀ (l : List Int) (a : Int), l.foldl (fun a x => max a x) a ≤ b ↔ a ≤ b ∧ ∀ x ∈ l, x ≤ b
  | [], a => by simp
  | x :: l, a => by
    rw [List.foldl_cons, foldl_max_le b l]
    simp only [List.mem_cons, forall_eq_or_imp, Int.max_le, and_assoc]
/-- What the other side asks. -/
def safeI (o c k : List Int) (rs : List (List (List Int))) (tb : List (List Int)) : Bool := (List.range rs.length).all fun r => (List.range (2 ^ o.length)).all fun b => ((allSets o.length).filter (mayB o rs r)).all fun s => okAt o c k rs tb r (ofCode o.length b) s
theorem safe_same {o c k : List Int} {rs : List (List (List Int))} {tb : List (List Int)} (hS : SetsOK o.length) (ht : Tab o rs tb) :
    safeB o c k rs tb = (decide ((tb.getD rs.length []).foldl (fun a x => max a x) ((tb.getD rs.length []).getD 0 0) ≤ 0) && safeI o c k rs tb) := by
  have hrow := ht.row rs.length (Nat.le_refl _)
  have hpw : 0 < 2 ^ o.length := Nat.pos_of_ne_zero (by simp)
  rw [Bool.eq_iff_iff]
  simp only [safeB, safeI, all_filter, List.all_eq_true, List.mem_range, Bool.and_eq_true, decide_eq_true_eq, foldl_max_le]
  constructor
  · intro h
    refine ⟨⟨(h 0 hpw).1, fun x hx => ?_⟩, fun r hr b hb s hs => ?_⟩
    · obtain ⟨i, hi, e⟩ := List.getElem_of_mem hx
      have := (h i (by omega)).1
      rw [List.getD_eq_getElem?_getD, List.getElem?_eq_getElem hi, Option.getD_some, e] at this
      exact this
    · obtain ⟨h1, h2⟩ := ofCode_ok hS hb
      obtain ⟨i, hi, e⟩ := List.getElem_of_mem h1
      obtain ⟨j, hj, e'⟩ := List.getElem_of_mem hs
      have := (h i (by rw [← hS.len]; exact hi)).2 r hr j (by rw [← hS.len]; exact hj)
      have e3 : setAt o.length i = ofCode o.length b := by unfold setAt; rw [List.getD_eq_getElem?_getD, List.getElem?_eq_getElem hi, Option.getD_some, e]
      have e4 : setAt o.length j = s := by unfold setAt; rw [List.getD_eq_getElem?_getD, List.getElem?_eq_getElem hj, Option.getD_some, e']
      rw [e3, e4] at this
      exact this
  · rintro ⟨⟨_, h1⟩, h2⟩ i hi
    refine ⟨h1 _ (getD_mem (by omega)), fun r hr j hj => ?_⟩
    have hia := setAt_mem hS hi
    have hb := hS.lt _ hia
    have := h2 r hr _ hb _ (setAt_mem hS hj)
    have e : ofCode o.length (codeOf (setAt o.length i)) = setAt o.length i := hS.inj (ofCode_ok hS hb).1 hia (ofCode_ok hS hb).2
    rw [e] at this
    exact this
theorem arePotentials_eq {o c k : List Int} {rs : List (List (List Int))} (h : Ssn o c k rs) (hS : SetsOK o.length) {tb : List (List Int)} (htl : Low2 tb) : F_im_Season_arePotentials o c k rs tb = some (tabB o rs tb && safeB o c k rs tb) := by
  have h5 := h.n5
  have hR := h.R
  have hlen := hS.len
  have hp := pow_le (n := o.length) (by omega)
  have hl := htl.1
  unfold F_im_Season_arePotentials T_im_Season_arePotentials
  have e : ((tb.length : Int) != (rs.length : Int) + 1) = !decide (tb.length = rs.length + 1) := int_ne tb.length (rs.length + 1)
  have hc := containsFunc_Sint (l := tb) (by omega) (p := fun h1_ => Option.bind (F_im_Season_arePotentials_1 h1_.1 o c k rs) fun y2_ => some y2_) (q := fun row => !rowB o.length row) fun row hrow => by
    unfold F_im_Season_arePotentials_1 T_im_Season_arePotentials_1 rowB
    by_cases hq : row.length = 2 ^ o.length
    · simp (disch := omega) only [EV, show (0 : Int) ≤ (o.length : Int) by omega, pow_wrap (n := o.length) (by omega), int_ne, hq, areBetween_eq (htl.2 row hrow)]
    · simp (disch := omega) only [EV, show (0 : Int) ≤ (o.length : Int) by omega, pow_wrap (n := o.length) (by omega), int_ne, hq]
  have hcb : tb.any (fun row => !rowB o.length row) = !tb.all (rowB o.length) := by
    rw [List.any_eq_not_all_not]
    simp
  rw [hcb] at hc
  have htb : tabB o rs tb = (decide (tb.length = rs.length + 1) && tb.all (rowB o.length)) := rfl
  have e0 : (((rs.length + 1 : Nat) : Int) != (rs.length : Int) + 1) = false := by simp
  by_cases hlt : tb.length = rs.length + 1
  case neg =>
    rw [htb, decide_eq_false hlt]
    simp (disch := omega) only [EV, e, hlt]
  cases hall : tb.all (rowB o.length) with
  | false =>
    rw [htb, hall]
    rw [hall] at hc
    simp (disch := omega) only [EV, e0, hlt, hc]
  | true =>
  have ht : Tab o rs tb := tab_of (by rw [htb, hall, decide_eq_true hlt]; rfl)
  rw [hall] at hc
  have hrow := ht.row rs.length (Nat.le_refl _)
  have h4 : ∀ r b : Nat, r < rs.length → b < 2 ^ o.length → L_im_Season_arePotentials_4 (tb, ((r : Int), ((b : Int), ((tb.getD r []).getD b 0, ((rs.length : Int), ((r : Int), (tb.getD r [], ((2 ^ o.length : Nat) : Int), ((b : Int), (((((allSets o.length).filter (mayB o rs r)).length : Nat) : Int), (o, (c, (k, (rs, (allSets o.length).filter (mayB o rs r)))))))))))))) 0 =
      some (bif ((allSets o.length).filter (mayB o rs r)).all (fun s => okAt o c k rs tb r (ofCode o.length b) s) then .inl () else .inr ()) := fun r b hr hb => by
    obtain ⟨hbm, hbc⟩ := ofCode_ok hS hb
    have := iter_allR (f := fun v => (S_im_Season_arePotentials_4 (tb, ((r : Int), ((b : Int), ((tb.getD r []).getD b 0, ((rs.length : Int), ((r : Int), (tb.getD r [], ((2 ^ o.length : Nat) : Int), ((b : Int), (((((allSets o.length).filter (mayB o rs r)).length : Nat) : Int), (o, (c, (k, (rs, (allSets o.length).filter (mayB o rs r)))))))))))))) v).ev) (n := ((allSets o.length).filter (mayB o rs r)).length) (mk := fun i => (i : Int)) (p := fun j => okAt o c k rs tb r (ofCode o.length b) (((allSets o.length).filter (mayB o rs r)).getD j [])) (yes := .inl ()) (no := .inr ()) (fun j hj _ => by
      have hjm := getD_mem (d := []) hj
      have hja := (List.mem_filter.1 hjm).1
      have hjl := hS.lt _ hja
      have hmv := mv_in h hS hr (ofCode o.length b) hja
      have hll : ((allSets o.length).filter (mayB o rs r)).length ≤ 128 := by
        have h1 := List.length_filter_le (mayB o rs r) (allSets o.length)
        omega
      have e3 : (r : Int) + 1 = ((r + 1 : Nat) : Int) := by omega
      have e4 : F_im_bag_list (b : Int) = some (ofCode o.length b) := by
        have := hS.list _ hbm
        rw [hbc] at this
        exact this
      have hv1 := ht.val r b (by omega) hb
      have hv2 := ht.val (r + 1) (codeOf (((allSets o.length).filter (mayB o rs r)).getD j [])) (by omega) hjl
      simp (disch := omega) only [EV, S_im_Season_arePotentials_4, hj, wrapU (n := (b : Int)) (by omega) (by omega), e4, move_eq h hS hr hbm hja, e3, show r + 1 < tb.length by omega, hS.bagOf _ hja, ht.row (r + 1) (by omega), hjl]
      unfold okAt
      rw [hbc]
      by_cases hq : (tb.getD r []).getD b 0 ≤ mv o c k rs r (ofCode o.length b) (((allSets o.length).filter (mayB o rs r)).getD j []) + (tb.getD (r + 1) []).getD (codeOf (((allSets o.length).filter (mayB o rs r)).getD j [])) 0
      · rw [if_neg (by omega), decide_eq_true hq]; rfl
      · rw [if_pos (by omega), decide_eq_false hq]; rfl) (by simp (disch := omega) only [EV, S_im_Season_arePotentials_4, Nat.lt_irrefl])
    rw [all_range ((allSets o.length).filter (mayB o rs r)) [] (fun s => okAt o c k rs tb r (ofCode o.length b) s)] at this
    exact this
  have h2 : ∀ r : Nat, r < rs.length → L_im_Season_arePotentials_2 (tb, ((r : Int), ((rs.length : Int), ((r : Int), (tb.getD r [], (((2 ^ o.length : Nat) : Int), (o, (c, (k, rs))))))))) 0 =
      some (bif (List.range (2 ^ o.length)).all fun b => ((allSets o.length).filter (mayB o rs r)).all fun s => okAt o c k rs tb r (ofCode o.length b) s then .inl () else .inr ()) := fun r hr =>
    iter_allR (f := fun v => (S_im_Season_arePotentials_2 (tb, ((r : Int), ((rs.length : Int), ((r : Int), (tb.getD r [], (((2 ^ o.length : Nat) : Int), (o, (c, (k, rs))))))))) v).ev) (n := 2 ^ o.length) (mk := fun i => (i : Int)) (p := fun b => ((allSets o.length).filter (mayB o rs r)).all fun s => okAt o c k rs tb r (ofCode o.length b) s) (yes := .inl ()) (no := .inr ()) (fun b hb _ => by
      simp (disch := omega) only [EV, S_im_Season_arePotentials_2, hb, ht.row r (by omega), choices_eq h hS hr, h4 r b hr hb]
      cases ((allSets o.length).filter (mayB o rs r)).all fun s => okAt o c k rs tb r (ofCode o.length b) s <;> rfl) (by simp (disch := omega) only [EV, S_im_Season_arePotentials_2, Nat.lt_irrefl])
  have h0 := iter_allR (f := fun v => (S_im_Season_arePotentials_0 (tb, ((rs.length : Int), (o, (c, (k, rs))))) v).ev) (n := rs.length) (mk := fun i => (i : Int)) (p := fun r => (List.range (2 ^ o.length)).all fun b => ((allSets o.length).filter (mayB o rs r)).all fun s => okAt o c k rs tb r (ofCode o.length b) s) (yes := .inl ()) (no := .inr ()) (fun r hr _ => by
    simp (disch := omega) only [EV, S_im_Season_arePotentials_0, hr, show r < tb.length by omega, ht.row r (by omega), h2 r hr]
    cases (List.range (2 ^ o.length)).all fun b => ((allSets o.length).filter (mayB o rs r)).all fun s => okAt o c k rs tb r (ofCode o.length b) s <;> rfl) (by simp (disch := omega) only [EV, S_im_Season_arePotentials_0, Nat.lt_irrefl])
  have h0' : L_im_Season_arePotentials_0 (tb, ((rs.length : Int), (o, (c, (k, rs))))) 0 = some (bif safeI o c k rs tb then .inl () else .inr ()) := h0
  rw [safe_same hS ht, htb, hall, decide_eq_true hlt]
  simp (disch := omega) only [EV, e0, hlt, hc, show rs.length < rs.length + 1 by omega, slicesMax_eq (l := tb.getD rs.length []) (by omega) (by omega), h0']
  generalize (tb.getD rs.length []).foldl (fun a x => max a x) ((tb.getD rs.length []).getD 0 0) = m
  by_cases hm : m ≤ 0
  · rw [if_neg (by omega), decide_eq_true hm]
    cases safeI o c k rs tb <;> rfl
  · rw [if_pos (by omega), decide_eq_false hm]
    rfl
end Go.Proofs.Ytlmbhkmaflhagaa
