/-
  Plain laws: the least costs from each round on, as the program finds them.
-/
import Derived.Test.YtlmbhkmaflhagaaGreatP24
namespace Go.Proofs.YtlmbhkmaflhagaaGreat
theorem nil_mem {n : Nat} (hS : SetsOK n) : ([] : List Int) ∈ allSets n := hS.mem [] rfl
theorem mid_getD {α : Type} (P : List α) (x d : α) (t : List α) : (P ++ x :: t).getD P.length d = x := by simp [List.getD_eq_getElem?_getD]
theorem mid_next {α : Type} (P : List α) (x d : α) (t : List α) : (P ++ x :: t).getD (P.length + 1) d = t.getD 0 d := by
  rw [List.getD_eq_getElem?_getD, List.getElem?_append_right (by omega), List.getD_eq_getElem?_getD, show P.length + 1 - P.length = 0 + 1 by omega, List.getElem?_cons_succ]
theorem mid_set {α : Type} (P : List α) (x y : α) (t : List α) : (P ++ x :: t).set P.length y = P ++ y :: t := by
  rw [List.set_append_right _ _ (Nat.le_refl _)]
  simp
theorem pow_wrapU {n : Nat} (h : n ≤ 7) : IntKind.wrap .u64 ((1 : Int) * 2 ^ (min n (IntKind.bits .u64))) = ((2 ^ n : Nat) : Int) := by
  have : n = 0 ∨ n = 1 ∨ n = 2 ∨ n = 3 ∨ n = 4 ∨ n = 5 ∨ n = 6 ∨ n = 7 := by omega
  rcases this with rfl | rfl | rfl | rfl | rfl | rfl | rfl | rfl <;> rfl
theorem wrapU' {n m : Int} (h0 : 0 ≤ n) (h1 : n < 1000000) (e : n = m := by omega) : IntKind.wrap .u64 n = m := by
  have e' : IntKind.wrap .u64 n = n % 18446744073709551616 := rfl
  rw [e']
  omega
theorem choice_bound {o c k : List Int} {rs : List (List (List Int))} (h : Ssn o c k rs) (hS : SetsOK o.length) (r : Nat) : 0 < (choice o rs r).length ∧ ((choice o rs r).length : Int) ≤ 1048576 := by
  have h5 := h.n5
  have := choice_len (o := o) (by omega) hS rs r
  exact ⟨List.length_pos_of_mem (choice_pos h hS r), by omega⟩
structure FJ (o c k : List Int) (rs : List (List (List Int))) (i : Nat) (t : List (List Int)) : Prop where
  len : t.length = i + 1
  ok : ∀ j, j ≤ i → RowOK o.length (2178 * (i : Int)) (t.getD j [])
  row : ∀ j, j < i → t.getD j [] = rowFn o c k rs (rs.length - i + j) (t.getD (j + 1) [])
theorem RowOK.le {n : Nat} {M M' : Int} {row : List Int} (h : RowOK n M row) (hM : M ≤ M') : RowOK n M' row := ⟨h.len, fun i hi => ⟨(h.val i hi).1, by have := (h.val i hi).2; omega⟩⟩
theorem FJ.zero (o c k : List Int) (rs : List (List (List Int))) : FJ o c k rs 0 [List.replicate (2 ^ o.length) 0] :=
  ⟨rfl, fun j hj => by
    have : j = 0 := by omega
    subst this
    exact (FI.zero o.length).2, fun j hj => by omega⟩
theorem FJ.step {o c k : List Int} {rs : List (List (List Int))} (h : Ssn o c k rs) (hS : SetsOK o.length) {i : Nat} (hi : i < rs.length) {t : List (List Int)} (hI : FJ o c k rs i t) : FJ o c k rs (i + 1) (futStep o c k rs t i) := by
  refine ⟨by simp [futStep, hI.len], fun j hj => ?_, fun j hj => ?_⟩
  · cases j with
    | zero =>
      have := rowFn_ok h hS (r := rs.length - 1 - i) (by omega) (hI.ok 0 (by omega))
      exact this.le (by omega)
    | succ j => exact (hI.ok j (by omega)).le (by omega)
  · cases j with
    | zero =>
      show rowFn o c k rs (rs.length - 1 - i) (t.getD 0 []) = _
      rw [show rs.length - (i + 1) + 0 = rs.length - 1 - i by omega]
      rfl
    | succ j =>
      show t.getD j [] = _
      rw [hI.row j (by omega), show rs.length - (i + 1) + (j + 1) = rs.length - i + j by omega]
      rfl
theorem futs_FJ {o c k : List Int} {rs : List (List (List Int))} (h : Ssn o c k rs) (hS : SetsOK o.length) : FJ o c k rs rs.length (futs o c k rs) := by
  have key : ∀ i, i ≤ rs.length → FJ o c k rs i ((List.range i).foldl (futStep o c k rs) [List.replicate (2 ^ o.length) 0]) := by
    intro i
    induction i with
    | zero => intro _; exact FJ.zero o c k rs
    | succ i ih =>
      intro hi
      rw [List.range_succ, List.foldl_append]
      exact FJ.step h hS (by omega) (ih (by omega))
  exact key _ (Nat.le_refl _)
structure Fut (o c k : List Int) (rs : List (List (List Int))) (t : List (List Int)) : Prop where
  len : t.length = rs.length + 1
  ok : ∀ j, j ≤ rs.length → RowOK o.length 10890 (t.getD j [])
  row : ∀ r, r < rs.length → t.getD r [] = rowFn o c k rs r (t.getD (r + 1) [])
theorem futs_Fut {o c k : List Int} {rs : List (List (List Int))} (h : Ssn o c k rs) (hS : SetsOK o.length) : Fut o c k rs (futs o c k rs) := by
  have h1 := futs_FJ h hS
  have hR := h.R
  refine ⟨h1.len, fun j hj => (h1.ok j hj).le (by omega), fun r hr => ?_⟩
  have := h1.row r hr
  rwa [show rs.length - rs.length + r = r by omega] at this
theorem future1_eq {o c k : List Int} {rs : List (List (List Int))} (h : Ssn o c k rs) (hS : SetsOK o.length) {r : Nat} (hr : r < rs.length) {M : Int} (hM : M ≤ 100000) {t : List (List Int)} (ht : r + 1 < t.length) (hn : RowOK o.length M (t.getD (r + 1) [])) {b : Nat} (hb : b < 2 ^ o.length) {s : List Int} (hs : s ∈ allSets o.length) :
    F_zy s o c k rs (r : Int) (b : Int) t = some (cst o c k rs r (t.getD (r + 1) []) (ofCode o.length b) s) := by
  have h5 := h.n5
  have hR := h.R
  have hp := pow_le (n := o.length) (by omega)
  obtain ⟨hbm, hbc⟩ := ofCode_ok hS hb
  have e4 : F_zah (b : Int) = some (ofCode o.length b) := by
    have := hS.list _ hbm
    rw [hbc] at this
    exact this
  have hmv := mv_in h hS hr (ofCode o.length b) hs
  have hl := hS.lt _ hs
  have hv := hn.val _ hl
  have hlen := hn.len
  have e3 : (r : Int) + 1 = ((r + 1 : Nat) : Int) := by omega
  unfold F_zy T_zy
  simp (disch := omega) only [EV, e4, move_eq h hS hr hbm hs, e3, ht, hS.bagOf _ hs, hlen, hl]
  rfl
theorem future_row {o c k : List Int} {rs : List (List (List Int))} (h : Ssn o c k rs) (hS : SetsOK o.length) {r : Nat} (hr : r < rs.length) {M : Int} (hM : M ≤ 100000) {t : List (List Int)} (ht0 : 0 < t.length) (htl : t.length ≤ 6) (hn : RowOK o.length M (t.getD 0 [])) :
    L_zx_2 (choice o rs r, (o, (c, (k, (rs, (r : Int)))))) ((0 : Int), List.replicate r [] ++ [] :: t) = some (List.replicate r [] ++ rowFn o c k rs r (t.getD 0 []) :: t) := by
  have h5 := h.n5
  have hR := h.R
  have hp := pow_le (n := o.length) (by omega)
  obtain ⟨hc1, hc2⟩ := choice_bound h hS r
  have hPl : (List.replicate r ([] : List Int)).length = r := List.length_replicate
  generalize hP : List.replicate r ([] : List Int) = P at hPl
  have h0 := iter_fold (f := fun v => (S_zx_2 (choice o rs r, (o, (c, (k, (rs, (r : Int)))))) v).ev) (n := 2 ^ o.length) (mk := fun i row => ((i : Int), P ++ row :: t)) (I := fun i row => row = (List.range i).map fun b => bst o c k rs r (t.getD 0 []) (ofCode o.length b))
    (g := fun row i => row ++ [bst o c k rs r (t.getD 0 []) (ofCode o.length i)]) (fin := fun row => P ++ row :: t) (s0 := []) rfl
    (fun i row hi hI => by
      refine ⟨?_, by rw [hI, List.range_succ, List.map_append]; rfl⟩
      have hlen : (P ++ row :: t).length = r + 1 + t.length := by rw [List.length_append, List.length_cons, hPl]; omega
      have hnx : (P ++ row :: t).getD (r + 1) [] = t.getD 0 [] := by rw [← hPl]; exact mid_next P row [] t
      have hgd : (P ++ row :: t).getD r [] = row := by rw [← hPl]; exact mid_getD P row [] t
      have hst : ∀ y, (P ++ row :: t).set r y = P ++ y :: t := fun y => by rw [← hPl]; exact mid_set P row y t
      have hf : ∀ s ∈ allSets o.length, F_zy s o c k rs (r : Int) (i : Int) (P ++ row :: t) = some (cst o c k rs r (t.getD 0 []) (ofCode o.length i) s) := fun s hs => by
        have := future1_eq h hS hr hM (t := P ++ row :: t) (by omega) (by rw [hnx]; exact hn) hi hs
        rw [hnx] at this
        exact this
      have hle := least_eq (l := choice o rs r) hc1 hc2 (p := fun h16_ => Option.bind (F_zy h16_.1 o c k rs (r : Int) (i : Int) (P ++ row :: t)) fun y17_ => some y17_) (g := cst o c k rs r (t.getD 0 []) (ofCode o.length i)) fun s hs => by
        show Option.bind (F_zy s o c k rs (r : Int) (i : Int) (P ++ row :: t)) _ = _
        rw [hf s (List.mem_filter.1 hs).1]
        rfl
      obtain ⟨hfm, hfv⟩ := firstMin_spec (g := cst o c k rs r (t.getD 0 []) (ofCode o.length i)) (l := choice o rs r) (List.ne_nil_of_length_pos hc1)
      have hrow : row.length = i := by rw [hI]; simp
      have hb : bst o c k rs r (t.getD 0 []) (ofCode o.length i) = lstMin ((choice o rs r).map (cst o c k rs r (t.getD 0 []) (ofCode o.length i))) := rfl
      have hr1 : r < (P ++ row :: t).length := by omega
      have hw : IntKind.wrap .u64 ((i : Int) + 1) = ((i + 1 : Nat) : Int) := wrapU' (by omega) (by omega)
      simp (disch := omega) only [EV, S_zx_2, show (0 : Int) ≤ (o.length : Int) by omega, pow_wrapU (n := o.length) (by omega), hi, hr1, hle, hf _ (List.mem_filter.1 hfm).1, hgd, hst, hrow, List.length_singleton, show (i + 1) * 8 ≤ 140737488355328 by omega, hw, decide_true, Bool.and_self]
      rw [hfv, ← hb])
    (fun s _ => by simp (disch := omega) only [EV, S_zx_2, show (0 : Int) ≤ (o.length : Int) by omega, pow_wrapU (n := o.length) (by omega), Nat.lt_irrefl])
  have h1 : L_zx_2 (choice o rs r, (o, (c, (k, (rs, (r : Int)))))) ((0 : Int), P ++ [] :: t) = _ := h0.1
  rw [h1, h0.2]
  rfl
theorem future_eq {o c k : List Int} {rs : List (List (List Int))} (h : Ssn o c k rs) (hS : SetsOK o.length) : F_zx o c k rs = some (futs o c k rs) := by
  have h5 := h.n5
  have hR := h.R
  have hp := pow_le (n := o.length) (by omega)
  have hg : (decide ((0 : Int) ≤ ((2 ^ o.length : Nat) : Int)) && decide (((2 ^ o.length : Nat) : Int) ≤ ((2 ^ o.length : Nat) : Int)) && decide (((8 : Nat) : Int) * ((2 ^ o.length : Nat) : Int) ≤ 281474976710656)) = true := by simp only [Bool.and_eq_true, decide_eq_true_eq]; omega
  have h0 := iter_fold (f := fun v => (S_zx_0 (o, (c, (k, rs))) v).ev) (n := rs.length) (mk := fun i t => ((rs.length : Int) - 1 - (i : Int), List.replicate (rs.length - i) [] ++ t)) (I := FJ o c k rs) (g := futStep o c k rs) (fin := fun t => t) (s0 := [List.replicate (2 ^ o.length) 0]) (FJ.zero o c k rs)
    (fun i t hi hI => by
      refine ⟨?_, hI.step h hS hi⟩
      have e : (rs.length : Int) - 1 - (i : Int) = ((rs.length - 1 - i : Nat) : Int) := by omega
      have hge : (0 : Int) ≤ ((rs.length - 1 - i : Nat) : Int) := by omega
      have e2 : ((rs.length - 1 - i : Nat) : Int) - 1 = (rs.length : Int) - 1 - ((i + 1 : Nat) : Int) := by omega
      have hsp : List.replicate (rs.length - i) ([] : List Int) ++ t = List.replicate (rs.length - 1 - i) [] ++ [] :: t := by
        rw [show rs.length - i = rs.length - 1 - i + 1 by omega, List.replicate_succ', List.append_assoc]
        rfl
      have hrw := future_row h hS (r := rs.length - 1 - i) (by omega) (M := 2178 * (i : Int)) (by omega) (t := t) (by have := hI.len; omega) (by have := hI.len; omega) (hI.ok 0 (by omega))
      have hch := choices_eq h hS (r := rs.length - 1 - i) (by omega)
      have hch' : F_zv o c k rs ((rs.length - 1 - i : Nat) : Int) = some (choice o rs (rs.length - 1 - i)) := hch
      rw [e, hsp]
      simp (disch := omega) only [EV, S_zx_0, hge, hch', hrw, e2]
      rw [show rs.length - (i + 1) = rs.length - 1 - i by omega]
      rfl)
    (fun s _ => by
      have hge : ¬ (0 : Int) ≤ (rs.length : Int) - 1 - (rs.length : Int) := by omega
      simp (disch := omega) only [EV, S_zx_0, hge, Nat.sub_self]
      rfl)
  have h1 : L_zx_0 (o, (c, (k, rs))) ((rs.length : Int) - 1, List.replicate rs.length [] ++ [List.replicate (2 ^ o.length) 0]) = some (futs o c k rs) := by
    have := h0.1
    simp only [Nat.sub_zero] at this
    rw [show (rs.length : Int) - 1 - ((0 : Nat) : Int) = (rs.length : Int) - 1 by omega] at this
    exact this
  have e0 : List.set (List.replicate (rs.length + 1) ([] : List Int)) rs.length (List.replicate (2 ^ o.length) 0) = List.replicate rs.length [] ++ [List.replicate (2 ^ o.length) 0] := by
    rw [List.replicate_succ', List.set_append_right _ _ (by simp)]
    simp
  have hg2 : (decide ((0 : Int) ≤ (rs.length : Int) + 1) && decide ((rs.length : Int) + 1 ≤ (rs.length : Int) + 1) && decide (((24 : Nat) : Int) * ((rs.length : Int) + 1) ≤ 281474976710656)) = true := by simp only [Bool.and_eq_true, decide_eq_true_eq]; omega
  have e5 : Int.toNat ((rs.length : Int) + 1) = rs.length + 1 := by omega
  unfold F_zx T_zx
  simp (disch := omega) only [EV, hg2, show (0 : Int) ≤ (o.length : Int) by omega, pow_wrap (n := o.length) (by omega), hg, e5, List.length_replicate, show rs.length < rs.length + 1 by omega, e0, h1]
end Go.Proofs.YtlmbhkmaflhagaaGreat
