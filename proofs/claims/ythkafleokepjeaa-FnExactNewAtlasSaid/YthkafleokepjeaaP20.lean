/-
  Plain laws: marks that are written into a result, and read again.
-/
import Derived.Test.YthkafleokepjeaaP2
namespace Go.Proofs.Ythkafleokepjeaa

/-- n numbers from k on. -/
def markL (k : Int) (n : Nat) : List Int := (List.range n).map fun (i : Nat) => k + (i : Int)
theorem markL_len (k : Int) (n : Nat) : (markL k n).length = n := by simp [markL]
theorem markL_succ (k : Int) (n : Nat) : markL k (n + 1) = markL k n ++ [k + (n : Int)] := by simp [markL, List.range_succ]
theorem markL_getD {k : Int} {n i : Nat} (h : i < n) : (markL k n).getD i 0 = k + (i : Int) := by
  simp [markL, List.getD_eq_getElem?_getD, h]
theorem mark_set (k : Int) {l : List Int} {i : Nat} (h : i < l.length) : (markL k i ++ l.drop i).set i (k + (i : Int)) = markL k (i + 1) ++ l.drop (i + 1) := by
  rw [List.set_append_right _ _ (by rw [markL_len]; omega), markL_len, Nat.sub_self, List.drop_eq_getElem_cons h, List.set_cons_zero, markL_succ, List.append_assoc]
  rfl

theorem markIntS_eq {l : List Int} (hl : Low1 l) {k : Int} (h0 : 0 ≤ k) (h1 : k ≤ 4611686018427387904) : F_lw_markIntS k l = some (k + (l.length : Int), markL k l.length) := by
  unfold Low1 at hl
  unfold F_lw_markIntS T_lw_markIntS
  have hs := (iter_fold (f := fun v => (S_lw_markIntS_0 () v).ev) (n := l.length) (mk := fun i (_ : Unit) => (k + (i : Int), ((i : Int), markL k i ++ l.drop i))) (I := fun _ _ => True) (g := fun s _ => s) (fin := fun _ => (k + (l.length : Int), markL k l.length)) (s0 := ()) trivial
    (fun i s hi _ => ⟨by
      have hlen : (markL k i ++ l.drop i).length = l.length := by simp [markL_len]; omega
      simp (disch := omega) only [EV, S_lw_markIntS_0, hlen, hi, mark_set k hi, ← Int.add_assoc]
      congr 1; congr 1; congr 1
      omega, trivial⟩)
    (fun s _ => by
      have hlen : (markL k l.length ++ l.drop l.length).length = l.length := by simp [markL_len]
      simp (disch := omega) only [EV, S_lw_markIntS_0, markL_len, Nat.lt_irrefl, List.drop_length, List.append_nil])).1
  simp only [show markL k 0 ++ l.drop 0 = l by simp [markL], Int.natCast_zero, Int.add_zero] at hs
  simp (disch := omega) only [EV, L_lw_markIntS_0, hs]
theorem heldIntS_eq {n : Nat} (hn : (n : Int) ≤ 1048576) {k : Int} (h0 : 0 ≤ k) (h1 : k ≤ 4611686018427387904) : F_lw_heldIntS (markL k n) k = some (k + (n : Int)) := by
  unfold F_lw_heldIntS T_lw_heldIntS
  have hs := (iter_fold (f := fun v => (S_lw_heldIntS_0 (markL k n) v).ev) (n := n) (mk := fun i (_ : Unit) => (k + (i : Int), (i : Int))) (I := fun _ _ => True) (g := fun s _ => s) (fin := fun _ => .inl (k + (n : Int))) (s0 := ()) trivial
    (fun i s hi _ => ⟨by
      simp (disch := omega) only [EV, S_lw_heldIntS_0, markL_len, hi, markL_getD hi, bne_self_eq_false]
      congr 1; congr 1; congr 1
      omega, trivial⟩)
    (fun s _ => by simp (disch := omega) only [EV, S_lw_heldIntS_0, markL_len, Nat.lt_irrefl])).1
  simp only [Int.natCast_zero, Int.add_zero] at hs
  simp (disch := omega) only [EV, L_lw_heldIntS_0, hs]

/-- The same for rows, one behind the other. -/
def markLL : Int → List (List Int) → List (List Int)
  | _, [] => []
  | k, r :: x => markL k r.length :: markLL (k + (r.length : Int)) x
def tot : Int → List (List Int) → Int
  | k, [] => k
  | k, r :: x => tot (k + (r.length : Int)) x
theorem tot_snoc (r : List Int) : ∀ (x : List (List Int)) (k : Int), tot k (x ++ [r]) = tot k x + (r.length : Int)
  | [], k => rfl
  | q :: x, k => by simp only [List.cons_append, tot]; exact tot_snoc r x _
theorem markLL_snoc (r : List Int) : ∀ (x : List (List Int)) (k : Int), markLL k (x ++ [r]) = markLL k x ++ [markL (tot k x) r.length]
  | [], k => rfl
  | q :: x, k => by simp only [List.cons_append, markLL, tot]; rw [markLL_snoc r x]
theorem markLL_len : ∀ (x : List (List Int)) (k : Int), (markLL k x).length = x.length
  | [], _ => rfl
  | q :: x, k => by simp [markLL, markLL_len x]
theorem tot_bound : ∀ {x : List (List Int)} {k : Int}, (∀ r ∈ x, Low1 r) → k ≤ tot k x ∧ tot k x ≤ k + (x.length : Int) * 1048576
  | [], k, _ => by simp [tot]
  | r :: x, k, h => by
    have h1 := h r List.mem_cons_self
    unfold Low1 at h1
    obtain ⟨h2, h3⟩ := tot_bound (x := x) (k := k + (r.length : Int)) fun r hr => h r (List.mem_cons_of_mem _ hr)
    simp only [tot, List.length_cons]
    constructor
    · omega
    · have : ((x.length + 1 : Nat) : Int) * 1048576 = (x.length : Int) * 1048576 + 1048576 := by omega
      omega
theorem take_snoc {α : Type} {l : List α} {i : Nat} (d : α) (h : i < l.length) : l.take (i + 1) = l.take i ++ [l.getD i d] := by
  rw [List.take_succ_eq_append_getElem h, List.getD_eq_getElem?_getD, List.getElem?_eq_getElem h]
  rfl
theorem tot_take {x : List (List Int)} (hx : Low2 x) {k : Int} (i : Nat) : k ≤ tot k (x.take i) ∧ tot k (x.take i) ≤ k + 1099511627776 := by
  obtain ⟨h1, h2⟩ := tot_bound (x := x.take i) (k := k) fun r hr => hx.2 r (List.mem_of_mem_take hr)
  have h3 : ((x.take i).length : Int) ≤ 1048576 := by
    have := hx.1
    rw [List.length_take]
    omega
  refine ⟨h1, ?_⟩
  have : ((x.take i).length : Int) * 1048576 ≤ 1048576 * 1048576 := Int.mul_le_mul_of_nonneg_right h3 (by omega)
  omega

theorem markIntSS_eq {x : List (List Int)} (hx : Low2 x) {k : Int} (h0 : 0 ≤ k) (h1 : k ≤ 2305843009213693952) : F_lw_markIntSS k x = some (tot k x, markLL k x) := by
  have hl := hx.1
  unfold F_lw_markIntSS T_lw_markIntSS
  have hs := (iter_fold (f := fun v => (S_lw_markIntSS_0 () v).ev) (n := x.length) (mk := fun i (_ : Unit) => (tot k (x.take i), ((i : Int), markLL k (x.take i) ++ x.drop i))) (I := fun _ _ => True) (g := fun s _ => s) (fin := fun _ => (tot k x, markLL k x)) (s0 := ()) trivial
    (fun i s hi _ => ⟨by
      have hml : (markLL k (x.take i)).length = i := by rw [markLL_len, List.length_take]; omega
      have hlen : (markLL k (x.take i) ++ x.drop i).length = x.length := by rw [List.length_append, hml, List.length_drop]; omega
      have hget : (markLL k (x.take i) ++ x.drop i).getD i [] = x.getD i [] := by
        rw [List.getD_eq_getElem?_getD, List.getElem?_append_right (by omega), hml, Nat.sub_self, List.getElem?_drop, List.getD_eq_getElem?_getD, Nat.add_zero]
      have hb := tot_take hx (k := k) i
      have hset : (markLL k (x.take i) ++ x.drop i).set i (markL (tot k (x.take i)) (x.getD i []).length) = markLL k (x.take (i + 1)) ++ x.drop (i + 1) := by
        rw [List.set_append_right _ _ (by omega), hml, Nat.sub_self, List.drop_eq_getElem_cons hi, List.set_cons_zero, take_snoc [] hi, markLL_snoc, List.append_assoc]
        rfl
      have htot : tot k (x.take (i + 1)) = tot k (x.take i) + ((x.getD i []).length : Int) := by rw [take_snoc [] hi, tot_snoc]
      simp (disch := omega) only [EV, S_lw_markIntSS_0, hlen, hi, hget, markIntS_eq (hx.2 _ (getD_mem (d := []) hi)) (k := tot k (x.take i)) (by omega) (by omega), hset, htot]
      rfl, trivial⟩)
    (fun s _ => by
      have hlen : (markLL k (x.take x.length) ++ x.drop x.length).length = x.length := by simp [markLL_len]
      simp (disch := omega) only [EV, S_lw_markIntSS_0, markLL_len, Nat.lt_irrefl, List.drop_length, List.append_nil, List.take_length])).1
  simp only [List.take_zero, List.drop_zero, markLL, tot, List.nil_append, Int.natCast_zero] at hs
  simp (disch := omega) only [EV, L_lw_markIntSS_0, hs]
theorem markLL_getD : ∀ (x : List (List Int)) (k : Int) (i : Nat), i < x.length → (markLL k x).getD i [] = markL (tot k (x.take i)) (x.getD i []).length
  | [], _, _, h => by simp at h
  | r :: x, k, 0, _ => rfl
  | r :: x, k, i + 1, h => by
    simp only [markLL, List.getD_cons_succ, List.take_succ_cons, tot]
    exact markLL_getD x _ i (by simpa using h)
theorem heldIntSS_eq {x : List (List Int)} (hx : Low2 x) {k : Int} (h0 : 0 ≤ k) (h1 : k ≤ 2305843009213693952) : F_lw_heldIntSS (markLL k x) k = some (tot k x) := by
  have hl := hx.1
  unfold F_lw_heldIntSS T_lw_heldIntSS
  have hs := (iter_fold (f := fun v => (S_lw_heldIntSS_0 (markLL k x) v).ev) (n := x.length) (mk := fun i (_ : Unit) => (tot k (x.take i), (i : Int))) (I := fun _ _ => True) (g := fun s _ => s) (fin := fun _ => .inl (tot k x)) (s0 := ()) trivial
    (fun i s hi _ => ⟨by
      have hb := tot_take hx (k := k) i
      have hr := hx.2 _ (getD_mem (d := []) hi)
      have htot : tot k (x.take (i + 1)) = tot k (x.take i) + ((x.getD i []).length : Int) := by rw [take_snoc [] hi, tot_snoc]
      have hneg : ¬ tot k (x.take i) + ((x.getD i []).length : Int) < 0 := by omega
      simp (disch := omega) only [EV, S_lw_heldIntSS_0, markLL_len, hi, markLL_getD x k i hi, heldIntS_eq hr (k := tot k (x.take i)) (by omega) (by omega), hneg, htot]
      rfl, trivial⟩)
    (fun s _ => by simp (disch := omega) only [EV, S_lw_heldIntSS_0, markLL_len, Nat.lt_irrefl, List.take_length])).1
  simp only [List.take_zero, tot, Int.natCast_zero] at hs
  simp (disch := omega) only [EV, L_lw_heldIntSS_0, hs]
end Go.Proofs.Ythkafleokepjeaa
