/-
  Plain laws: small sorts; ordered values.
-/
import Derived.Test.YtbofjefpngpegaaGreatP8
namespace Go.Proofs.YtbofjefpngpegaaGreat
def ins (x : Int) : List Int → List Int
  | [] => [x]
  | a :: l => if a ≤ x then a :: ins x l else x :: a :: l
def wan (l : List Int) : List Int := l.foldl (fun acc x => ins x acc) []
theorem waas {x y : Int} (h : x < y) : ∀ q : List Int, ins x (q ++ [y]) = ins x q ++ [y]
  | [] => by simp [ins]; omega
  | a :: q => by
    simp only [List.cons_append, ins]
    split
    · rw [waas h q]; rfl
    · rfl
theorem waat {x : Int} : ∀ {l : List Int}, (∀ y ∈ l, y ≤ x) → ins x l = l ++ [x]
  | [], _ => rfl
  | a :: l, h => by
    simp only [ins, if_pos (h a List.mem_cons_self), List.cons_append]
    rw [waat fun y hy => h y (List.mem_cons_of_mem _ hy)]
theorem wyy {x y : Int} : ∀ {l : List Int}, y ∈ ins x l ↔ y = x ∨ y ∈ l
  | [] => by simp [ins]
  | a :: l => by
    simp only [ins]
    split
    · simp only [List.mem_cons, wyy (l := l)]
      constructor
      · rintro (h | h | h)
        · exact .inr (.inl h)
        · exact .inl h
        · exact .inr (.inr h)
      · rintro (h | h | h)
        · exact .inr (.inl h)
        · exact .inl h
        · exact .inr (.inr h)
    · simp only [List.mem_cons]
theorem wyz {x : Int} : ∀ {l : List Int}, (ins x l).length = l.length + 1
  | [] => rfl
  | a :: l => by
    simp only [ins]
    split
    · simp [wyz (l := l)]
    · rfl
theorem wnp {x : Int} : ∀ {l : List Int}, l.Pairwise (· ≤ ·) → (ins x l).Pairwise (· ≤ ·)
  | [], _ => by simp [ins]
  | a :: l, h => by
    rw [List.pairwise_cons] at h
    simp only [ins]
    split
    next hx =>
      rw [List.pairwise_cons]
      exact ⟨fun y hy => (wyy.1 hy).elim (fun e => e ▸ hx) (h.1 y), wnp h.2⟩
    next hx =>
      rw [List.pairwise_cons, List.pairwise_cons]
      refine ⟨fun y hy => ?_, h⟩
      rcases List.mem_cons.1 hy with rfl | hy
      · omega
      · have := h.1 y hy; omega
theorem wnq (l : List Int) (x : Int) : wan (l ++ [x]) = ins x (wan l) := by simp [wan]
theorem wcj : ∀ l : List Int, (wan l).Pairwise (· ≤ ·) ∧ (wan l).length = l.length ∧ ∀ y, y ∈ wan l ↔ y ∈ l := by
  intro l
  have key : ∀ (l acc : List Int), acc.Pairwise (· ≤ ·) → (l.foldl (fun acc x => ins x acc) acc).Pairwise (· ≤ ·) ∧ (l.foldl (fun acc x => ins x acc) acc).length = acc.length + l.length ∧ ∀ y, y ∈ l.foldl (fun acc x => ins x acc) acc ↔ y ∈ acc ∨ y ∈ l := by
    intro l
    induction l with
    | nil => intro acc h; exact ⟨h, rfl, fun y => by simp⟩
    | cons x l ih =>
      intro acc h
      obtain ⟨h1, h2, h3⟩ := ih (ins x acc) (wnp h)
      refine ⟨h1, by rw [List.foldl_cons, h2, wyz, List.length_cons]; omega, fun y => ?_⟩
      rw [List.foldl_cons, h3, wyy, List.mem_cons]
      constructor
      · rintro ((h | h) | h)
        · exact .inr (.inl h)
        · exact .inl h
        · exact .inr (.inr h)
      · rintro (h | h | h)
        · exact .inl (.inr h)
        · exact .inl (.inl h)
        · exact .inr h
  obtain ⟨h1, h2, h3⟩ := key l [] List.Pairwise.nil
  exact ⟨h1, by simpa [wan] using h2, fun y => by simpa [wan] using h3 y⟩
theorem wnr (a b : Int) : wxu a b = some (decide (a < b)) := by
  unfold wxu T_zb F_zd T_zd
  simp (disch := omega) only [EV, bne_self_eq_false]
theorem waau {p r : List Int} {x : Int} : (p ++ x :: r).getD p.length 0 = x := by
  rw [List.getD_eq_getElem?_getD, List.getElem?_append_right (Nat.le_refl _), Nat.sub_self]; rfl
theorem wvr (n i : Int) : ∀ (m : Nat) (p : List Int) (x : Int) (r : List Int), p.length = m → (p.length : Int) < 9223372036854775807 → p.Pairwise (· ≤ ·) → wma (0, (n, i)) ((p.length : Int), p ++ x :: r) = some (ins x p ++ r) := by
  intro m
  induction m with
  | zero =>
    intro p x r hm _ _
    have := List.eq_nil_of_length_eq_zero hm
    subst this
    unfold wma
    rw [wbn]
    simp (disch := omega) only [EV, wge, Nat.lt_irrefl, List.length_nil, Int.lt_irrefl, show ((0 : Nat) : Int) = 0 from rfl]
    rfl
  | succ m ih =>
    intro p x r hm hlt hp
    obtain ⟨q, y, rfl⟩ : ∃ q y, p = q ++ [y] := by
      have := List.eq_nil_or_concat p
      rcases this with h | ⟨q, y, h⟩
      · rw [h] at hm; cases hm
      · exact ⟨q, y, by simpa using h⟩
    have hql : q.length = m := by simpa using hm
    have e0 : ((q ++ [y]).length : Int) = ((m + 1 : Nat) : Int) := by simp [hql]
    rw [e0] at hlt ⊢
    have e2 : ((m + 1 : Nat) : Int) - 1 = (m : Int) := by omega
    have g1 : ((q ++ [y]) ++ x :: r).getD (m + 1) 0 = x := by
      have := waau (p := q ++ [y]) (x := x) (r := r)
      rwa [show (q ++ [y]).length = m + 1 by simp [hql]] at this
    have g2 : ((q ++ [y]) ++ x :: r).getD m 0 = y := by
      have := waau (p := q) (x := y) (r := x :: r)
      rw [hql] at this
      simpa using this
    have hl : ((q ++ [y]) ++ x :: r).length = m + 2 + r.length := by simp [hql]; omega
    have s1 : (((q ++ [y]) ++ x :: r).set (m + 1) y).set m x = q ++ x :: (y :: r) := by
      have t1 : ((q ++ [y]) ++ x :: r).set (m + 1) y = (q ++ [y]) ++ y :: r := by
        rw [List.set_append_right _ _ (by simp [hql]), show m + 1 - (q ++ [y]).length = 0 by simp [hql]]; rfl
      rw [t1, List.append_assoc, List.set_append_right _ _ (by omega), show m - q.length = 0 by omega]
      rfl
    have hend : ¬ x < y → ((q ++ [y]) ++ x :: r) = ins x (q ++ [y]) ++ r := fun hxy => by
      rw [waat]
      · simp
      · intro z hz
        rcases List.mem_append.1 hz with hz | hz
        · have := (List.pairwise_append.1 hp).2.2 z hz y (by simp)
          omega
        · have := List.mem_singleton.1 hz
          omega
    have h0 : (0 : Int) < ((m + 1 : Nat) : Int) := by omega
    have h1 : m + 1 < m + 2 + r.length := by omega
    have h2 : m < m + 2 + r.length := by omega
    generalize ((q ++ [y]) ++ x :: r) = L at g1 g2 hl s1 hend
    unfold wma
    rw [wbn]
    by_cases hxy : x < y
    · have e : (wge (0, (n, i)) (((m + 1 : Nat) : Int), L)).ev = some (.inl ((m : Int), q ++ x :: (y :: r))) := by
        simp (disch := omega) only [EV, wge, h0, hl, h1, e2, h2, g1, g2, wnr, hxy, List.length_set, s1]
      rw [e]
      have := ih q x (y :: r) hql (by omega) (List.pairwise_append.1 hp).1
      rw [hql] at this
      unfold wma at this
      simp only
      rw [this, waas hxy]
      simp
    · have e : (wge (0, (n, i)) (((m + 1 : Nat) : Int), L)).ev = some (.inr L) := by
        simp (disch := omega) only [EV, wge, h0, hl, h1, e2, h2, g1, g2, wnr, hxy]
      rw [e]
      simp only
      rw [hend hxy]
theorem wayq (l : List Int) : (List.range (l.length - 1)).foldl (fun _ k => wan (l.take (k + 2)) ++ l.drop (k + 2)) l = wan l := by
  cases hn : l.length - 1 with
  | zero =>
    rcases l with _ | ⟨a, _ | ⟨b, l⟩⟩
    · rfl
    · rfl
    · simp at hn
  | succ n =>
    rw [List.range_succ, List.foldl_append]
    simp only [List.foldl_cons, List.foldl_nil]
    rw [List.take_of_length_le (by omega), List.drop_of_length_le (by omega), List.append_nil]
theorem wjn {l : List Int} (hl : (l.length : Int) < 9223372036854775806) : wahx 0 (l.length : Int) l = some (wan l) := by
  have key := (wbr (f := fun v => (wmb (0, (l.length : Int)) v).ev) (n := l.length - 1) (mk := fun k (s : List Int) => (((k + 1 : Nat) : Int), s)) (I := fun k s => s = wan (l.take (k + 1)) ++ l.drop (k + 1)) (g := fun _ k => wan (l.take (k + 2)) ++ l.drop (k + 2)) (fin := fun s => s) (s0 := l) (by
      cases l with
      | nil => rfl
      | cons a l => simp [wan, ins])
    (fun k s hk hs => by
      subst hs
      have hkl : k + 1 < l.length := by omega
      obtain ⟨h1, h2, _⟩ := wcj (l.take (k + 1))
      have h3 : (wan (l.take (k + 1))).length = k + 1 := by rw [h2]; simp; omega
      have h4 : l.drop (k + 1) = l[k + 1] :: l.drop (k + 2) := List.drop_eq_getElem_cons hkl
      have h5 : wan (l.take (k + 2)) = ins l[k + 1] (wan (l.take (k + 1))) := by
        rw [← wnq, List.take_succ_eq_append_getElem hkl]
      have h6 := wvr (l.length : Int) ((k + 1 : Nat) : Int) (k + 1) (wan (l.take (k + 1))) l[k + 1] (l.drop (k + 2)) h3 (by rw [h3]; omega) h1
      rw [h3, ← h4] at h6
      refine ⟨?_, rfl⟩
      simp (disch := omega) only [EV, wmb, hkl, h6]
      rw [h5]
      rfl)
    (fun s _ => by
      have : ¬ ((l.length - 1 + 1 : Nat) : Int) < (l.length : Int) := by omega
      simp (disch := omega) only [EV, wmb, show ¬ (l.length - 1 + 1 < l.length) by omega])).1
  rw [wayq] at key
  have z : (((0 + 1 : Nat) : Int), l) = ((1 : Int), l) := rfl
  have e : wahw (0, (l.length : Int)) (1, l) = some (wan l) := key
  unfold wahx wavc
  simp (disch := omega) only [EV, show IntKind.wrap .i64 ((0 : Int) + 1) = 1 from rfl, e]
theorem wada : ∀ n : Nat, n ≤ 12 → ∃ r, wxt (IntKind.wrap .u64 (n : Int)) = some r
  | 0, _ => ⟨0, by kernel_rfl⟩
  | 1, _ => ⟨1, by kernel_rfl⟩
  | 2, _ => ⟨2, by kernel_rfl⟩
  | 3, _ => ⟨2, by kernel_rfl⟩
  | 4, _ => ⟨3, by kernel_rfl⟩
  | 5, _ => ⟨3, by kernel_rfl⟩
  | 6, _ => ⟨3, by kernel_rfl⟩
  | 7, _ => ⟨3, by kernel_rfl⟩
  | 8, _ => ⟨4, by kernel_rfl⟩
  | 9, _ => ⟨4, by kernel_rfl⟩
  | 10, _ => ⟨4, by kernel_rfl⟩
  | 11, _ => ⟨4, by kernel_rfl⟩
  | 12, _ => ⟨4, by kernel_rfl⟩
  | n + 13, h => by omega
set_option maxRecDepth 100000 in
theorem wayr (rec_ : Int → Int → Int → List Int → Option (List Int)) (v : Int × Int × Int × Bool × Bool × List Int) :
    ∃ y, wql rec_ () v = .t (decide ((IntKind.wrap .i64 (v.2.1 - v.1)) ≤ (12 : Int))) (.c (List (Int)) (wahx v.1 v.2.1 v.2.2.2.2.2) fun r7_ => .l (.inr r7_)) y := ⟨_, rfl⟩
theorem pdq_small {l : List Int} (hl : l.length ≤ 12) (k : Nat) (r : Int) : wim (k + 1) 0 (l.length : Int) r l = some (wan l) := by
  show (waim (wim k) 0 (l.length : Int) r l).ev = _
  unfold waim
  have key : wxv (wim k) () (0, ((l.length : Int), (r, (true, (true, l))))) = some (wan l) := by
    unfold wxv
    rw [wbn]
    obtain ⟨y, hy⟩ := wayr (wim k) (0, ((l.length : Int), (r, (true, (true, l)))))
    have e : (wql (wim k) () (0, ((l.length : Int), (r, (true, (true, l)))))).ev = some (.inr (wan l)) := by
      rw [hy, Tr.ev_t]
      simp only
      rw [show decide (IntKind.wrap .i64 ((l.length : Int) - 0) ≤ 12) = true by rw [wrap64 (by omega) (by omega)]; simp; omega]
      rw [cond_true, Tr.ev_c, wjn (by omega)]
      rfl
    rw [e]
  rw [Tr.ev_c, key]
  rfl
theorem whg {l : List Int} (hl : l.length ≤ 12) : wavn l = some (wan l) := by
  obtain ⟨r, hr⟩ := wada l.length hl
  unfold wavn wavm
  rw [Tr.ev_c, hr]
  rw [Option.bind_some, Tr.ev_c, pdq_small hl 999999 r]
  rfl
theorem waav (x : Int) : ∀ l : List Int, l.take ((l.findIdx? fun y => !decide (y ≤ x)).elim l.length id) ++ x :: l.drop ((l.findIdx? fun y => !decide (y ≤ x)).elim l.length id) = ins x l
  | [] => rfl
  | a :: l => by
    have ih := waav x l
    rw [List.findIdx?_cons]
    by_cases h : a ≤ x
    · simp only [h, decide_true, Bool.not_true, Bool.false_eq_true, if_false, ins, if_true]
      cases hf : l.findIdx? fun y => !decide (y ≤ x) with
      | none => rw [hf] at ih; simpa using ih
      | some j => rw [hf] at ih; simpa using ih
    · simp [h, ins]
end Go.Proofs.YtbofjefpngpegaaGreat
