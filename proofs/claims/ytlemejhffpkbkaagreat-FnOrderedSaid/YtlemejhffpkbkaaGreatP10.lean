/-
  Plain laws: small sorts; ordered values.
-/
import Derived.Test.YtlemejhffpkbkaaGreatP8
namespace Go.Proofs.YtlemejhffpkbkaaGreat
def ins (x : Int) : List Int → List Int
  | [] => [x]
  | a :: l => if a ≤ x then a :: ins x l else x :: a :: l
def sortI (l : List Int) : List Int := l.foldl (fun acc x => ins x acc) []
theorem ins_snoc {x y : Int} (h : x < y) : ∀ q : List Int, ins x (q ++ [y]) = ins x q ++ [y]
  | [] => by simp [ins]; omega
  | a :: q => by
    simp only [List.cons_append, ins]
    split
    · rw [ins_snoc h q]; rfl
    · rfl
theorem ins_last {x : Int} : ∀ {l : List Int}, (∀ y ∈ l, y ≤ x) → ins x l = l ++ [x]
  | [], _ => rfl
  | a :: l, h => by
    simp only [ins, if_pos (h a List.mem_cons_self), List.cons_append]
    rw [ins_last fun y hy => h y (List.mem_cons_of_mem _ hy)]
theorem mem_ins {x y : Int} : ∀ {l : List Int}, y ∈ ins x l ↔ y = x ∨ y ∈ l
  | [] => by simp [ins]
  | a :: l => by
    simp only [ins]
    split
    · simp only [List.mem_cons, mem_ins (l := l)]
      constructor
      · rintro (h | h | h)
        · exact .inr (.inl h)
        · exact .inl h
        · exact .inr (.inr h)
      · rintro (h | h | h)
        · exact .inr (.inl h)
        · exact .inl h
        · exact .inr (.inr h)
    · simp only [List.mem_cons]
theorem ins_len {x : Int} : ∀ {l : List Int}, (ins x l).length = l.length + 1
  | [] => rfl
  | a :: l => by
    simp only [ins]
    split
    · simp [ins_len (l := l)]
    · rfl
theorem ins_sorted {x : Int} : ∀ {l : List Int}, l.Pairwise (· ≤ ·) → (ins x l).Pairwise (· ≤ ·)
  | [], _ => by simp [ins]
  | a :: l, h => by
    rw [List.pairwise_cons] at h
    simp only [ins]
    split
    next hx =>
      rw [List.pairwise_cons]
      exact ⟨fun y hy => (mem_ins.1 hy).elim (fun e => e ▸ hx) (h.1 y), ins_sorted h.2⟩
    next hx =>
      rw [List.pairwise_cons, List.pairwise_cons]
      refine ⟨fun y hy => ?_, h⟩
      rcases List.mem_cons.1 hy with rfl | hy
      · omega
      · have := h.1 y hy; omega
theorem sortI_snoc (l : List Int) (x : Int) : sortI (l ++ [x]) = ins x (sortI l) := by simp [sortI]
theorem sortI_inv : ∀ l : List Int, (sortI l).Pairwise (· ≤ ·) ∧ (sortI l).length = l.length ∧ ∀ y, y ∈ sortI l ↔ y ∈ l := by
  intro l
  have key : ∀ (l acc : List Int), acc.Pairwise (· ≤ ·) → (l.foldl (fun acc x => ins x acc) acc).Pairwise (· ≤ ·) ∧ (l.foldl (fun acc x => ins x acc) acc).length = acc.length + l.length ∧ ∀ y, y ∈ l.foldl (fun acc x => ins x acc) acc ↔ y ∈ acc ∨ y ∈ l := by
    intro l
    induction l with
    | nil => intro acc h; exact ⟨h, rfl, fun y => by simp⟩
    | cons x l ih =>
      intro acc h
      obtain ⟨h1, h2, h3⟩ := ih (ins x acc) (ins_sorted h)
      refine ⟨h1, by rw [List.foldl_cons, h2, ins_len, List.length_cons]; omega, fun y => ?_⟩
      rw [List.foldl_cons, h3, mem_ins, List.mem_cons]
      constructor
      · rintro ((h | h) | h)
        · exact .inr (.inl h)
        · exact .inl h
        · exact .inr (.inr h)
      · rintro (h | h | h)
        · exact .inl (.inr h)
        · exact .inl (.inl h)
        · exact .inr h
  obtain ⟨h1, h2, h3⟩ := key l [] List.Pairwise.nil
  exact ⟨h1, by simpa [sortI] using h2, fun y => by simpa [sortI] using h3 y⟩
theorem cmpLess_eq (a b : Int) : F_zb a b = some (decide (a < b)) := by
  unfold F_zb T_zb F_zd T_zd
  simp (disch := omega) only [EV, bne_self_eq_false]
theorem getD_mid {p r : List Int} {x : Int} : (p ++ x :: r).getD p.length 0 = x := by
  rw [List.getD_eq_getElem?_getD, List.getElem?_append_right (Nat.le_refl _), Nat.sub_self]; rfl
theorem insertion_in (n i : Int) : ∀ (m : Nat) (p : List Int) (x : Int) (r : List Int), p.length = m → (p.length : Int) < 9223372036854775807 → p.Pairwise (· ≤ ·) → L_zbd_2 (0, (n, i)) ((p.length : Int), p ++ x :: r) = some (ins x p ++ r) := by
  intro m
  induction m with
  | zero =>
    intro p x r hm _ _
    have := List.eq_nil_of_length_eq_zero hm
    subst this
    unfold L_zbd_2
    rw [iter_eq]
    simp (disch := omega) only [EV, S_zbd_2, Nat.lt_irrefl, List.length_nil, Int.lt_irrefl, show ((0 : Nat) : Int) = 0 from rfl]
    rfl
  | succ m ih =>
    intro p x r hm hlt hp
    obtain ⟨q, y, rfl⟩ : ∃ q y, p = q ++ [y] := by
      have := List.eq_nil_or_concat p
      rcases this with h | ⟨q, y, h⟩
      · rw [h] at hm; cases hm
      · exact ⟨q, y, by simpa using h⟩
    have hql : q.length = m := by simpa using hm
    have e0 : ((q ++ [y]).length : Int) = ((m + 1 : Nat) : Int) := by simp [hql]
    rw [e0] at hlt ⊢
    have e2 : ((m + 1 : Nat) : Int) - 1 = (m : Int) := by omega
    have g1 : ((q ++ [y]) ++ x :: r).getD (m + 1) 0 = x := by
      have := getD_mid (p := q ++ [y]) (x := x) (r := r)
      rwa [show (q ++ [y]).length = m + 1 by simp [hql]] at this
    have g2 : ((q ++ [y]) ++ x :: r).getD m 0 = y := by
      have := getD_mid (p := q) (x := y) (r := x :: r)
      rw [hql] at this
      simpa using this
    have hl : ((q ++ [y]) ++ x :: r).length = m + 2 + r.length := by simp [hql]; omega
    have s1 : (((q ++ [y]) ++ x :: r).set (m + 1) y).set m x = q ++ x :: (y :: r) := by
      have t1 : ((q ++ [y]) ++ x :: r).set (m + 1) y = (q ++ [y]) ++ y :: r := by
        rw [List.set_append_right _ _ (by simp [hql]), show m + 1 - (q ++ [y]).length = 0 by simp [hql]]; rfl
      rw [t1, List.append_assoc, List.set_append_right _ _ (by omega), show m - q.length = 0 by omega]
      rfl
    have hend : ¬ x < y → ((q ++ [y]) ++ x :: r) = ins x (q ++ [y]) ++ r := fun hxy => by
      rw [ins_last]
      · simp
      · intro z hz
        rcases List.mem_append.1 hz with hz | hz
        · have := (List.pairwise_append.1 hp).2.2 z hz y (by simp)
          omega
        · have := List.mem_singleton.1 hz
          omega
    have h0 : (0 : Int) < ((m + 1 : Nat) : Int) := by omega
    have h1 : m + 1 < m + 2 + r.length := by omega
    have h2 : m < m + 2 + r.length := by omega
    generalize ((q ++ [y]) ++ x :: r) = L at g1 g2 hl s1 hend
    unfold L_zbd_2
    rw [iter_eq]
    by_cases hxy : x < y
    · have e : (S_zbd_2 (0, (n, i)) (((m + 1 : Nat) : Int), L)).ev = some (.inl ((m : Int), q ++ x :: (y :: r))) := by
        simp (disch := omega) only [EV, S_zbd_2, h0, hl, h1, e2, h2, g1, g2, cmpLess_eq, hxy, List.length_set, s1]
      rw [e]
      have := ih q x (y :: r) hql (by omega) (List.pairwise_append.1 hp).1
      rw [hql] at this
      unfold L_zbd_2 at this
      simp only
      rw [this, ins_snoc hxy]
      simp
    · have e : (S_zbd_2 (0, (n, i)) (((m + 1 : Nat) : Int), L)).ev = some (.inr L) := by
        simp (disch := omega) only [EV, S_zbd_2, h0, hl, h1, e2, h2, g1, g2, cmpLess_eq, hxy]
      rw [e]
      simp only
      rw [hend hxy]
theorem sort_fin (l : List Int) : (List.range (l.length - 1)).foldl (fun _ k => sortI (l.take (k + 2)) ++ l.drop (k + 2)) l = sortI l := by
  cases hn : l.length - 1 with
  | zero =>
    rcases l with _ | ⟨a, _ | ⟨b, l⟩⟩
    · rfl
    · rfl
    · simp at hn
  | succ n =>
    rw [List.range_succ, List.foldl_append]
    simp only [List.foldl_cons, List.foldl_nil]
    rw [List.take_of_length_le (by omega), List.drop_of_length_le (by omega), List.append_nil]
theorem insertionSort_eq {l : List Int} (hl : (l.length : Int) < 9223372036854775806) : F_zbd 0 (l.length : Int) l = some (sortI l) := by
  have key := (iter_fold (f := fun v => (S_zbd_0 (0, (l.length : Int)) v).ev) (n := l.length - 1) (mk := fun k (s : List Int) => (((k + 1 : Nat) : Int), s)) (I := fun k s => s = sortI (l.take (k + 1)) ++ l.drop (k + 1)) (g := fun _ k => sortI (l.take (k + 2)) ++ l.drop (k + 2)) (fin := fun s => s) (s0 := l) (by
      cases l with
      | nil => rfl
      | cons a l => simp [sortI, ins])
    (fun k s hk hs => by
      subst hs
      have hkl : k + 1 < l.length := by omega
      obtain ⟨h1, h2, _⟩ := sortI_inv (l.take (k + 1))
      have h3 : (sortI (l.take (k + 1))).length = k + 1 := by rw [h2]; simp; omega
      have h4 : l.drop (k + 1) = l[k + 1] :: l.drop (k + 2) := List.drop_eq_getElem_cons hkl
      have h5 : sortI (l.take (k + 2)) = ins l[k + 1] (sortI (l.take (k + 1))) := by
        rw [← sortI_snoc, List.take_succ_eq_append_getElem hkl]
      have h6 := insertion_in (l.length : Int) ((k + 1 : Nat) : Int) (k + 1) (sortI (l.take (k + 1))) l[k + 1] (l.drop (k + 2)) h3 (by rw [h3]; omega) h1
      rw [h3, ← h4] at h6
      refine ⟨?_, rfl⟩
      simp (disch := omega) only [EV, S_zbd_0, hkl, h6]
      rw [h5]
      rfl)
    (fun s _ => by
      have : ¬ ((l.length - 1 + 1 : Nat) : Int) < (l.length : Int) := by omega
      simp (disch := omega) only [EV, S_zbd_0, show ¬ (l.length - 1 + 1 < l.length) by omega])).1
  rw [sort_fin] at key
  have z : (((0 + 1 : Nat) : Int), l) = ((1 : Int), l) := rfl
  have e : L_zbd_0 (0, (l.length : Int)) (1, l) = some (sortI l) := key
  unfold F_zbd T_zbd
  simp (disch := omega) only [EV, show IntKind.wrap .i64 ((0 : Int) + 1) = 1 from rfl, e]
theorem bitsLen_ok : ∀ n : Nat, n ≤ 12 → ∃ r, F_zan (IntKind.wrap .u64 (n : Int)) = some r
  | 0, _ => ⟨0, by kernel_rfl⟩
  | 1, _ => ⟨1, by kernel_rfl⟩
  | 2, _ => ⟨2, by kernel_rfl⟩
  | 3, _ => ⟨2, by kernel_rfl⟩
  | 4, _ => ⟨3, by kernel_rfl⟩
  | 5, _ => ⟨3, by kernel_rfl⟩
  | 6, _ => ⟨3, by kernel_rfl⟩
  | 7, _ => ⟨3, by kernel_rfl⟩
  | 8, _ => ⟨4, by kernel_rfl⟩
  | 9, _ => ⟨4, by kernel_rfl⟩
  | 10, _ => ⟨4, by kernel_rfl⟩
  | 11, _ => ⟨4, by kernel_rfl⟩
  | 12, _ => ⟨4, by kernel_rfl⟩
  | n + 13, h => by omega
set_option maxRecDepth 100000 in
theorem pdq_root (rec_ : Int → Int → Int → List Int → Option (List Int)) (v : Int × Int × Int × Bool × Bool × List Int) :
    ∃ y, S_zbo_0 rec_ () v = .t (decide ((IntKind.wrap .i64 (v.2.1 - v.1)) ≤ (12 : Int))) (.c (List (Int)) (F_zbd v.1 v.2.1 v.2.2.2.2.2) fun r7_ => .l (.inr r7_)) y := ⟨_, rfl⟩
theorem pdq_small {l : List Int} (hl : l.length ≤ 12) (k : Nat) (r : Int) : F_zbo (k + 1) 0 (l.length : Int) r l = some (sortI l) := by
  show (T_zbo (F_zbo k) 0 (l.length : Int) r l).ev = _
  unfold T_zbo
  have key : L_zbo_0 (F_zbo k) () (0, ((l.length : Int), (r, (true, (true, l))))) = some (sortI l) := by
    unfold L_zbo_0
    rw [iter_eq]
    obtain ⟨y, hy⟩ := pdq_root (F_zbo k) (0, ((l.length : Int), (r, (true, (true, l)))))
    have e : (S_zbo_0 (F_zbo k) () (0, ((l.length : Int), (r, (true, (true, l)))))).ev = some (.inr (sortI l)) := by
      rw [hy, Tr.ev_t]
      simp only
      rw [show decide (IntKind.wrap .i64 ((l.length : Int) - 0) ≤ 12) = true by rw [wrap64 (by omega) (by omega)]; simp; omega]
      rw [cond_true, Tr.ev_c, insertionSort_eq (by omega)]
      rfl
    rw [e]
  rw [Tr.ev_c, key]
  rfl
theorem slicesSort_eq {l : List Int} (hl : l.length ≤ 12) : F_zax l = some (sortI l) := by
  obtain ⟨r, hr⟩ := bitsLen_ok l.length hl
  unfold F_zax T_zax
  rw [Tr.ev_c, hr]
  rw [Option.bind_some, Tr.ev_c, pdq_small hl 999999 r]
  rfl
def ordVal (l w : List Int) : Int := (List.range l.length).foldl (fun a i => a + l.getD i 0 * w.getD i 0) 0
theorem ordVal_step {l w : List Int} (hl : ∀ y ∈ l, 0 ≤ y ∧ y ≤ 99) (hw : ∀ y ∈ w, 0 ≤ y ∧ y ≤ 99) (hlw : w.length = l.length) {i : Nat} (hi : i < l.length) : 0 ≤ l.getD i 0 * w.getD i 0 ∧ l.getD i 0 * w.getD i 0 ≤ 9801 :=
  mul_in (hl _ (getD_mem hi)) (hw _ (getD_mem (by omega)))
theorem ins_find (x : Int) : ∀ l : List Int, l.take ((l.findIdx? fun y => !decide (y ≤ x)).elim l.length id) ++ x :: l.drop ((l.findIdx? fun y => !decide (y ≤ x)).elim l.length id) = ins x l
  | [] => rfl
  | a :: l => by
    have ih := ins_find x l
    rw [List.findIdx?_cons]
    by_cases h : a ≤ x
    · simp only [h, decide_true, Bool.not_true, Bool.false_eq_true, if_false, ins, if_true]
      cases hf : l.findIdx? fun y => !decide (y ≤ x) with
      | none => rw [hf] at ih; simpa using ih
      | some j => rw [hf] at ih; simpa using ih
    · simp [h, ins]
theorem lensOf_in {o : List Int} {ds : List (List Int)} (hf : Fld o ds) {s : List Int} (hs : Places s o.length) (h0 : 0 < s.length) : ∀ y ∈ sortI (lensOf ds s), 0 ≤ y ∧ y ≤ 99 := fun y hy => by
  obtain ⟨j, hj, rfl⟩ := List.mem_map.1 (((sortI_inv _).2.2 y).1 hy)
  exact near_in hf hs h0 (List.mem_range.1 hj)
theorem lensOf_len {ds : List (List Int)} {s : List Int} : (sortI (lensOf ds s)).length = ds.length := by
  rw [(sortI_inv _).2.1]; simp [lensOf]
theorem im_ordered_eq {o : List Int} {ds : List (List Int)} (hf : Fld o ds) {s : List Int} (hs : Places s o.length) (h0 : 0 < s.length) {w : List Int} (hw : ∀ y ∈ w, 0 ≤ y ∧ y ≤ 99) (hwl : w.length = ds.length) :
    F_zj o ds s w = some (ordVal (sortI (lensOf ds s)) w) := by
  have hc := hf.clients
  have hl := lensOf_in hf hs h0
  have hll := lensOf_len (ds := ds) (s := s)
  unfold F_zj T_zj
  simp (disch := omega) only [EV, lengths_eq hf hs h0, slicesSort_eq (l := lensOf ds s) (by simp [lensOf]; omega)]
  generalize sortI (lensOf ds s) = l at hl hll
  have key := (iter_fold (f := fun v => (S_zj_0 (w, ((l.length : Int), l)) v).ev) (n := l.length) (mk := fun k a => (a, (k : Int))) (I := fun k a => 0 ≤ a ∧ a ≤ (k : Int) * 9801) (g := fun a i => a + l.getD i 0 * w.getD i 0) (fin := fun a => a) (s0 := 0) (by simp)
    (fun i a hi ha => by
      have h1 := ordVal_step hl hw (by omega) hi
      have hiw : i < w.length := by omega
      refine ⟨?_, by omega, by omega⟩
      simp (disch := omega) only [EV, S_zj_0, hi, hiw]
      rfl)
    (fun a _ => by simp (disch := omega) only [EV, S_zj_0, Nat.lt_irrefl])).1
  have k2 : L_zj_0 (w, ((l.length : Int), l)) (0, 0) = some (ordVal l w) := key
  simp (disch := omega) only [EV, k2]
theorem l11Ordered_eq {o : List Int} {ds : List (List Int)} (hf : Fld o ds) {s : List Int} (hs : Places s o.length) (h0 : 0 < s.length) {w : List Int} (hw : ∀ y ∈ w, 0 ≤ y ∧ y ≤ 99) (hwl : w.length = ds.length) :
    F_zbu o ds s w = some (ordVal (sortI (lensOf ds s)) w) := by
  have hc := hf.clients
  have hl := lensOf_in hf hs h0
  have hll := lensOf_len (ds := ds) (s := s)
  have lin : ∀ (l : List Int) (a b x : Int), (l.length : Int) < 100 → L_zbu_2 (s, (w, (l, (a, (b, (x, (o, ds))))))) 0 = some (((l.findIdx? fun y => !decide (y ≤ x)).elim l.length id : Nat) : Int) := fun l a b x hlx => by
    have := iter_forE (f := fun v => (S_zbu_2 (s, (w, (l, (a, (b, (x, (o, ds))))))) v).ev) (l := l) 0 (fun y => !decide (y ≤ x)) (mk := fun i => (i : Int)) (yes := fun i => (i : Int)) (no := (l.length : Int)) (fun i hi => by
      simp (disch := omega) only [EV, S_zbu_2, hi]
      by_cases h : l.getD i 0 ≤ x
      · simp only [h, if_true, decide_true, Bool.not_true, cond_false]; rfl
      · simp only [h, if_false, decide_false, Bool.not_false, cond_true]) (by simp (disch := omega) only [EV, S_zbu_2, Nat.lt_irrefl])
    have h2 : L_zbu_2 (s, (w, (l, (a, (b, (x, (o, ds))))))) 0 = _ := this
    rw [h2]
    cases l.findIdx? fun y => !decide (y ≤ x) <;> rfl
  have out := (iter_fold (f := fun v => (S_zbu_0 (s, (w, (0, (o, ds)))) v).ev) (n := ds.length) (mk := fun k (l : List Int) => (l, (k : Int))) (I := fun k l => l.length = k) (g := fun l j => ins (near ds s j) l) (fin := fun l => l) (s0 := []) rfl
    (fun j l hj hlj => by
      refine ⟨?_, by rw [ins_len, hlj]⟩
      have hk : ((l.findIdx? fun y => !decide (y ≤ near ds s j)).elim l.length id) ≤ l.length := by
        cases hfi : l.findIdx? fun y => !decide (y ≤ near ds s j) with
        | none => exact Nat.le_refl _
        | some i => exact Nat.le_of_lt (List.findIdx?_eq_some_iff_getElem.1 hfi).1
      have e := ins_find (near ds s j) l
      have lin' := lin l 0 (j : Int) (near ds s j) (by omega)
      generalize hkk : ((l.findIdx? fun y => !decide (y ≤ near ds s j)).elim l.length id) = k at hk e lin'
      have a1 : (0 : Int) ≤ (k : Int) := by omega
      have a2 : (k : Int) ≤ (l.length : Int) := by omega
      have a3 : (0 + (l.take k).length) * 8 ≤ 140737488355328 := by simp; omega
      have a4 : ((l.take k).length + 1) * 8 ≤ 140737488355328 := by simp; omega
      have a5 : ((l.take k ++ [near ds s j]).length + (l.drop k).length) * 8 ≤ 140737488355328 := by simp; omega
      simp (disch := omega) only [EV, S_zbu_0, hj, l2Nearest_eq hf hs h0 hj, lin', a1, a2, List.drop_zero, List.take_length, List.length_nil, List.nil_append, List.length_singleton, a3, a4, a5]
      rw [List.append_assoc, List.singleton_append, e]
      rfl)
    (fun l _ => by simp (disch := omega) only [EV, S_zbu_0, Nat.lt_irrefl])).1
  have e1 : L_zbu_0 (s, (w, (0, (o, ds)))) ([], 0) = some (sortI (lensOf ds s)) := by
    have h2 : L_zbu_0 (s, (w, (0, (o, ds)))) ([], 0) = _ := out
    rw [h2]
    unfold sortI lensOf
    rw [List.foldl_map]
  unfold F_zbu T_zbu
  simp (disch := omega) only [EV, e1]
  generalize sortI (lensOf ds s) = l at hl hll
  have key := (iter_fold (f := fun v => (S_zbu_4 (w, l) v).ev) (n := l.length) (mk := fun k a => (a, (k : Int))) (I := fun k a => 0 ≤ a ∧ a ≤ (k : Int) * 9801) (g := fun a i => a + l.getD i 0 * w.getD i 0) (fin := fun a => a) (s0 := 0) (by simp)
    (fun i a hi ha => by
      have h1 := ordVal_step hl hw (by omega) hi
      have hiw : i < w.length := by omega
      refine ⟨?_, by omega, by omega⟩
      simp (disch := omega) only [EV, S_zbu_4, hi, hiw, Int.mul_comm (w.getD i 0) (l.getD i 0)]
      rfl)
    (fun a _ => by simp (disch := omega) only [EV, S_zbu_4, Nat.lt_irrefl])).1
  have k2 : L_zbu_4 (w, l) (0, 0) = some (ordVal l w) := key
  simp (disch := omega) only [EV, k2]
def weightsB (ds : List (List Int)) (w : List Int) : Bool := allIn w 0 99 && decide (w.length = ds.length)
def ordOf (o : List Int) (ds : List (List Int)) (s w : List Int) : Int × Bool := bif openB o ds s && weightsB ds w then (ordVal (sortI (lensOf ds s)) w, true) else (0, false)
theorem sp_OrderedValue_eq {o : List Int} {ds : List (List Int)} {s w : List Int} (ho : Low1 o) (hd : Low2 ds) (hs : Low1 s) (hw : Low1 w) : F_zbt o ds s w = some (ordOf o ds s w) := by
  unfold F_zbt T_zbt ordOf
  have e : (allIn w 0 99 && ((w.length : Int) == (ds.length : Int))) = weightsB ds w := by rw [int_eq]; rfl
  simp (disch := omega) only [EV, l2Two_eq ho hd hs, l2Row_eq hw, e]
  cases h : openB o ds s with
  | false => rfl
  | true =>
    obtain ⟨h1, h2, h3⟩ := openB_iff hs h
    cases hwb : weightsB ds w with
    | false => rfl
    | true =>
      unfold weightsB at hwb
      simp only [Bool.and_eq_true, decide_eq_true_eq] at hwb
      simp (disch := omega) only [EV, l11Ordered_eq h1 h2 h3 (allIn_iff.1 hwb.1) hwb.2]
theorem im_OrderedValue_eq {o : List Int} {ds : List (List Int)} {s w : List Int} (ho : Low1 o) (hd : Low2 ds) (hs : Low1 s) (hw : Low1 w) : F_zt o ds s w = some (ordOf o ds s w) := by
  unfold F_zt T_zt F_ze T_ze ordOf
  simp (disch := omega) only [EV, isOpened_eq ho hd hs, areBetween_eq hw, int_eq]
  cases h : openB o ds s with
  | false => rfl
  | true =>
    obtain ⟨h1, h2, h3⟩ := openB_iff hs h
    have e : weightsB ds w = (allIn w 0 99 && decide (w.length = ds.length)) := rfl
    by_cases hwl : w.length = ds.length
    · rw [e]
      cases hwa : allIn w 0 99 with
      | false => simp [hwl]
      | true =>
        simp (disch := omega) only [EV, hwl, im_ordered_eq h1 h2 h3 (allIn_iff.1 hwa) hwl]
    · rw [e]
      simp [hwl]
end Go.Proofs.YtlemejhffpkbkaaGreat
