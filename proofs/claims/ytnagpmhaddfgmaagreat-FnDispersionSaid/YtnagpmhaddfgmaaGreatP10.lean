/-
 Plain laws: small sorts; ordered values.
-/
import Derived.Test.YtnagpmhaddfgmaaGreatP8
namespace Go.Proofs.YtnagpmhaddfgmaaGreat
def ins (x : Int) : List Int → List Int
 | [] => [x]
 | a :: l => if a ≤ x then a :: ins x l else x :: a :: l
def waz (l : List Int) : List Int := l.foldl (fun acc x => ins x acc) []
theorem wadw {x y : Int} (h : x < y) : ∀ q : List Int, ins x (q ++ [y]) = ins x q ++ [y]
 | [] => by simp [ins]; omega
 | a :: q => by
  simp only [List.cons_append, ins]
  split
  ·rw [wadw h q]; rfl
  ·rfl
theorem wadx {x : Int} : ∀ {l : List Int}, (∀ y ∈ l, y ≤ x) → ins x l = l ++ [x]
 | [], _ => rfl
 | a :: l, h => by
  simp only [ins, if_pos (h a List.mem_cons_self), List.cons_append]
  rw [wadx fun y hy => h y (List.mem_cons_of_mem _ hy)]
theorem wza {x y : Int} : ∀ {l : List Int}, y ∈ ins x l ↔ y = x ∨ y ∈ l
 | [] => by simp [ins]
 | a :: l => by
  simp only [ins]
  split
  ·simp only [List.mem_cons, wza (l := l)]
   constructor
   ·rintro (h | h | h)
    ·exact .inr (.inl h)
    ·exact .inl h
    ·exact .inr (.inr h)
   ·rintro (h | h | h)
    ·exact .inr (.inl h)
    ·exact .inl h
    ·exact .inr (.inr h)
  ·simp only [List.mem_cons]
theorem wapc {x : Int} : ∀ {l : List Int}, (ins x l).length = l.length + 1
 | [] => rfl
 | a :: l => by
  simp only [ins]
  split
  ·simp [wapc (l := l)]
  ·rfl
theorem wps {x : Int} : ∀ {l : List Int}, l.Pairwise (· ≤ ·) → (ins x l).Pairwise (· ≤ ·)
 | [], _ => by simp [ins]
 | a :: l, h => by
  rw [List.pairwise_cons] at h
  simp only [ins]
  split
  next hx =>
   rw [List.pairwise_cons]
   exact ⟨fun y hy => (wza.1 hy).elim (fun e => e ▸ hx) (h.1 y), wps h.2⟩
  next hx =>
   rw [List.pairwise_cons, List.pairwise_cons]
   refine ⟨fun y hy => ?_, h⟩
   rcases List.mem_cons.1 hy with rfl | hy
   ·omega
   ·have := h.1 y hy; omega
theorem wagn (l : List Int) (x : Int) : waz (l ++ [x]) = ins x (waz l) := by simp [waz]
theorem wez : ∀ l : List Int, (waz l).Pairwise (· ≤ ·) ∧ (waz l).length = l.length ∧ ∀ y, y ∈ waz l ↔ y ∈ l := by
 intro l
 have key : ∀ (l acc : List Int), acc.Pairwise (· ≤ ·) → (l.foldl (fun acc x => ins x acc) acc).Pairwise (· ≤ ·) ∧ (l.foldl (fun acc x => ins x acc) acc).length = acc.length + l.length ∧ ∀ y, y ∈ l.foldl (fun acc x => ins x acc) acc ↔ y ∈ acc ∨ y ∈ l := by
  intro l
  induction l with
  | nil => intro acc h; exact ⟨h, rfl, fun y => by simp⟩
  | cons x l ih =>
   intro acc h
   obtain ⟨h1, h2, h3⟩ := ih (ins x acc) (wps h)
   refine ⟨h1, by rw [List.foldl_cons, h2, wapc, List.length_cons]; omega, fun y => ?_⟩
   rw [List.foldl_cons, h3, wza, List.mem_cons]
   constructor
   ·rintro ((h | h) | h)
    ·exact .inr (.inl h)
    ·exact .inl h
    ·exact .inr (.inr h)
   ·rintro (h | h | h)
    ·exact .inl (.inr h)
    ·exact .inl (.inl h)
    ·exact .inr h
 obtain ⟨h1, h2, h3⟩ := key l [] List.Pairwise.nil
 exact ⟨h1, by simpa [waz] using h2, fun y => by simpa [waz] using h3 y⟩
theorem wpt (a b : Int) : wgx a b = some (decide (a < b)) := by
 unfold wgx T_zb F_zd T_zd
 simp (disch := omega) only [EV, bne_self_eq_false]
theorem wady {p r : List Int} {x : Int} : (p ++ x :: r).getD p.length 0 = x := by
 rw [List.getD_eq_getElem?_getD, List.getElem?_append_right (Nat.le_refl _), Nat.sub_self]; rfl
theorem wvv (n i : Int) : ∀ (m : Nat) (p : List Int) (x : Int) (r : List Int), p.length = m → (p.length : Int) < 9223372036854775807 → p.Pairwise (· ≤ ·) → wog (0, (n, i)) ((p.length : Int), p ++ x :: r) = some (ins x p ++ r) := by
 intro m
 induction m with
 | zero =>
  intro p x r hm _ _
  have := List.eq_nil_of_length_eq_zero hm
  subst this
  unfold wog
  rw [wcn]
  simp (disch := omega) only [EV, whz, Nat.lt_irrefl, List.length_nil, Int.lt_irrefl, show ((0 : Nat) : Int) = 0 from rfl]
  rfl
 | succ m ih =>
  intro p x r hm hlt hp
  obtain ⟨q, y, rfl⟩ : ∃ q y, p = q ++ [y] := by
   have := List.eq_nil_or_concat p
   rcases this with h | ⟨q, y, h⟩
   ·rw [h] at hm; cases hm
   ·exact ⟨q, y, by simpa using h⟩
  have hql : q.length = m := by simpa using hm
  have e0 : ((q ++ [y]).length : Int) = ((m + 1 : Nat) : Int) := by simp [hql]
  rw [e0] at hlt ⊢
  have e2 : ((m + 1 : Nat) : Int) - 1 = (m : Int) := by omega
  have g1 : ((q ++ [y]) ++ x :: r).getD (m + 1) 0 = x := by
   have := wady (p := q ++ [y]) (x := x) (r := r)
   rwa [show (q ++ [y]).length = m + 1 by simp [hql]] at this
  have g2 : ((q ++ [y]) ++ x :: r).getD m 0 = y := by
   have := wady (p := q) (x := y) (r := x :: r)
   rw [hql] at this
   simpa using this
  have hl : ((q ++ [y]) ++ x :: r).length = m + 2 + r.length := by simp [hql]; omega
  have s1 : (((q ++ [y]) ++ x :: r).set (m + 1) y).set m x = q ++ x :: (y :: r) := by
   have t1 : ((q ++ [y]) ++ x :: r).set (m + 1) y = (q ++ [y]) ++ y :: r := by
    rw [List.set_append_right _ _ (by simp [hql]), show m + 1 - (q ++ [y]).length = 0 by simp [hql]]; rfl
   rw [t1, List.append_assoc, List.set_append_right _ _ (by omega), show m - q.length = 0 by omega]
   rfl
  have hend : ¬ x < y → ((q ++ [y]) ++ x :: r) = ins x (q ++ [y]) ++ r := fun hxy => by
   rw [wadx]
   ·simp
   ·intro z hz
    rcases List.mem_append.1 hz with hz | hz
    ·have := (List.pairwise_append.1 hp).2.2 z hz y (by simp)
     omega
    ·have := List.mem_singleton.1 hz
     omega
  have h0 : (0 : Int) < ((m + 1 : Nat) : Int) := by omega
  have h1 : m + 1 < m + 2 + r.length := by omega
  have h2 : m < m + 2 + r.length := by omega
  generalize ((q ++ [y]) ++ x :: r) = L at g1 g2 hl s1 hend
  unfold wog
  rw [wcn]
  by_cases hxy : x < y
  ·have e : (whz (0, (n, i)) (((m + 1 : Nat) : Int), L)).ev = some (.inl ((m : Int), q ++ x :: (y :: r))) := by
    simp (disch := omega) only [EV, whz, h0, hl, h1, e2, h2, g1, g2, wpt, hxy, List.length_set, s1]
   rw [e]
   have := ih q x (y :: r) hql (by omega) (List.pairwise_append.1 hp).1
   rw [hql] at this
   unfold wog at this
   simp only
   rw [this, wadw hxy]
   simp
  ·have e : (whz (0, (n, i)) (((m + 1 : Nat) : Int), L)).ev = some (.inr L) := by
    simp (disch := omega) only [EV, whz, h0, hl, h1, e2, h2, g1, g2, wpt, hxy]
   rw [e]
   simp only
   rw [hend hxy]
theorem waxr (l : List Int) : (List.range (l.length - 1)).foldl (fun _ k => waz (l.take (k + 2)) ++ l.drop (k + 2)) l = waz l := by
 cases hn : l.length - 1 with
 | zero =>
  rcases l with _ | ⟨a, _ | ⟨b, l⟩⟩
  ·rfl
  ·rfl
  ·simp at hn
 | succ n =>
  rw [List.range_succ, List.foldl_append]
  simp only [List.foldl_cons, List.foldl_nil]
  rw [List.take_of_length_le (by omega), List.drop_of_length_le (by omega), List.append_nil]
theorem wlk {l : List Int} (hl : (l.length : Int) < 9223372036854775806) : wamh 0 (l.length : Int) l = some (waz l) := by
 have key := (waq (f := fun v => (woh (0, (l.length : Int)) v).ev) (n := l.length - 1) (mk := fun k (s : List Int) => (((k + 1 : Nat) : Int), s)) (I := fun k s => s = waz (l.take (k + 1)) ++ l.drop (k + 1)) (g := fun _ k => waz (l.take (k + 2)) ++ l.drop (k + 2)) (fin := fun s => s) (s0 := l) (by
   cases l with
   | nil => rfl
   | cons a l => simp [waz, ins])
  (fun k s hk hs => by
   subst hs
   have hkl : k + 1 < l.length := by omega
   obtain ⟨h1, h2, _⟩ := wez (l.take (k + 1))
   have h3 : (waz (l.take (k + 1))).length = k + 1 := by rw [h2]; simp; omega
   have h4 : l.drop (k + 1) = l[k + 1] :: l.drop (k + 2) := List.drop_eq_getElem_cons hkl
   have h5 : waz (l.take (k + 2)) = ins l[k + 1] (waz (l.take (k + 1))) := by
    rw [← wagn, List.take_succ_eq_append_getElem hkl]
   have h6 := wvv (l.length : Int) ((k + 1 : Nat) : Int) (k + 1) (waz (l.take (k + 1))) l[k + 1] (l.drop (k + 2)) h3 (by rw [h3]; omega) h1
   rw [h3, ← h4] at h6
   refine ⟨?_, rfl⟩
   simp (disch := omega) only [EV, woh, hkl, h6]
   rw [h5]
   rfl)
  (fun s _ => by
   have : ¬ ((l.length - 1 + 1 : Nat) : Int) < (l.length : Int) := by omega
   simp (disch := omega) only [EV, woh, show ¬ (l.length - 1 + 1 < l.length) by omega])).1
 rw [waxr] at key
 have z : (((0 + 1 : Nat) : Int), l) = ((1 : Int), l) := rfl
 have e : wamg (0, (l.length : Int)) (1, l) = some (waz l) := key
 unfold wamh wbgf
 simp (disch := omega) only [EV, show IntKind.wrap .i64 ((0 : Int) + 1) = 1 from rfl, e]
theorem wago : ∀ n : Nat, n ≤ 12 → ∃ r, wxk (IntKind.wrap .u64 (n : Int)) = some r
 | 0, _ => ⟨0, by kernel_rfl⟩
 | 1, _ => ⟨1, by kernel_rfl⟩
 | 2, _ => ⟨2, by kernel_rfl⟩
 | 3, _ => ⟨2, by kernel_rfl⟩
 | 4, _ => ⟨3, by kernel_rfl⟩
 | 5, _ => ⟨3, by kernel_rfl⟩
 | 6, _ => ⟨3, by kernel_rfl⟩
 | 7, _ => ⟨3, by kernel_rfl⟩
 | 8, _ => ⟨4, by kernel_rfl⟩
 | 9, _ => ⟨4, by kernel_rfl⟩
 | 10, _ => ⟨4, by kernel_rfl⟩
 | 11, _ => ⟨4, by kernel_rfl⟩
 | 12, _ => ⟨4, by kernel_rfl⟩
 | n + 13, h => by omega
set_option maxRecDepth 100000 in
theorem waxs (rec_ : Int → Int → Int → List Int → Option (List Int)) (v : Int × Int × Int × Bool × Bool × List Int) :
  ∃ y, wrp rec_ () v = .t (decide ((IntKind.wrap .i64 (v.2.1 - v.1)) ≤ (12 : Int))) (.c (List (Int)) (wamh v.1 v.2.1 v.2.2.2.2.2) fun r7_ => .l (.inr r7_)) y := ⟨_, rfl⟩
theorem pdq_small {l : List Int} (hl : l.length ≤ 12) (k : Nat) (r : Int) : wlj (k + 1) 0 (l.length : Int) r l = some (waz l) := by
 show (wavu (wlj k) 0 (l.length : Int) r l).ev = _
 unfold wavu
 have key : wyn (wlj k) () (0, ((l.length : Int), (r, (true, (true, l))))) = some (waz l) := by
  unfold wyn
  rw [wcn]
  obtain ⟨y, hy⟩ := waxs (wlj k) (0, ((l.length : Int), (r, (true, (true, l)))))
  have e : (wrp (wlj k) () (0, ((l.length : Int), (r, (true, (true, l)))))).ev = some (.inr (waz l)) := by
   rw [hy, Tr.ev_t]
   simp only
   rw [show decide (IntKind.wrap .i64 ((l.length : Int) - 0) ≤ 12) = true by rw [wrap64 (by omega) (by omega)]; simp; omega]
   rw [cond_true, Tr.ev_c, wlk (by omega)]
   rfl
  rw [e]
 rw [Tr.ev_c, key]
 rfl
theorem wta {l : List Int} (hl : l.length ≤ 12) : wavw l = some (waz l) := by
 obtain ⟨r, hr⟩ := wago l.length hl
 unfold wavw wbht
 rw [Tr.ev_c, hr]
 rw [Option.bind_some, Tr.ev_c, pdq_small hl 999999 r]
 rfl
end Go.Proofs.YtnagpmhaddfgmaaGreat
