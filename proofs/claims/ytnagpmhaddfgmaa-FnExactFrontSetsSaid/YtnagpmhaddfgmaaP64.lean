/-
 Plain laws: slices.SortStableFunc at marks, of any length, is the stable order.
-/
import Derived.Test.YtnagpmhaddfgmaaP63
namespace Go.Proofs.Ytnagpmhaddfgmaa
section
variable {le : Mk → Mk → Bool} {f : HL [MkT, MkT] → Option Int}
theorem wsm {x y : Mk} (h : le y x = false) : ∀ q : List Mk, wdu le x (q ++ [y]) = wdu le x q ++ [y]
 | [] => by simp [wdu, h]
 | a :: q => by
  simp only [List.cons_append, wdu]
  split
  ·rw [wsm h q]; rfl
  ·rfl
theorem wagm {x : Mk} (l : List Mk) (h : ∀ y ∈ l, le y x = true) : wdu le x l = l ++ [x] := by
 have := wnf (le := le) (x := x) (A := l) [] h
 rwa [List.append_nil] at this
theorem wsn (ho : TO le) (hf : CmpS le f) (n i : Int) : ∀ (m : Nat) (P q : List Mk) (x : Mk) (r : List Mk), q.length = m → P.length + q.length + r.length < 1152921504606846976 → Srt le q →
  wpx ((P.length : Int), (n, (f, i))) (((P.length + q.length : Nat) : Int), P ++ (q ++ x :: r)) = some (P ++ (wdu le x q ++ r)) := by
 intro m
 induction m with
 | zero =>
  intro P q x r hm hlt _
  have := List.eq_nil_of_length_eq_zero hm
  subst this
  unfold wpx
  rw [wac]
  simp (disch := omega) only [EV, wgj, List.length_nil, Nat.add_zero, Nat.lt_irrefl]
  rfl
 | succ m ih =>
  intro P q' x r hm hlt hp
  obtain ⟨q, y, rfl⟩ : ∃ q y, q' = q ++ [y] := by
   rcases List.eq_nil_or_concat q' with h | ⟨q, y, h⟩
   ·rw [h] at hm; cases hm
   ·exact ⟨q, y, by simpa using h⟩
  have hql : q.length = m := by simpa using hm
  simp only [List.length_append, List.length_cons, List.length_nil] at hlt
  have e0 : ((P.length + (q ++ [y]).length : Nat) : Int) = ((P.length + m + 1 : Nat) : Int) := by simp [hql]; omega
  rw [e0]
  have e2 : ((P.length + m + 1 : Nat) : Int) - 1 = ((P.length + m : Nat) : Int) := by omega
  have g1 : (P ++ ((q ++ [y]) ++ x :: r)).getD (P.length + m + 1) mk0 = x := by
   rw [show P ++ ((q ++ [y]) ++ x :: r) = (P ++ (q ++ [y])) ++ x :: r by simp]; exact wce _ x _ _ (by simp; omega)
  have g2 : (P ++ ((q ++ [y]) ++ x :: r)).getD (P.length + m) mk0 = y := by
   rw [show P ++ ((q ++ [y]) ++ x :: r) = (P ++ q) ++ y :: (x :: r) by simp]; exact wce _ y _ _ (by simp; omega)
  have hl : (P ++ ((q ++ [y]) ++ x :: r)).length = P.length + m + 2 + r.length := by simp; omega
  have s1 : ((P ++ ((q ++ [y]) ++ x :: r)).set (P.length + m + 1) y).set (P.length + m) x = P ++ (q ++ x :: (y :: r)) := by
   rw [show P ++ ((q ++ [y]) ++ x :: r) = (P ++ (q ++ [y])) ++ x :: r by simp, set_mid _ x y _ (by simp; omega), show (P ++ (q ++ [y])) ++ y :: r = (P ++ q) ++ y :: (y :: r) by simp, set_mid _ y x _ (by simp; omega)]
   simp
  have h0 : P.length < P.length + m + 1 := by omega
  have h1 : P.length + m + 1 < P.length + m + 2 + r.length := by omega
  have h2 : P.length + m < P.length + m + 2 + r.length := by omega
  have hb : P.length + m + 1 < 1152921504606846976 := by omega
  obtain ⟨c, hc, hci⟩ := hf x y
  have hend : le y x = true → P ++ ((q ++ [y]) ++ x :: r) = P ++ (wdu le x (q ++ [y]) ++ r) := fun hxy => by
   rw [wagm]
   ·simp
   ·intro z hz
    rcases List.mem_append.1 hz with hz | hz
    ·exact ho.tr _ _ _ ((List.pairwise_append.1 hp).2.2 z hz y (by simp)) hxy
    ·rw [List.mem_singleton.1 hz]; exact hxy
  generalize (P ++ ((q ++ [y]) ++ x :: r)) = L at g1 g2 hl s1 hend
  unfold wpx at ih ⊢
  rw [wac]
  cases hxy : le y x with
  | false =>
   rw [hxy] at hci
   have hc' : (c < 0) = True := by simpa using hci
   have e : (wgj ((P.length : Int), (n, (f, i))) (((P.length + m + 1 : Nat) : Int), L)).ev = some (.inl (((P.length + m : Nat) : Int), P ++ (q ++ x :: (y :: r)))) := by
    simp (disch := omega) only [EV, wgj, h0, hl, h1, e2, h2, g1, g2, hc, hc', List.length_set, s1]
   rw [e]
   have := ih P q x (y :: r) hql (by simp; omega) (List.pairwise_append.1 hp).1
   rw [hql] at this
   simp only
   rw [this, wsm hxy]
   simp
  | true =>
   rw [hxy] at hci
   have hc' : (c < 0) = False := by simpa using hci
   have e : (wgj ((P.length : Int), (n, (f, i))) (((P.length + m + 1 : Nat) : Int), L)).ev = some (.inr L) := by
    simp (disch := omega) only [EV, wgj, h0, hl, h1, e2, h2, g1, g2, hc, hc']
   rw [e]
   simp only
   rw [hend hxy]
theorem wqf (ho : TO le) (hf : CmpS le f) (P : List Mk) : ∀ (k : Nat) (q l S : List Mk) (b : Int), l.length = k → P.length + q.length + l.length + S.length < 1152921504606846976 → b = ((P.length + q.length + l.length : Nat) : Int) →
  wgk ((P.length : Int), (b, f)) (((P.length + q.length : Nat) : Int), P ++ (wdv le q ++ (l ++ S))) = some (P ++ (wdv le (q ++ l) ++ S)) := by
 intro k
 induction k with
 | zero =>
  intro q l S b hk hlt hb
  have := List.eq_nil_of_length_eq_zero hk
  subst this
  subst hb
  unfold wgk
  rw [wac]
  simp (disch := omega) only [EV, wis, List.length_nil, Nat.add_zero, Nat.lt_irrefl]
  simp
 | succ k ih =>
  intro q l' S b hk hlt hb
  obtain ⟨x, l, rfl⟩ : ∃ x l, l' = x :: l := by
   cases l' with
   | nil => cases hk
   | cons x l => exact ⟨x, l, rfl⟩
  simp only [List.length_cons] at hk hlt hb
  have hsl : (wdv le q).length = q.length := wak q
  have h6 := wsn ho hf b ((P.length + q.length : Nat) : Int) _ P (wdv le q) x (l ++ S) rfl (by rw [hsl]; simp; omega) (whs ho q)
  rw [hsl] at h6
  have e1 : ((P.length + q.length : Nat) : Int) + 1 = ((P.length + (q ++ [x]).length : Nat) : Int) := by simp; omega
  have h0 : ((P.length + q.length : Nat) : Int) < b := by omega
  have hb1 : P.length + q.length + 1 < 1152921504606846976 := by omega
  have hih := ih (q ++ [x]) l S b (by omega) (by simp; omega) (by simp; omega)
  rw [wagc, List.append_assoc q] at hih
  rw [List.cons_append]
  unfold wgk at hih ⊢
  rw [wac]
  have e : (wis ((P.length : Int), (b, f)) (((P.length + q.length : Nat) : Int), P ++ (wdv le q ++ x :: (l ++ S)))).ev = some (.inl (((P.length + (q ++ [x]).length : Nat) : Int), P ++ (wdu le x (wdv le q) ++ (l ++ S)))) := by
   simp (disch := omega) only [EV, wis, h0, h6, e1]
  rw [e]
  exact hih
theorem wfp (ho : TO le) (hf : CmpS le f) (P l S : List Mk) {a b : Int} (ha : a = (P.length : Int)) (hb : b = ((P.length + l.length : Nat) : Int)) (hlt : P.length + l.length + S.length < 1152921504606846976) :
  waae a b f (P ++ (l ++ S)) = some (P ++ (wdv le l ++ S)) := by
 subst ha
 unfold waae warb
 cases l with
 | nil =>
  have e : wgk ((P.length : Int), (b, f)) (((P.length + 1 : Nat) : Int), P ++ ([] ++ S)) = some (P ++ ([] ++ S)) := by
   subst hb
   unfold wgk
   rw [wac]
   simp (disch := omega) only [EV, wis, List.length_nil, Nat.add_zero, show ¬ P.length + 1 < P.length by omega]
  have e1 : (P.length : Int) + 1 = ((P.length + 1 : Nat) : Int) := by omega
  simp (disch := omega) only [EV, e1, e]
  rfl
 | cons x l =>
  simp only [List.length_cons] at hb hlt
  have e := wqf ho hf P _ [x] l S b rfl (by simp; omega) (by simp; omega)
  have e1 : (P.length : Int) + 1 = ((P.length + [x].length : Nat) : Int) := by simp
  have hb1 : P.length + [x].length < 1152921504606846976 := by simp; omega
  rw [show wdv le [x] = [x] from rfl] at e
  rw [List.singleton_append] at e
  have e' : wgk ((P.length : Int), (b, f)) (((P.length + [x].length : Nat) : Int), P ++ (x :: l ++ S)) = some (P ++ (wdv le (x :: l) ++ S)) := e
  simp (disch := omega) only [EV, e1, e']
def blk (le : Mk → Mk → Bool) (bs : Nat) : Nat → List Mk → List Mk
 | 0, l => wdv le l
 | k + 1, l => wdv le (l.take bs) ++ blk le bs k (l.drop bs)
theorem wagn (bs : Nat) : ∀ (k : Nat) (l : List Mk), (blk le bs k l).length = l.length
 | 0, l => wak l
 | k + 1, l => by
  rw [blk, List.length_append, wak, wagn bs k, List.length_take, List.length_drop]
  omega
theorem waan (ho : TO le) (hf : CmpS le f) (n : Nat) (hn : n < 576460752303423488) : ∀ (k : Nat) (P l : List Mk), l.length ≤ k → n = P.length + l.length →
  ∃ (a : Nat) (D : List Mk), wmb ((n : Int), (f, (20 : Int))) ((P.length : Int), (((P.length + 20 : Nat) : Int), P ++ l)) = some ((a : Int), D) ∧ waae (a : Int) (n : Int) f D = some (P ++ blk le 20 (l.length / 20) l) := by
 intro k
 induction k with
 | zero =>
  intro P l hk hnl
  have := List.eq_nil_of_length_eq_zero (Nat.le_zero.1 hk)
  subst this
  refine ⟨P.length, P ++ [], ?_, ?_⟩
  ·unfold wmb
   rw [wac]
   simp (disch := omega) only [EV, wiv, show ¬ ((P.length + 20 : Nat) : Int) ≤ (n : Int) by simp at hnl; omega]
  ·have := wfp ho hf P [] [] (a := (P.length : Int)) (b := (n : Int)) rfl (by rw [hnl]) (by simp at hnl ⊢; omega)
   simp only [List.append_nil] at this ⊢
   exact this
 | succ k ih =>
  intro P l hk hnl
  unfold wmb at ih ⊢
  by_cases hc : 20 ≤ l.length
  ·have hlt : (l.take 20).length = 20 := by rw [List.length_take]; omega
   have hld : (l.drop 20).length = l.length - 20 := List.length_drop
   have hins := wfp ho hf P (l.take 20) (l.drop 20) (a := (P.length : Int)) (b := ((P.length + 20 : Nat) : Int)) rfl (by rw [hlt]) (by omega)
   rw [List.take_append_drop] at hins
   obtain ⟨a, D, e1, e2⟩ := ih (P ++ wdv le (l.take 20)) (l.drop 20) (by omega) (by rw [List.length_append, wak]; omega)
   rw [List.length_append, wak, hlt] at e1
   refine ⟨a, D, ?_, ?_⟩
   ·rw [wac]
    have h1 : ((P.length + 20 : Nat) : Int) ≤ (n : Int) := by omega
    have h2 : ((P.length + 20 : Nat) : Int) + 20 = ((P.length + 20 + 20 : Nat) : Int) := by omega
    have e : (wiv ((n : Int), (f, (20 : Int))) ((P.length : Int), (((P.length + 20 : Nat) : Int), P ++ l))).ev = some (.inl (((P.length + 20 : Nat) : Int), (((P.length + 20 + 20 : Nat) : Int), P ++ wdv le (l.take 20) ++ l.drop 20))) := by
     rw [List.append_assoc P]
     simp (disch := omega) only [EV, wiv, h1, hins, h2]
    rw [e]
    exact e1
   ·rw [e2, hld, show l.length / 20 = (l.length - 20) / 20 + 1 by omega, blk, List.append_assoc]
  ·refine ⟨P.length, P ++ l, ?_, ?_⟩
   ·rw [wac]
    simp (disch := omega) only [EV, wiv, show ¬ ((P.length + 20 : Nat) : Int) ≤ (n : Int) by omega]
   ·have := wfp ho hf P l [] (a := (P.length : Int)) (b := (n : Int)) rfl (by rw [hnl]) (by simp; omega)
    rw [List.append_nil, List.append_nil] at this
    rw [this, show l.length / 20 = 0 by omega, blk]
theorem waao (ho : TO le) (hf : CmpS le f) (n bs : Nat) (hn : n < 288230376151711744) (hb0 : 0 < bs) (hbn : bs < n) (hfu : n ≤ 1000000) : ∀ (k : Nat) (P l : List Mk), l.length ≤ k → n = P.length + l.length →
  ∃ (a : Nat) (D : List Mk), wmc ((n : Int), (f, (bs : Int))) ((P.length : Int), (((P.length + 2 * bs : Nat) : Int), P ++ blk le bs (l.length / bs) l)) = some ((a : Int), D) ∧ a ≤ n ∧
   (if (a : Int) + (bs : Int) < (n : Int) then wex 1000000 (a : Int) ((a : Int) + (bs : Int)) (n : Int) f D else some D) = some (P ++ blk le (2 * bs) (l.length / (2 * bs)) l) := by
 intro k
 induction k with
 | zero =>
  intro P l hk hnl
  have := List.eq_nil_of_length_eq_zero (Nat.le_zero.1 hk)
  subst this
  simp only [List.length_nil, Nat.add_zero, Nat.zero_div] at hnl ⊢
  refine ⟨P.length, P ++ blk le bs 0 [], ?_, by omega, ?_⟩
  ·unfold wmc
   rw [wac]
   simp (disch := omega) only [EV, wiw, show ¬ ((P.length + 2 * bs : Nat) : Int) ≤ (n : Int) by omega]
  ·rw [if_neg (by omega)]
   rfl
 | succ k ih =>
  intro P l hk hnl
  unfold wmc at ih ⊢
  by_cases hc : 2 * bs ≤ l.length
  ·
   have hdiv : l.length / bs = (l.length - 2 * bs) / bs + 1 + 1 := by
    rw [← Nat.add_div_right _ hb0, ← Nat.add_div_right _ hb0]; congr 1; omega
   have hdiv2 : l.length / (2 * bs) = (l.length - 2 * bs) / (2 * bs) + 1 := by
    rw [← Nat.add_div_right _ (by omega)]; congr 1; omega
   have l1 : (l.take bs).length = bs := by rw [List.length_take]; omega
   have l2 : ((l.drop bs).take bs).length = bs := by rw [List.length_take, List.length_drop]; omega
   have l3 : ((l.drop bs).drop bs).length = l.length - 2 * bs := by rw [List.length_drop, List.length_drop]; omega
   have hdd : (l.drop bs).drop bs = l.drop (2 * bs) := by rw [List.drop_drop]; congr 1; omega
   have htt : l.take bs ++ (l.drop bs).take bs = l.take (2 * bs) := by
    rw [show 2 * bs = bs + bs by omega, List.take_add]
   have hm := wnj ho hf 1000000 (wdv le (l.take bs)) (wdv le ((l.drop bs).take bs)) P (blk le bs ((l.length - 2 * bs) / bs) (l.drop (2 * bs))) P.length (P.length + bs) (P.length + 2 * bs)
    (by rw [wak]; omega) (by rw [wak]; omega) (by rw [wak, wak]; omega) (whs ho _) (whs ho _) (by rw [wak, wak, wagn, ← hdd, l3]; omega) rfl (by rw [wak]; omega) (by rw [wak, wak]; omega)
   rw [← wyp ho, htt] at hm
   obtain ⟨a, D, e1, e2, e3⟩ := ih (P ++ wdv le (l.take (2 * bs))) (l.drop (2 * bs)) (by rw [← hdd, l3]; omega) (by rw [List.length_append, wak, ← htt, List.length_append, ← hdd, l3]; omega)
   have l4 : (P ++ wdv le (l.take (2 * bs))).length = P.length + 2 * bs := by rw [List.length_append, wak, ← htt, List.length_append]; omega
   rw [← hdd, l3, hdd, l4] at e1
   refine ⟨a, D, ?_, e2, ?_⟩
   ·rw [wac, hdiv]
    have h1 : ((P.length + 2 * bs : Nat) : Int) ≤ (n : Int) := by omega
    have h2 : ((P.length + 2 * bs : Nat) : Int) + 2 * (bs : Int) = ((P.length + 2 * bs + 2 * bs : Nat) : Int) := by omega
    have h3 : (P.length : Int) + (bs : Int) = ((P.length + bs : Nat) : Int) := by omega
    have hbb : P.length + 2 * bs ≤ n := by omega
    have e : (wiw ((n : Int), (f, (bs : Int))) ((P.length : Int), (((P.length + 2 * bs : Nat) : Int), P ++ (wdv le (l.take bs) ++ (wdv le ((l.drop bs).take bs) ++ blk le bs ((l.length - 2 * bs) / bs) (l.drop (2 * bs))))))).ev =
      some (.inl (((P.length + 2 * bs : Nat) : Int), (((P.length + 2 * bs + 2 * bs : Nat) : Int), P ++ wdv le (l.take (2 * bs)) ++ blk le bs ((l.length - 2 * bs) / bs) (l.drop (2 * bs))))) := by
     rw [List.append_assoc P (wdv le (l.take (2 * bs)))]
     simp (disch := omega) only [EV, wiw, h1, h3, hm, h2]
    rw [blk, blk, hdd, e]
    exact e1
   ·rw [e3, hdiv2, blk, ← hdd, l3, hdd, List.append_assoc]
  ·
   refine ⟨P.length, P ++ blk le bs (l.length / bs) l, ?_, by omega, ?_⟩
   ·rw [wac]
    simp (disch := omega) only [EV, wiw, show ¬ ((P.length + 2 * bs : Nat) : Int) ≤ (n : Int) by omega]
   ·have hz : l.length / (2 * bs) = 0 := Nat.div_eq_of_lt (by omega)
    rw [hz, blk]
    rcases Nat.lt_trichotomy l.length bs with c | c | c
    ·rw [if_neg (by omega), Nat.div_eq_of_lt c, blk]
    ·rw [if_neg (by omega), c, Nat.div_self hb0, blk, blk, List.take_of_length_le (by omega), List.drop_of_length_le (by omega)]
     simp [wdv, wqc]
    ·have hdiv : l.length / bs = 0 + 1 := by
      rw [show l.length = (l.length - bs) + bs by omega, Nat.add_div_right _ hb0, Nat.div_eq_of_lt (by omega)]
     rw [if_pos (by omega), hdiv, blk, blk]
     have l1 : (l.take bs).length = bs := by rw [List.length_take]; omega
     have l2 : (l.drop bs).length = l.length - bs := List.length_drop
     have hm := wnj ho hf 1000000 (wdv le (l.take bs)) (wdv le (l.drop bs)) P [] P.length (P.length + bs) n
      (by rw [wak]; omega) (by rw [wak]; omega) (by rw [wak, wak]; omega) (whs ho _) (whs ho _) (by rw [wak, wak]; simp; omega) rfl (by rw [wak]; omega) (by rw [wak, wak]; omega)
     rw [← wyp ho, List.take_append_drop, List.append_nil, List.append_nil] at hm
     rw [show (P.length : Int) + (bs : Int) = ((P.length + bs : Nat) : Int) by omega]
     exact hm
theorem waap (ho : TO le) (hf : CmpS le f) (l : List Mk) (hn : l.length ≤ 1000000) : ∀ (k bs : Nat), l.length ≤ bs + k → 0 < bs → bs ≤ 2000000 →
  wmd ((l.length : Int), f) ((bs : Int), blk le bs (l.length / bs) l) = some (wdv le l) := by
 intro k
 induction k with
 | zero =>
  intro bs hk hb hbb
  unfold wmd
  rw [wac]
  simp (disch := omega) only [EV, wix, show ¬ bs < l.length by omega]
  rcases Nat.eq_or_lt_of_le hk with c | c
  ·obtain rfl : bs = l.length := by omega
   rw [Nat.div_self (by omega), blk, blk, List.take_of_length_le (by omega), List.drop_of_length_le (by omega)]
   simp [wdv, wqc]
  ·rw [Nat.div_eq_of_lt (by omega), blk]
 | succ k ih =>
  intro bs hk hb hbb
  by_cases hc : bs < l.length
  ·obtain ⟨a, D, e1, e2, e3⟩ := waao ho hf l.length bs (by omega) hb hc hn l.length [] l (Nat.le_refl _) (by simp)
   simp only [List.length_nil, Nat.zero_add, List.nil_append] at e1 e3
   have hih := ih (2 * bs) (by omega) (by omega) (by omega)
   unfold wmd at hih ⊢
   rw [wac]
   have h1 : (2 : Int) * (bs : Int) = ((2 * bs : Nat) : Int) := by omega
   have h2 : (bs : Int) * 2 = ((2 * bs : Nat) : Int) := by omega
   have h3 : (a : Int) + (bs : Int) = ((a + bs : Nat) : Int) := by omega
   have e1' : wmc ((l.length : Int), (f, (bs : Int))) ((0 : Int), (((2 * bs : Nat) : Int), blk le bs (l.length / bs) l)) = some ((a : Int), D) := e1
   have e : (wix ((l.length : Int), f) ((bs : Int), blk le bs (l.length / bs) l)).ev = some (.inl (((2 * bs : Nat) : Int), blk le (2 * bs) (l.length / (2 * bs)) l)) := by
    rw [h3] at e3
    by_cases hd : a + bs < l.length
    ·rw [if_pos (by omega)] at e3
     simp (disch := omega) only [EV, wix, hc, h1, e1', h3, hd, e3, h2]
    ·rw [if_neg (by omega)] at e3
     simp (disch := omega) only [EV, wix, hc, h1, e1', h3, hd, h2, Option.some.inj e3]
   rw [e]
   exact hih
  ·exact ih bs (by omega) hb hbb
theorem wqg (ho : TO le) (hf : CmpS le f) (l : List Mk) (hn : l.length ≤ 1000000) : wajs f l = some (wdv le l) := by
 obtain ⟨a, D, e1, e2⟩ := waan ho hf l.length (by omega) l.length [] l (Nat.le_refl _) (by simp)
 simp only [List.length_nil, Nat.zero_add, List.nil_append] at e1 e2
 have e3 := waap ho hf l hn l.length 20 (by omega) (by omega) (by omega)
 have e1' : wmb ((l.length : Int), (f, (20 : Int))) ((0 : Int), ((20 : Int), l)) = some ((a : Int), D) := e1
 have e3' : wmd ((l.length : Int), f) ((20 : Int), blk le 20 (l.length / 20) l) = some (wdv le l) := e3
 unfold wajs warr warp waro
 simp (disch := omega) only [EV, e1', e2, e3']
end
end Go.Proofs.Ytnagpmhaddfgmaa
