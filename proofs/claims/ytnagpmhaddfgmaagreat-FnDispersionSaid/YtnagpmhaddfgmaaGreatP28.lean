/-
 Plain laws: sets that are left out, and the first best one, where headers are kept apart from rows.
-/
import Derived.Test.YtnagpmhaddfgmaaGreatP27
import Derived.Test.YtnagpmhaddfgmaaGreatPM
namespace Go.Proofs.YtnagpmhaddfgmaaGreat
theorem wjk {α : Type} (ix : List Nat) (l : List (List α)) : (wbd ix l).length = ix.length := by simp [wbd]
theorem wdw {α : Type} {ix : List Nat} (l : List (List α)) {i : Nat} (h : i < ix.length) : (wbd ix l).getD i [] = l.getD (ix.getD i 0) [] := by
 unfold wbd
 rw [List.getD_eq_getElem?_getD, List.getElem?_map, List.getD_eq_getElem?_getD (l := ix), List.getElem?_eq_getElem h]
 rfl
theorem wagj {α : Type} (ix : List Nat) (i : Nat) (l : List (List α)) : wbd (ix ++ [i]) l = wbd ix l ++ [l.getD i []] := by simp [wbd]
theorem wagk {α : Type} (ix : List Nat) (l : List (List α)) (n : Nat) : wbd (ix.take n) l = (wbd ix l).take n := by simp [wbd]
theorem HG.at {x : List Nat × List (List Int)} (h : HG x) {i : Nat} (hi : i < x.1.length) : x.1.getD i 0 < x.2.length := h _ (getD_mem hi)
theorem wey {α : Type} {l : List α} {i : Nat} (d : α) (h : i < l.length) : l.take (i + 1) = l.take i ++ [l.getD i d] := by
 rw [List.take_succ_eq_append_getElem h, List.getD_eq_getElem?_getD, List.getElem?_eq_getElem h]
 rfl
theorem wvs {x : List Nat × List (List Int)} (hx : HG x) (h0 : 0 < x.1.length) (hl : (x.1.length : Int) ≤ 1048576) {p : HL [.slice (.int .i64)] → Option Int} {g : List Int → Int} (hp : ∀ s ∈ wbd x.1 x.2, p (s, ()) = some (g s)) :
  wako p x = some (waj g (wbd x.1 x.2)) := by
 obtain ⟨ix, l⟩ := x
 simp only at h0 hl hp ⊢
 have hn := wjk ix l
 have hrow : ∀ i, i < ix.length → l.getD (ix.getD i 0) [] ∈ wbd ix l := fun i hi => by
  rw [← wdw l hi]
  exact getD_mem (by omega)
 have hne : ∀ m, 0 < m → (wbd ix l).take m ≠ [] := fun m hm e => by
  have := congrArg List.length e
  simp only [List.length_take, hn, List.length_nil] at this
  omega
 have hz : Int.toNat 0 = 0 := rfl
 have hb : ∀ i, i < ix.length → ix.getD i 0 < l.length := fun i hi => HG.at hx hi
 have h := waq (f := fun v => (wkj (p, ((ix.length : Int), (ix, l))) v).ev) (n := ix.length) (mk := fun i (b : Nat) => (b, (i : Int)))
  (I := fun i b => b < l.length ∧ l.getD b [] ∈ wbd ix l ∧ l.getD b [] = waj g ((wbd ix l).take (i + if i = 0 then 1 else 0))) (g := fun b i => if g (l.getD (ix.getD i 0) []) < g (l.getD b []) then ix.getD i 0 else b) (fin := fun b => b) (s0 := ix.getD 0 0)
  ⟨hb 0 h0, hrow 0 h0, by
   rw [if_pos rfl, wey [] (by omega), wdw l h0, List.take_zero, List.nil_append, wel]⟩
  (fun i b hi hI => by
   obtain ⟨hb1, hb2, hb3⟩ := hI
   have hg1 := hp _ (hrow i hi)
   have hg2 := hp _ hb2
   have hstep : waj g ((wbd ix l).take (i + 1)) = if g (l.getD (ix.getD i 0) []) < g (l.getD b []) then l.getD (ix.getD i 0) [] else l.getD b [] := by
    by_cases e : i = 0
    ·subst e
     rw [if_pos rfl] at hb3
     rw [if_neg, hb3]
     rw [hb3, Nat.zero_add, wey [] (by omega), wdw l h0, List.take_zero, List.nil_append, wel]
     exact Int.lt_irrefl _
    ·rw [if_neg e, Nat.add_zero] at hb3
     rw [wey [] (by omega), wdw l hi, wfj (hne i (by omega)), ← hb3]
   by_cases hq : g (l.getD (ix.getD i 0) []) < g (l.getD b [])
   ·refine ⟨?_, ?_⟩
    ·simp (disch := omega) only [EV, wkj, hi, hb i hi, hg1, hg2, hq]
     rfl
    ·rw [if_pos hq] at hstep ⊢
     exact ⟨hb i hi, hrow i hi, by rw [if_neg (by omega), Nat.add_zero, hstep]⟩
   ·refine ⟨?_, ?_⟩
    ·simp (disch := omega) only [EV, wkj, hi, hb i hi, hg1, hg2, hq]
     rfl
    ·rw [if_neg hq] at hstep ⊢
     exact ⟨hb1, hb2, by rw [if_neg (by omega), Nat.add_zero, hstep]⟩)
  (fun b _ => by simp (disch := omega) only [EV, wkj, Nat.lt_irrefl])
 have h1 : wakn (p, ((ix.length : Int), (ix, l))) (ix.getD 0 0, (0 : Int)) = _ := h.1
 obtain ⟨_, _, e⟩ := h.2
 rw [if_neg (by omega), Nat.add_zero, List.take_of_length_le (by omega)] at e
 unfold wako wbdp
 simp (disch := omega) only [EV, show inR (0 : Int) ix.length = true from wcu (by omega) (by omega), hz, h0, hb 0 h0, h1]
 rw [← e]
theorem wsy {x : List Nat × List (List Int)} (hx : HG x) (hl : (x.1.length : Int) ≤ 1048576) {p : HL [.slice (.int .i64)] → Option Bool} {q : List Int → Bool} (hp : ∀ s ∈ wbd x.1 x.2, p (s, ()) = some (q s)) :
  ∃ y, watl p x = some y ∧ HG y ∧ wbd y.1 y.2 = (wbd x.1 x.2).filter fun s => !q s := by
 obtain ⟨ix, l⟩ := x
 simp only at hl hp ⊢
 have hn := wjk ix l
 have hix := whk (l := wbd ix l) (by omega) hp
 unfold watl wbdj
 cases hf : (wbd ix l).findIdx? q with
 | none =>
  rw [hf] at hix
  have e : (Option.elim (none : Option Nat) (-1) fun i => ((i : Nat) : Int)) = -1 := rfl
  rw [e] at hix
  simp (disch := omega) only [EV, hix, show ((-1 : Int) == -1) = true from rfl]
  refine ⟨_, rfl, hx, ?_⟩
  have hno := List.findIdx?_eq_none_iff.1 hf
  exact (List.filter_eq_self.2 fun s hs => by rw [hno s hs]; rfl).symm
 | some i0 =>
  rw [hf] at hix
  have e : (Option.elim (some i0 : Option Nat) (-1) fun i => ((i : Nat) : Int)) = (i0 : Int) := rfl
  rw [e] at hix
  obtain ⟨hi0, hq0, hbef⟩ := List.findIdx?_eq_some_iff_getElem.1 hf
  have hi0' : i0 < ix.length := by omega
  have hrow : ∀ i, i < ix.length → l.getD (ix.getD i 0) [] ∈ wbd ix l := fun i hi => by
   rw [← wdw l hi]
   exact getD_mem (by omega)
  have hb : ∀ i, i < ix.length → ix.getD i 0 < l.length := fun i hi => HG.at hx hi
  have hpre : ((wbd ix l).take (i0 + 1)).filter (fun s => !q s) = (wbd ix l).take i0 := by
   rw [List.take_succ_eq_append_getElem hi0, List.filter_append]
   have e1 : ((wbd ix l).take i0).filter (fun s => !q s) = (wbd ix l).take i0 := List.filter_eq_self.2 fun s hs => by
    obtain ⟨j, hj, rfl⟩ := List.getElem_of_mem hs
    have hji : j < i0 := by simp at hj; omega
    have := hbef j hji
    simpa using this
   rw [e1]
   simp [hq0]
  have h := waq (f := fun v => (wki p v).ev) (n := ix.length - (i0 + 1)) (mk := fun k (st : Nat × List Nat) => ((st.1 : Int), (((i0 + 1 + k : Nat) : Int), (st.2, l))))
   (I := fun k st => st.2.length = ix.length ∧ st.1 ≤ i0 + k ∧ wbd (st.2.take st.1) l = ((wbd ix l).take (i0 + 1 + k)).filter (fun s => !q s) ∧ st.2.drop (i0 + 1 + k) = ix.drop (i0 + 1 + k) ∧ ∀ m ∈ st.2, m < l.length)
   (g := fun st k => if q (l.getD (ix.getD (i0 + 1 + k) 0) []) = true then st else (st.1 + 1, st.2.set st.1 (ix.getD (i0 + 1 + k) 0))) (fin := fun st => ((st.1 : Int), (st.2, l))) (s0 := (i0, ix))
   ⟨rfl, Nat.le_refl _, by rw [wagk, Nat.add_zero, hpre], rfl, hx⟩
   (fun k st hk hI => by
    obtain ⟨i, jx⟩ := st
    obtain ⟨a1, a2, a3, a4, a5⟩ := hI
    simp only at a1 a2 a3 a4 a5 ⊢
    have hj : i0 + 1 + k < ix.length := by omega
    have hjx : i0 + 1 + k < jx.length := by omega
    have hat : jx.getD (i0 + 1 + k) 0 = ix.getD (i0 + 1 + k) 0 := by
     have := congrArg (fun l : List Nat => l[0]?) a4
     simp only [List.getElem?_drop, Nat.add_zero] at this
     rw [List.getD_eq_getElem?_getD, List.getD_eq_getElem?_getD, this]
    have hbk := hb _ hj
    have hpk := hp _ (hrow _ hj)
    have htk : (wbd ix l).take (i0 + 1 + (k + 1)) = (wbd ix l).take (i0 + 1 + k) ++ [l.getD (ix.getD (i0 + 1 + k) 0) []] := by
     rw [show i0 + 1 + (k + 1) = (i0 + 1 + k) + 1 by omega, wey [] (by omega), wdw l hj]
    have hd1 : jx.drop (i0 + 1 + (k + 1)) = ix.drop (i0 + 1 + (k + 1)) := by
     have := congrArg (List.drop 1) a4
     rw [List.drop_drop, List.drop_drop] at this
     exact this
    have hcast : ((i0 + 1 + k : Nat) : Int) + 1 = ((i0 + 1 + (k + 1) : Nat) : Int) := by omega
    cases hq : q (l.getD (ix.getD (i0 + 1 + k) 0) []) with
    | true =>
     rw [if_pos rfl]
     refine ⟨?_, a1, by omega, ?_, hd1, a5⟩
     ·simp (disch := omega) only [EV, wki, hjx, hat, hbk, hpk, hq, hcast]
     ·rw [a3, htk, List.filter_append, List.filter_cons_of_neg (by rw [hq]; exact Bool.noConfusion), List.filter_nil, List.append_nil]
    | false =>
     rw [if_neg (by simp)]
     have hil : i < jx.length := by omega
     refine ⟨?_, by simpa using a1, by omega, ?_, ?_, fun m hm => ?_⟩
     ·simp (disch := omega) only [EV, wki, hjx, hat, hbk, hpk, hq, hcast, hil]
      rfl
     ·rw [wey 0 (by simpa using hil), List.take_set_of_le (Nat.le_refl _), wagj, a3, htk, List.filter_append]
      have e2 : (jx.set i (ix.getD (i0 + 1 + k) 0)).getD i 0 = ix.getD (i0 + 1 + k) 0 := by
       rw [List.getD_eq_getElem?_getD, List.getElem?_set_self hil]
       rfl
      rw [e2, List.filter_cons_of_pos (by rw [hq]; rfl), List.filter_nil]
     ·rw [List.drop_set_of_lt (by omega)]
      exact hd1
     ·rcases List.mem_or_eq_of_mem_set hm with h | rfl
      ·exact a5 m h
      ·exact hbk)
   (fun st hI => by
    have e3 : i0 + 1 + (ix.length - (i0 + 1)) = st.2.length := by rw [hI.1]; omega
    simp (disch := omega) only [EV, wki, e3, Nat.lt_irrefl])
  obtain ⟨h1, b1, b2, b3, _, b5⟩ := h
  generalize (List.range (ix.length - (i0 + 1))).foldl _ (i0, ix) = st at h1 b1 b2 b3 b5
  obtain ⟨i, jx⟩ := st
  simp only at h1 b1 b2 b3 b5
  have h2 : wakk p ((i0 : Int), ((i0 : Int) + 1, (ix, l))) = some ((i : Int), (jx, l)) := h1
  have hneg : ((i0 : Int) == -1) = false := beq_eq_false_iff_ne.2 (by omega)
  have hil : i ≤ jx.length := by omega
  have e4 : (jx.take i ++ List.replicate (jx.length - i) l.length).length = jx.length := by
   simp only [List.length_append, List.length_take, List.length_replicate]
   omega
  have e5 : (jx.take i ++ List.replicate (jx.length - i) l.length).take i = jx.take i := by
   rw [List.take_append_of_le_length (by rw [List.length_take]; omega), List.take_take, Nat.min_self]
  have g1 : (0 : Int) ≤ (i : Int) := by omega
  have g2 : (i : Int) ≤ ((jx.length : Nat) : Int) := by omega
  simp (disch := omega) only [EV, hix, hneg, h2, e4, e5, g1, g2]
  refine ⟨_, rfl, fun m hm => b5 m (List.mem_of_mem_take hm), ?_⟩
  simp only
  rw [b3, List.take_of_length_le (by omega)]
end Go.Proofs.YtnagpmhaddfgmaaGreat
