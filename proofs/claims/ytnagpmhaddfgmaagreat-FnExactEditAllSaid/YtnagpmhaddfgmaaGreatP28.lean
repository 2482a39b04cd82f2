/-
 Plain laws: sets that are left out, and the first best one, where headers are kept apart from rows.
-/
import Derived.Test.YtnagpmhaddfgmaaGreatP27
import Derived.Test.YtnagpmhaddfgmaaGreatPM
namespace Go.Proofs.YtnagpmhaddfgmaaGreat
theorem permL_len {α : Type} (ix : List Nat) (l : List (List α)) : (permL ix l).length = ix.length := by simp [permL]
theorem permL_getD {α : Type} {ix : List Nat} (l : List (List α)) {i : Nat} (h : i < ix.length) : (permL ix l).getD i [] = l.getD (ix.getD i 0) [] := by
 unfold permL
 rw [List.getD_eq_getElem?_getD, List.getElem?_map, List.getD_eq_getElem?_getD (l := ix), List.getElem?_eq_getElem h]
 rfl
theorem HG.at {x : List Nat × List (List Int)} (h : HG x) {i : Nat} (hi : i < x.1.length) : x.1.getD i 0 < x.2.length := h _ (getD_mem hi)
theorem take_snocD {α : Type} {l : List α} {i : Nat} (d : α) (h : i < l.length) : l.take (i + 1) = l.take i ++ [l.getD i d] := by
 rw [List.take_succ_eq_append_getElem h, List.getD_eq_getElem?_getD, List.getElem?_eq_getElem h]
 rfl
theorem leastP_eq {x : List Nat × List (List Int)} (hx : HG x) (h0 : 0 < x.1.length) (hl : (x.1.length : Int) ≤ 1048576) {p : HL [.slice (.int .i64)] → Option Int} {g : List Int → Int} (hp : ∀ s ∈ permL x.1 x.2, p (s, ()) = some (g s)) :
  wmh p x = some (firstMin g (permL x.1 x.2)) := by
 obtain ⟨ix, l⟩ := x
 simp only at h0 hl hp ⊢
 have hn := permL_len ix l
 have hrow : ∀ i, i < ix.length → l.getD (ix.getD i 0) [] ∈ permL ix l := fun i hi => by
  rw [← permL_getD l hi]
  exact getD_mem (by omega)
 have hne : ∀ m, 0 < m → (permL ix l).take m ≠ [] := fun m hm e => by
  have := congrArg List.length e
  simp only [List.length_take, hn, List.length_nil] at this
  omega
 have hz : Int.toNat 0 = 0 := rfl
 have hb : ∀ i, i < ix.length → ix.getD i 0 < l.length := fun i hi => HG.at hx hi
 have h := iter_fold (f := fun v => (wam (p, ((ix.length : Int), (ix, l))) v).ev) (n := ix.length) (mk := fun i (b : Nat) => (b, (i : Int)))
  (I := fun i b => b < l.length ∧ l.getD b [] ∈ permL ix l ∧ l.getD b [] = firstMin g ((permL ix l).take (i + if i = 0 then 1 else 0))) (g := fun b i => if g (l.getD (ix.getD i 0) []) < g (l.getD b []) then ix.getD i 0 else b) (fin := fun b => b) (s0 := ix.getD 0 0)
  ⟨hb 0 h0, hrow 0 h0, by
   rw [if_pos rfl, take_snocD [] (by omega), permL_getD l h0, List.take_zero, List.nil_append, firstMin_one]⟩
  (fun i b hi hI => by
   obtain ⟨hb1, hb2, hb3⟩ := hI
   have hg1 := hp _ (hrow i hi)
   have hg2 := hp _ hb2
   have hstep : firstMin g ((permL ix l).take (i + 1)) = if g (l.getD (ix.getD i 0) []) < g (l.getD b []) then l.getD (ix.getD i 0) [] else l.getD b [] := by
    by_cases e : i = 0
    ·subst e
     rw [if_pos rfl] at hb3
     rw [if_neg, hb3]
     rw [hb3, Nat.zero_add, take_snocD [] (by omega), permL_getD l h0, List.take_zero, List.nil_append, firstMin_one]
     exact Int.lt_irrefl _
    ·rw [if_neg e, Nat.add_zero] at hb3
     rw [take_snocD [] (by omega), permL_getD l hi, firstMin_snoc (hne i (by omega)), ← hb3]
   by_cases hq : g (l.getD (ix.getD i 0) []) < g (l.getD b [])
   ·refine ⟨?_, ?_⟩
    ·simp (disch := omega) only [EV, wam, hi, hb i hi, hg1, hg2, hq]
     rfl
    ·rw [if_pos hq] at hstep ⊢
     exact ⟨hb i hi, hrow i hi, by rw [if_neg (by omega), Nat.add_zero, hstep]⟩
   ·refine ⟨?_, ?_⟩
    ·simp (disch := omega) only [EV, wam, hi, hb i hi, hg1, hg2, hq]
     rfl
    ·rw [if_neg hq] at hstep ⊢
     exact ⟨hb1, hb2, by rw [if_neg (by omega), Nat.add_zero, hstep]⟩)
  (fun b _ => by simp (disch := omega) only [EV, wam, Nat.lt_irrefl])
 have h1 : wja (p, ((ix.length : Int), (ix, l))) (ix.getD 0 0, (0 : Int)) = _ := h.1
 obtain ⟨_, _, e⟩ := h.2
 rw [if_neg (by omega), Nat.add_zero, List.take_of_length_le (by omega)] at e
 unfold wmh wwq
 simp (disch := omega) only [EV, show inR (0 : Int) ix.length = true from inR_int (by omega) (by omega), hz, h0, hb 0 h0, h1]
 rw [← e]
end Go.Proofs.YtnagpmhaddfgmaaGreat
