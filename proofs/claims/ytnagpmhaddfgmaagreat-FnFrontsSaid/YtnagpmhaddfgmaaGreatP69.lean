/-
 Plain laws: best sets under a limit (where sets are data); what a front is.
-/
import Derived.Test.YtnagpmhaddfgmaaGreatP68
namespace Go.Proofs.YtnagpmhaddfgmaaGreat
def intB : Int → Int → Bool
 | .ofNat a, .ofNat b => Nat.beq a b
 | _, _ => false
def lstB : List Int → List Int → Bool
 | [], [] => true
 | a :: l, b :: r => intB a b && lstB l r
 | _, _ => false
theorem wuk : ∀ {a b : List Int}, lstB a b = true → a = b
 | [], [], _ => rfl
 | [], _ :: _, h => by cases h
 | _ :: _, [], h => by cases h
 | x :: a, y :: b, h => by
  unfold lstB at h
  rw [Bool.and_eq_true] at h
  have e : x = y := by
   have h1 := h.1
   unfold intB at h1
   split at h1
   ·exact congrArg Int.ofNat (Nat.eq_of_beq_eq_true h1)
   ·cases h1
  rw [e, wuk h.2]
theorem take_snocD {α : Type} {l : List α} {i : Nat} (d : α) (h : i < l.length) : l.take (i + 1) = l.take i ++ [l.getD i d] := by
 rw [List.take_succ_eq_append_getElem h, List.getD_eq_getElem?_getD, List.getElem?_eq_getElem h]
 rfl
theorem wul {l : List (List Int)} (h0 : 0 < l.length) (hl : l.length ≤ 1048576) {p : HL [.slice (.int .i64)] → Option Int} {g : List Int → Int} (hp : ∀ s ∈ l, p (s, ()) = some (g s)) :
  wya l p = some (firstMin g l) := by
 have hz : Int.toNat 0 = 0 := rfl
 have h := iter_fold (f := fun v => (wcc (p, (l, (l.length : Int))) v).ev) (n := l.length) (mk := fun i (b : List Int) => (b, (i : Int)))
  (I := fun i b => b ∈ l ∧ b = firstMin g (l.take (i + if i = 0 then 1 else 0))) (g := fun b i => if g (l.getD i []) < g b then l.getD i [] else b) (fin := fun b => b) (s0 := l.getD 0 [])
  ⟨getD_mem h0, by rw [if_pos rfl, take_snocD [] h0, List.take_zero, List.nil_append, firstMin_one]⟩
  (fun i b hi hI => by
   obtain ⟨hb1, hb2⟩ := hI
   have hm := getD_mem (d := []) hi
   have hg1 := hp _ hm
   have hg2 := hp _ hb1
   have hne : ∀ m, 0 < m → l.take m ≠ [] := fun m hm e => by
    have := congrArg List.length e
    simp only [List.length_take, List.length_nil] at this
    omega
   have hstep : firstMin g (l.take (i + 1)) = if g (l.getD i []) < g b then l.getD i [] else b := by
    by_cases e : i = 0
    ·subst e
     rw [if_pos rfl] at hb2
     rw [if_neg, hb2]
     rw [hb2, Nat.zero_add, take_snocD [] h0, List.take_zero, List.nil_append, firstMin_one]
     exact Int.lt_irrefl _
    ·rw [if_neg e, Nat.add_zero] at hb2
     rw [take_snocD [] hi, firstMin_snoc (hne i (by omega)), ← hb2]
   by_cases hq : g (l.getD i []) < g b
   ·refine ⟨?_, ?_⟩
    ·simp (disch := omega) only [EV, wcc, hi, hg1, hg2, hq]
     rfl
    ·rw [if_pos hq] at hstep ⊢
     exact ⟨hm, by rw [if_neg (by omega), Nat.add_zero, hstep]⟩
   ·refine ⟨?_, ?_⟩
    ·simp (disch := omega) only [EV, wcc, hi, hg1, hg2, hq]
     rfl
    ·rw [if_neg hq] at hstep ⊢
     exact ⟨hb1, by rw [if_neg (by omega), Nat.add_zero, hstep]⟩)
  (fun b _ => by simp (disch := omega) only [EV, wcc, Nat.lt_irrefl])
 have h1 : wsa (p, (l, (l.length : Int))) (l.getD 0 [], (0 : Int)) = _ := h.1
 obtain ⟨_, e⟩ := h.2
 rw [if_neg (by omega), Nat.add_zero, List.take_of_length_le (Nat.le_refl _)] at e
 unfold wya waie
 simp (disch := omega) only [EV, show inR (0 : Int) l.length = true from inR_int (by omega) (by omega), hz, h1]
 rw [← e]
theorem wfd {l : List (List Int)} (hl : l.length ≤ 1048576) {p : HL [.slice (.int .i64)] → Option Bool} {q : List Int → Bool} (hp : ∀ s ∈ l, p (s, ()) = some (q s)) :
  wxy p l = some (l.filter fun s => !q s) := by
 have hix := indexFunc_Sint (l := l) (by omega) hp
 unfold wxy wahz
 cases hf : l.findIdx? q with
 | none =>
  rw [hf] at hix
  have e : (Option.elim (none : Option Nat) (-1) fun i => ((i : Nat) : Int)) = -1 := rfl
  rw [e] at hix
  simp (disch := omega) only [EV, hix, show ((-1 : Int) == -1) = true from rfl]
  have hno := List.findIdx?_eq_none_iff.1 hf
  rw [List.filter_eq_self.2 fun s hs => by rw [hno s hs]; rfl]
 | some i0 =>
  rw [hf] at hix
  have e : (Option.elim (some i0 : Option Nat) (-1) fun i => ((i : Nat) : Int)) = (i0 : Int) := rfl
  rw [e] at hix
  obtain ⟨hi0, hq0, hbef⟩ := List.findIdx?_eq_some_iff_getElem.1 hf
  have hpre : (l.take (i0 + 1)).filter (fun s => !q s) = l.take i0 := by
   rw [List.take_succ_eq_append_getElem hi0, List.filter_append]
   have e1 : (l.take i0).filter (fun s => !q s) = l.take i0 := List.filter_eq_self.2 fun s hs => by
    obtain ⟨j, hj, rfl⟩ := List.getElem_of_mem hs
    have hji : j < i0 := by simp at hj; omega
    have := hbef j hji
    simpa using this
   rw [e1]
   simp [hq0]
  have h := iter_fold (f := fun v => (wcb p v).ev) (n := l.length - (i0 + 1)) (mk := fun k (st : Nat × List (List Int)) => ((st.1 : Int), (((i0 + 1 + k : Nat) : Int), st.2)))
   (I := fun k st => st.2.length = l.length ∧ st.1 ≤ i0 + k ∧ st.2.take st.1 = (l.take (i0 + 1 + k)).filter (fun s => !q s) ∧ st.2.drop (i0 + 1 + k) = l.drop (i0 + 1 + k))
   (g := fun st k => if q (l.getD (i0 + 1 + k) []) = true then st else (st.1 + 1, st.2.set st.1 (l.getD (i0 + 1 + k) []))) (fin := fun st => ((st.1 : Int), st.2)) (s0 := (i0, l))
   ⟨rfl, Nat.le_refl _, by rw [Nat.add_zero, hpre], rfl⟩
   (fun k st hk hI => by
    obtain ⟨i, jx⟩ := st
    obtain ⟨a1, a2, a3, a4⟩ := hI
    simp only at a1 a2 a3 a4 ⊢
    have hj : i0 + 1 + k < l.length := by omega
    have hjx : i0 + 1 + k < jx.length := by omega
    have hat : jx.getD (i0 + 1 + k) [] = l.getD (i0 + 1 + k) [] := by
     have := congrArg (fun l : List (List Int) => l[0]?) a4
     simp only [List.getElem?_drop, Nat.add_zero] at this
     rw [List.getD_eq_getElem?_getD, List.getD_eq_getElem?_getD, this]
    have hpk := hp _ (getD_mem (d := []) hj)
    have htk : l.take (i0 + 1 + (k + 1)) = l.take (i0 + 1 + k) ++ [l.getD (i0 + 1 + k) []] := by
     rw [show i0 + 1 + (k + 1) = (i0 + 1 + k) + 1 by omega, take_snocD [] hj]
    have hd1 : jx.drop (i0 + 1 + (k + 1)) = l.drop (i0 + 1 + (k + 1)) := by
     have := congrArg (List.drop 1) a4
     rw [List.drop_drop, List.drop_drop] at this
     exact this
    have hcast : ((i0 + 1 + k : Nat) : Int) + 1 = ((i0 + 1 + (k + 1) : Nat) : Int) := by omega
    cases hq : q (l.getD (i0 + 1 + k) []) with
    | true =>
     rw [if_pos rfl]
     refine ⟨?_, a1, by omega, ?_, hd1⟩
     ·simp (disch := omega) only [EV, wcb, hjx, hat, hpk, hq, hcast]
     ·rw [a3, htk, List.filter_append, List.filter_cons_of_neg (by rw [hq]; exact Bool.noConfusion), List.filter_nil, List.append_nil]
    | false =>
     rw [if_neg (by simp)]
     have hil : i < jx.length := by omega
     refine ⟨?_, by simpa using a1, by omega, ?_, ?_⟩
     ·simp (disch := omega) only [EV, wcb, hjx, hat, hpk, hq, hcast, hil]
      rfl
     ·rw [take_snocD [] (by simpa using hil), List.take_set_of_le (Nat.le_refl _), a3, htk, List.filter_append]
      have e2 : (jx.set i (l.getD (i0 + 1 + k) [])).getD i [] = l.getD (i0 + 1 + k) [] := by
       rw [List.getD_eq_getElem?_getD, List.getElem?_set_self hil]
       rfl
      rw [e2, List.filter_cons_of_pos (by rw [hq]; rfl), List.filter_nil]
     ·rw [List.drop_set_of_lt (by omega)]
      exact hd1)
   (fun st hI => by
    have e3 : i0 + 1 + (l.length - (i0 + 1)) = st.2.length := by rw [hI.1]; omega
    simp (disch := omega) only [EV, wcb, e3, Nat.lt_irrefl])
  obtain ⟨h1, b1, b2, b3, _⟩ := h
  generalize (List.range (l.length - (i0 + 1))).foldl _ (i0, l) = st at h1 b1 b2 b3
  obtain ⟨i, jx⟩ := st
  simp only at h1 b1 b2 b3
  have h2 : wrz p ((i0 : Int), ((i0 : Int) + 1, l)) = some ((i : Int), jx) := h1
  have hneg : ((i0 : Int) == -1) = false := beq_eq_false_iff_ne.2 (by omega)
  have hil : i ≤ jx.length := by omega
  have e4 : (jx.take i ++ List.replicate (jx.length - i) []).length = jx.length := by
   simp only [List.length_append, List.length_take, List.length_replicate]
   omega
  have e5 : (jx.take i ++ List.replicate (jx.length - i) []).take i = jx.take i := by
   rw [List.take_append_of_le_length (by rw [List.length_take]; omega), List.take_take, Nat.min_self]
  have g1 : (0 : Int) ≤ (i : Int) := by omega
  have g2 : (i : Int) ≤ ((jx.length : Nat) : Int) := by omega
  simp (disch := omega) only [EV, hix, hneg, h2, e4, e5, g1, g2, List.drop_zero]
  rw [b3, List.take_of_length_le (by omega)]
def wag (o : List Int) (ds : List (List Int)) (b lim : Int) : List (List Int) := (setsOf o.length).filter fun s => decide (valueOf o ds s b ≤ lim)
def wab (o : List Int) (ds : List (List Int)) (a b lim : Int) : List Int × Bool :=
 bif ww o ds a b then (if wag o ds b lim = [] then ([], false) else (firstMin (fun s => valueOf o ds s a) (wag o ds b lim), true)) else ([], false)
theorem wew {o : List Int} {ds : List (List Int)} (ho : Low1 o) (hd : Low2 ds) (a b lim : Int) : F_zd o ds a b lim = some (wab o ds a b lim) := by
 unfold F_zd T_zd wab
 simp (disch := omega) only [EV, wci ho hd]
 cases hb : ww o ds a b with
 | false => rfl
 | true =>
  have hf := wac hb
  obtain ⟨hn1, hn7⟩ := wfc hf
  have hS := setsP hn1 hn7
  have hl128 := setsP_len hS hn7
  have k1 := wfd (l := setsOf o.length) (by omega) (p := fun h3_ => Option.bind (F_ze h3_.1 o ds b lim) fun y4_ => some y4_) (q := fun s => decide (lim < valueOf o ds s b)) fun s hs => by
   obtain ⟨p1, p2, _⟩ := setP_places hn7 hS hs
   show Option.bind (F_ze s o ds b lim) _ = _
   unfold F_ze T_ze
   simp (disch := omega) only [EV, wct hf p1 p2]
  have hk : ((setsOf o.length).filter fun s => !decide (lim < valueOf o ds s b)) = wag o ds b lim := by
   unfold wag
   congr 1
   funext s
   by_cases h : valueOf o ds s b ≤ lim
   ·have : ¬ lim < valueOf o ds s b := by omega
    simp [h, this]
   ·have : lim < valueOf o ds s b := by omega
    simp [h, this]
  rw [hk] at k1
  have hfl : (wag o ds b lim).length ≤ 128 := Nat.le_trans (List.length_filter_le _ _) hl128
  have hset : ∀ s ∈ wag o ds b lim, s ∈ setsOf o.length := fun s hs => (List.mem_filter.1 hs).1
  simp (disch := omega) only [EV, hS.im, k1]
  by_cases he : wag o ds b lim = []
  ·rw [if_pos he, he]
   rfl
  ·have hpos : 0 < (wag o ds b lim).length := List.length_pos_iff.2 he
   have hz : (((wag o ds b lim).length : Int) == 0) = false := beq_eq_false_iff_ne.2 (by omega)
   have hle := wul (l := wag o ds b lim) hpos (by omega) (p := fun h6_ => Option.bind (F_zf h6_.1 o ds a) fun y7_ => some y7_) (g := fun s => valueOf o ds s a) fun s hs => by
    obtain ⟨p1, p2, _⟩ := setP_places hn7 hS (hset s hs)
    show Option.bind (F_zf s o ds a) _ = _
    unfold F_zf T_zf
    simp (disch := omega) only [EV, wct hf p1 p2]
   simp (disch := omega) only [EV, hz, hle]
   rw [if_neg he]
theorem wex {o : List Int} {ds : List (List Int)} (ho : Low1 o) (hd : Low2 ds) (a b lim : Int) : wyc o ds a b lim = some (wab o ds a b lim) ∧ Low1 (wab o ds a b lim).1 := by
 unfold wyc waii wab
 simp (disch := omega) only [EV, weq ho hd]
 cases hb : ww o ds a b with
 | false => exact ⟨rfl, by show Low1 []; unfold Low1; simp⟩
 | true =>
  have hf := wac hb
  obtain ⟨hn1, hn7⟩ := wfc hf
  have hS := setsP hn1 hn7
  have hl128 := setsP_len hS hn7
  have hpk := pickL_eq (q := fun s => decide (valueOf o ds s b ≤ lim)) (g := fun s => valueOf o ds s a) (setsOf o.length) fun s hs e => by
   have := (setP_places hn7 hS hs).2.1
   rw [e] at this
   simp at this
  have h0 := iter_foldl (f := fun v => (wbd (a, (b, (lim, (setsOf o.length, (o, ds))))) v).ev) (setsOf o.length) [] (mk := fun i s => (s, (i : Int))) (I := fun _ s => s = [] ∨ s ∈ setsOf o.length)
   (g := fun c s => if decide (valueOf o ds s b ≤ lim) = true ∧ (c = [] ∨ valueOf o ds s a < valueOf o ds c a) then s else c) (fin := fun s => s) (s0 := []) (.inl rfl)
   (fun i s hi hI => by
    have hm : (setsOf o.length).getD i [] ∈ setsOf o.length := getD_mem hi
    obtain ⟨p1, p2, _⟩ := setP_places hn7 hS hm
    refine ⟨?_, ?_⟩
    ·by_cases hv : valueOf o ds ((setsOf o.length).getD i []) b ≤ lim
     ·rcases hI with rfl | hs
      ·have hz : (((List.length ([] : List Int) : Nat) : Int) == 0) = true := rfl
       simp (disch := omega) only [EV, wbd, hi, wad hf p1 p2, hv, hz]
       rw [if_pos ⟨by simp, .inl (by simp)⟩]
       rfl
      ·obtain ⟨q1, q2, _⟩ := setP_places hn7 hS hs
       have hz : (((s.length : Nat) : Int) == 0) = false := beq_eq_false_iff_ne.2 (by omega)
       have hne : s ≠ [] := fun e => by rw [e] at q2; simp at q2
       by_cases hc : valueOf o ds ((setsOf o.length).getD i []) a < valueOf o ds s a
       ·simp (disch := omega) only [EV, wbd, hi, wad hf p1 p2, wad hf q1 q2, hv, hz, hc]
        rw [if_pos ⟨by simp, .inr trivial⟩]
        rfl
       ·simp (disch := omega) only [EV, wbd, hi, wad hf p1 p2, wad hf q1 q2, hv, hz, hc]
        rw [if_neg (fun h => h.2.elim hne id)]
        rfl
     ·simp (disch := omega) only [EV, wbd, hi, wad hf p1 p2, hv]
      rw [if_neg (fun h => by simp at h)]
      rfl
    ·split
     ·exact .inr hm
     ·exact hI)
   (fun s _ => by simp (disch := omega) only [EV, wbd, Nat.lt_irrefl])
  have h1 : wsb (a, (b, (lim, (setsOf o.length, (o, ds))))) (([] : List Int), (0 : Int)) = some (pickL (fun s => decide (valueOf o ds s b ≤ lim)) (fun s => valueOf o ds s a) (setsOf o.length)) := h0.1
  rw [hpk] at h1
  have hu : (setsOf o.length).filter (fun s => decide (valueOf o ds s b ≤ lim)) = wag o ds b lim := rfl
  rw [hu] at h1
  by_cases he : wag o ds b lim = []
  ·rw [if_pos he] at h1 ⊢
   refine ⟨?_, by show Low1 []; unfold Low1; simp⟩
   simp (disch := omega) only [EV, hS.sp, h1]
   rfl
  ·rw [if_neg he] at h1 ⊢
   have hfm := (firstMin_spec (g := fun s => valueOf o ds s a) he).1
   obtain ⟨_, q2, q3⟩ := setP_places hn7 hS (List.mem_filter.1 hfm).1
   refine ⟨?_, q3⟩
   have hp : (0 : Int) < (((firstMin (fun s => valueOf o ds s a) (wag o ds b lim)).length : Nat) : Int) := by omega
   simp (disch := omega) only [EV, hS.sp, h1, hp]
theorem wpc {o : List Int} {ds : List (List Int)} {a b lim : Int} (h : (wab o ds a b lim).2 = true) : ww o ds a b = true ∧ (wab o ds a b lim).1 ∈ setsOf o.length ∧ valueOf o ds (wab o ds a b lim).1 b ≤ lim ∧ ∀ s ∈ setsOf o.length, valueOf o ds s b ≤ lim → valueOf o ds (wab o ds a b lim).1 a ≤ valueOf o ds s a := by
 unfold wab at h ⊢
 cases hb : ww o ds a b with
 | false => rw [hb] at h; cases h
 | true =>
  rw [hb] at h
  rw [cond_true] at h ⊢
  by_cases he : wag o ds b lim = []
  ·rw [if_pos he] at h; cases h
  ·rw [if_neg he]
   obtain ⟨h1, h2⟩ := firstMin_spec (g := fun s => valueOf o ds s a) he
   obtain ⟨h3, h4⟩ := List.mem_filter.1 h1
   refine ⟨rfl, h3, by simpa using h4, fun s hs hv => ?_⟩
   have hm : s ∈ wag o ds b lim := List.mem_filter.2 ⟨hs, by simpa using hv⟩
   show valueOf o ds (firstMin (fun s => valueOf o ds s a) (wag o ds b lim)) a ≤ valueOf o ds s a
   rw [h2]
   have hne : (wag o ds b lim).map (fun s => valueOf o ds s a) ≠ [] := by simpa using he
   exact (lstMin_spec hne).2 _ (List.mem_map.2 ⟨s, hm, rfl⟩)
theorem wkw : ∀ (l : List MkF) (c : Option Int), (pk c l).Pairwise fun x y => y.1.2 < x.1.2
 | [], _ => List.Pairwise.nil
 | m :: l, c => by
  simp only [pk]
  split
  ·refine List.pairwise_cons.2 ⟨fun y hy => ?_, wkw l _⟩
   have := (wax l _ y hy).2
   simpa [wch] using this
  ·exact wkw l c
theorem wck : ∀ (l : List MkF) (c : Option Int), (pk c l).Sublist l
 | [], _ => .slnil
 | m :: l, c => by
  simp only [pk]
  split
  ·exact (wck l _).cons_cons m
  ·exact (wck l c).cons m
theorem wfi (o : List Int) (ds : List (List Int)) (a b : Int) : (waa o ds a b).Pairwise fun x y => x.1.1 < y.1.1 ∧ y.1.2 < x.1.2 := by
 have h1 := wkw (wal leM (marksOf o ds a b)) none
 have h2 : (waa o ds a b).Pairwise fun x y => leM x y = true := (wau leM_to (marksOf o ds a b)).sublist (wck _ _)
 refine (h1.and h2).imp fun {x y} h => ?_
 have := wav.1 h.2
 omega
theorem wzx {l : List MkF} (hs : Srt leM l) {m : MkF} (hm : m ∈ l) : ∃ q ∈ pk none l, q.1.1 ≤ m.1.1 ∧ q.1.2 ≤ m.1.2 := by
 obtain ⟨A, B, rfl⟩ := List.append_of_mem hm
 have hA : ∀ x ∈ A ++ [m], leM x m = true := fun x hx => by
  rcases List.mem_append.1 hx with hx | hx
  ·exact (List.pairwise_append.1 hs).2.2 x hx m List.mem_cons_self
  ·rw [List.mem_singleton.1 hx, wav]; omega
 have e : A ++ m :: B = (A ++ [m]) ++ B := by simp
 rw [e, wiy]
 obtain ⟨l1, l2, _⟩ := wcu (A ++ [m]) none
 have hle : ∃ c, low none (A ++ [m]) = some c ∧ c ≤ m.1.2 := by
  have : ∀ (A : List MkF) (c : Option Int), ∃ d, low c (A ++ [m]) = some d ∧ d ≤ m.1.2 := by
   intro A
   induction A with
   | nil =>
    intro c
    simp only [List.nil_append, low]
    split
    next => exact ⟨_, rfl, Int.le_refl _⟩
    next h =>
     cases c with
     | none => exact absurd rfl h
     | some c => exact ⟨c, rfl, by simpa [wch] using h⟩
   | cons x A ih =>
    intro c
    simp only [List.cons_append, low]
    split
    ·exact ih _
    ·exact ih _
  exact this A none
 obtain ⟨c, hc, hcm⟩ := hle
 rcases l2 with l2 | ⟨q, hq, l2⟩
 ·rw [l2] at hc; cases hc
 ·refine ⟨q, List.mem_append_left _ hq, ?_⟩
  rw [l2] at hc
  have hq1 := wav.1 (hA q (wax _ _ q hq).1)
  have := Option.some.inj hc
  omega
theorem wey {o : List Int} {ds : List (List Int)} {a b : Int} {s : List Int} (hs : s ∈ setsOf o.length) : ∃ q ∈ waa o ds a b, q.1.1 ≤ valueOf o ds s a ∧ q.1.2 ≤ valueOf o ds s b := by
 have hm : (((valueOf o ds s a, valueOf o ds s b), s) : MkF) ∈ wal leM (marksOf o ds a b) := (wek _).mem_iff.2 (List.mem_map.2 ⟨s, hs, rfl⟩)
 exact wzx (wau leM_to _) hm
end Go.Proofs.YtnagpmhaddfgmaaGreat
