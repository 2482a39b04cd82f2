/-
 Plain laws: numbers put into lists and taken out of them; which edits of an atlas may be made (the reference's side).
-/
import Derived.Test.YtnagpmhaddfgmaaGreatP8
import Derived.Test.YtnagpmhaddfgmaaGreatP10
import Derived.Test.YtnagpmhaddfgmaaGreatPC
namespace Go.Proofs.YtnagpmhaddfgmaaGreat
theorem eins_mem {x y : Int} : ∀ {l : List Int}, y ∈ ins x l ↔ y = x ∨ y ∈ l
 | [] => by simp [ins]
 | a :: l => by
  simp only [ins]
  split
  ·rw [List.mem_cons, eins_mem (l := l), List.mem_cons]
   constructor
   ·rintro (h | h | h) <;> simp [h]
   ·rintro (h | h | h) <;> simp [h]
  ·simp [List.mem_cons]
theorem eins_len (x : Int) : ∀ l : List Int, (ins x l).length = l.length + 1
 | [] => rfl
 | a :: l => by
  simp only [ins]
  split
  ·simp [eins_len x l]
  ·simp
theorem eins_rise {x : Int} : ∀ {l : List Int}, l.Pairwise (· < ·) → x ∉ l → (ins x l).Pairwise (· < ·)
 | [], _, _ => by simp [ins]
 | a :: l, h, hx => by
  obtain ⟨h1, h2⟩ := List.pairwise_cons.1 h
  rw [List.mem_cons, not_or] at hx
  simp only [ins]
  split
  next hle =>
   refine List.pairwise_cons.2 ⟨fun y hy => ?_, eins_rise h2 hx.2⟩
   rcases eins_mem.1 hy with e | hy
   ·have := hx.1; omega
   ·exact h1 y hy
  next hle =>
   refine List.pairwise_cons.2 ⟨fun y hy => ?_, h⟩
   rcases List.mem_cons.1 hy with e | hy
   ·omega
   ·have := h1 y hy; omega
theorem erise_len : ∀ {l : List Int} {a b : Int}, l.Pairwise (· < ·) → (∀ x ∈ l, a ≤ x ∧ x < b) → l.length ≤ (b - a).toNat
 | [], _, _, _, _ => by simp
 | x :: l, a, b, h, hb => by
  obtain ⟨h1, h2⟩ := List.pairwise_cons.1 h
  have ih := erise_len (l := l) (a := x + 1) (b := b) h2 fun y hy => ⟨by have := h1 y hy; omega, (hb y (List.mem_cons_of_mem _ hy)).2⟩
  have := hb x (by simp)
  simp only [List.length_cons]
  omega
def ris (n : Nat) (s : List Int) : Prop := (∀ x ∈ s, 0 ≤ x ∧ x < (n : Int)) ∧ s.Pairwise (· < ·)
theorem ris_iff {n : Nat} {s : List Int} : risingB s 0 ((n : Int) - 1) = true ↔ ris n s := by
 rw [risingB_iff]
 exact ⟨fun h => ⟨fun x hx => by have := h.1 x hx; omega, h.2⟩, fun h => ⟨fun x hx => by have := h.1 x hx; omega, h.2⟩⟩
theorem ris.len {n : Nat} {s : List Int} (h : ris n s) : s.length ≤ n := by
 have := erise_len h.2 h.1
 omega
theorem ris.low {n : Nat} {s : List Int} (h : ris n s) (hn : n ≤ 7) : Low1 s := by
 have := h.len
 unfold Low1
 omega
theorem ris.places {n : Nat} {s : List Int} (h : ris n s) (hn : n ≤ 7) : Places s n := Places.of (h.low hn) (ris_iff.2 h)
theorem ris.ins {n : Nat} {s : List Int} (h : ris n s) {a : Int} (h0 : 0 ≤ a) (ha : a < (n : Int)) (hx : a ∉ s) : ris n (ins a s) :=
 ⟨fun x hx => by
  rcases eins_mem.1 hx with e | hx
  ·omega
  ·exact h.1 x hx, eins_rise h.2 hx⟩
theorem ris.filter {n : Nat} {s : List Int} (h : ris n s) (p : Int → Bool) : ris n (s.filter p) :=
 ⟨fun x hx => h.1 x (List.mem_filter.1 hx).1, h.2.filter p⟩
theorem ehas_eq {l : List Int} (hl : l.length ≤ 1000000) (x : Int) : wba l x = some (l.contains x) := by
 have hs : wgs (l, x) 0 = _ := iter_forE (f := fun v => (waz (l, x) v).ev) (l := l) 0 (fun y => y == x) (mk := fun i => (i : Int)) (yes := fun _ => .inr ()) (no := .inl ()) (fun i hi => by
  simp (disch := omega) only [EV, waz, hi]
  cases (l.getD i 0 == x) <;> rfl) (by simp (disch := omega) only [EV, waz, Nat.lt_irrefl])
 unfold wba wqk
 simp (disch := omega) only [EV, hs]
 have e : l.contains x = l.any fun y => y == x := by
  rw [List.contains_eq_any_beq]
  congr 1
  funext y
  exact Bool.beq_comm
 rw [e]
 have h2 := findIdx_any (l := l) (q := fun y => y == x)
 cases h : l.findIdx? fun y => y == x with
 | none =>
  rw [h] at h2
  have h3 : (l.any fun y => y == x) = false := by
   rw [Bool.eq_false_iff]
   exact fun h4 => by have := h2.1 h4; simp at this
  rw [h3]
  rfl
 | some i =>
  rw [h] at h2
  rw [h2.2 rfl]
  rfl
theorem eput_eq {l : List Int} {x : Int} (hl : l.length ≤ 100) (hx : x ∉ l) : wci l x = some (ins x l) := by
 have h := iter_forE (f := fun v => (wae (l, x) v).ev) (l := l) 0 (fun y => !decide (y ≤ x)) (mk := fun i => (i : Int)) (yes := fun i => (i : Int)) (no := (l.length : Int))
  (fun i hi => by
   have hne : l.getD i 0 ≠ x := fun e => hx (e ▸ getD_mem hi)
   by_cases hlt : l.getD i 0 < x
   ·have hle : l.getD i 0 ≤ x := by omega
    simp (disch := omega) only [EV, wae, hi, hlt, hle]
    rfl
   ·have hle : ¬ l.getD i 0 ≤ x := by omega
    simp (disch := omega) only [EV, wae, hi, hlt, hle])
  (by simp (disch := omega) only [EV, wae, Nat.lt_irrefl])
 have h0 : wdd (l, x) 0 = some ((((l.findIdx? fun y => !decide (y ≤ x)).elim l.length id : Nat) : Int)) := by
  have h1 : wdd (l, x) 0 = _ := h
  rw [h1]
  cases l.findIdx? fun y => !decide (y ≤ x) <;> rfl
 have hi := ins_find x l
 have hle : (l.findIdx? fun y => !decide (y ≤ x)).elim l.length id ≤ l.length := by
  cases hf : l.findIdx? fun y => !decide (y ≤ x) with
  | none => exact Nat.le_refl _
  | some j =>
   obtain ⟨hj, _⟩ := List.findIdx?_eq_some_iff_getElem.1 hf
   exact Nat.le_of_lt hj
 generalize (l.findIdx? fun y => !decide (y ≤ x)).elim l.length id = i at h0 hi hle
 have hfin : List.drop 0 (List.take i l) ++ [x] ++ List.drop i (List.take l.length l) = ins x l := by
  rw [List.take_length, List.drop_zero, ← hi]
  simp
 have hlen : (List.drop 0 (List.take i l)).length ≤ 100 := by simp; omega
 have hlen2 : (List.drop i (List.take l.length l)).length ≤ 100 := by simp; omega
 have g1 : (decide (0 ≤ (i : Int)) && decide ((i : Int) ≤ ((l.length : Nat) : Int))) = true := by
  rw [decide_eq_true (by omega), decide_eq_true (by omega)]
  rfl
 unfold wci wqs
 rw [Tr.ev_c, h0, Option.bind_some]
 by_cases hlt : i < l.length
 ·have hne : (l.getD i 0 == x) = false := beq_eq_false_iff_ne.2 fun e => hx (e ▸ getD_mem hlt)
  simp (disch := omega) only [EV, hlt, hne, List.nil_append, List.length_nil, List.length_append, List.length_cons, hle]
  rw [g1, cond_true, cond_true, if_pos (by omega), if_pos (by omega), if_pos (by omega)]
  exact congrArg some hfin
 ·simp (disch := omega) only [EV, hlt, List.nil_append, List.length_nil, List.length_append, List.length_cons, hle]
  rw [g1, cond_true, cond_true, if_pos (by omega), if_pos (by omega), if_pos (by omega)]
  exact congrArg some hfin
theorem eown_eq {l : List Int} (h : l.length ≤ 1048576) : wbx l = some l := by
 have h1 : (0 + l.length) * 8 ≤ 140737488355328 := by omega
 unfold wbx wqb
 simp (disch := omega) only [EV, List.length_nil, List.nil_append, h1]
theorem ewithout_eq {l : List Int} (hl : l.length ≤ 1000000) (a : Int) : wga l a = some (l.filter fun x => x != a) := by
 have h := (iter_foldl (f := fun v => (waf (l, a) v).ev) l 0 (mk := fun i (s : List Int) => ((i : Int), s)) (I := fun i s => s.length ≤ i) (g := fun s x => if x != a then s ++ [x] else s) (fin := fun s => s) (s0 := []) (Nat.le_refl _)
  (fun i s hi hs => by
   have r1 := room8 s (l.getD i 0) (by omega)
   cases hb : (l.getD i 0 != a) with
   | true =>
    refine ⟨?_, by simp; omega⟩
    simp (disch := omega) only [EV, waf, hi, hb, r1]
    rfl
   | false =>
    refine ⟨?_, by simp; omega⟩
    simp (disch := omega) only [EV, waf, hi, hb]
    rfl)
  (fun s _ => by simp (disch := omega) only [EV, waf, Nat.lt_irrefl])).1
 have key : ∀ (l acc : List Int), l.foldl (fun s x => if x != a then s ++ [x] else s) acc = acc ++ l.filter fun x => x != a := by
  intro l
  induction l with
  | nil => intro acc; simp
  | cons x l ih =>
   intro acc
   rw [List.foldl_cons, ih, List.filter_cons]
   cases (x != a) <;> simp
 have h0 : wde (l, a) (0, []) = some (l.filter fun x => x != a) := by
  have h1 : wde (l, a) (0, []) = _ := h
  rw [h1, key]
  rfl
 unfold wga wqx
 simp (disch := omega) only [EV, h0]
def cutAt {α : Type} (a : Int) (l : List α) : List α := l.take a.toNat ++ l.drop (a.toNat + 1)
theorem cutAt_len {α : Type} {a : Int} {l : List α} (h0 : 0 ≤ a) (h : a < (l.length : Int)) : (cutAt a l).length + 1 = l.length := by
 unfold cutAt
 rw [List.length_append, List.length_take, List.length_drop]
 omega
theorem cutAt_mem {α : Type} {a : Int} {l : List α} {x : α} (h : x ∈ cutAt a l) : x ∈ l := by
 rcases List.mem_append.1 h with h | h
 ·exact List.mem_of_mem_take h
 ·exact List.mem_of_mem_drop h
theorem ecut_eq {l : List Int} (hl : l.length ≤ 1000) {a : Int} (h0 : 0 ≤ a) (h : a < (l.length : Int)) : wgu l a = some (cutAt a l) := by
 have hw : IntKind.wrap .i64 (a + 1) = a + 1 := wrap64 (by omega) (by omega)
 have g1 : (decide (0 ≤ a) && decide (a ≤ ((l.length : Nat) : Int))) = true := by
  rw [decide_eq_true h0, decide_eq_true (by omega)]
  rfl
 have g2 : (decide (0 ≤ a + 1) && decide (a + 1 ≤ ((l.length : Nat) : Int))) = true := by
  rw [decide_eq_true (by omega), decide_eq_true (by omega)]
  rfl
 have e1 := eown_eq (l := List.drop 0 (List.take a.toNat l)) (by simp; omega)
 have ht : (a + 1).toNat = a.toNat + 1 := by omega
 have g3 : ((List.drop 0 (List.take a.toNat l)).length + (List.drop (a.toNat + 1) (List.take l.length l)).length) * 8 ≤ 140737488355328 := by
  simp
  omega
 unfold wgu wrb
 rw [Tr.ev_g, g1, cond_true, Tr.ev_c, e1, Option.bind_some, hw, Tr.ev_g, g2, cond_true, ht, Tr.ev_g, decide_eq_true g3, cond_true, Tr.ev_l]
 unfold cutAt
 rw [List.drop_zero, List.take_length]
def nilB (l : List Int) : Bool := ((List.length l : Nat) : Int) == 0
def plainB (k a b c : Int) (l : List Int) : Bool :=
 if k = 1 ∨ k = 2 ∨ k = 8 ∨ k = 9 then (b == 0) && ((c == 0) && nilB l)
 else if k = 3 ∨ k = 4 then (c == 0) && nilB l
 else if k = 5 then nilB l
 else if k = 6 then (b == 0) && (c == 0)
 else if k = 7 then (a == 0) && ((b == 0) && (c == 0))
 else if k = 10 ∨ k = 11 then (a == 0) && ((b == 0) && ((c == 0) && nilB l))
 else false
theorem ev_and {x y : Bool} : (Tr.t x (.l y) (.l false)).ev = some (x && y) := by cases x <;> rfl
theorem t_and {x y : Bool} {z : Tr Bool} (h : z.ev = some y) : (Tr.t x z (.l false)).ev = some (x && y) := by cases x <;> simp [h]
theorem eplain_eq (k a b c : Int) (l : List Int) : wkj k a b c l = some (plainB k a b c l) := by
 have e2 := ev_and (x := c == 0) (y := nilB l)
 have e3 := t_and (x := b == 0) (ev_and (x := c == 0) (y := nilB l))
 have e4 := t_and (x := a == 0) (t_and (x := b == 0) (ev_and (x := c == 0) (y := nilB l)))
 have e5 := t_and (x := a == 0) (ev_and (x := b == 0) (y := c == 0))
 by_cases h1 : k = 1
 ·subst h1; exact e3
 by_cases h2 : k = 2
 ·subst h2; exact e3
 by_cases h3 : k = 3
 ·subst h3; exact e2
 by_cases h4 : k = 4
 ·subst h4; exact e2
 by_cases h5 : k = 5
 ·subst h5; rfl
 by_cases h6 : k = 6
 ·subst h6; exact ev_and (x := b == 0) (y := c == 0)
 by_cases h7 : k = 7
 ·subst h7; exact e5
 by_cases h8 : k = 8
 ·subst h8; exact e3
 by_cases h9 : k = 9
 ·subst h9; exact e3
 by_cases h10 : k = 10
 ·subst h10; exact e4
 by_cases h11 : k = 11
 ·subst h11; exact e4
 have hp : plainB k a b c l = false := by
  unfold plainB
  rw [if_neg (by omega), if_neg (by omega), if_neg h5, if_neg h6, if_neg h7, if_neg (by omega)]
 rw [hp]
 unfold wkj wqh
 simp only [Tr.ev_t, Tr.ev_l, beq_eq_false_iff_ne.2 h1, beq_eq_false_iff_ne.2 h2, beq_eq_false_iff_ne.2 h3, beq_eq_false_iff_ne.2 h4, beq_eq_false_iff_ne.2 h5, beq_eq_false_iff_ne.2 h6, beq_eq_false_iff_ne.2 h7, beq_eq_false_iff_ne.2 h8, beq_eq_false_iff_ne.2 h9, beq_eq_false_iff_ne.2 h10, beq_eq_false_iff_ne.2 h11, cond_false]
def siteB (n : Nat) (a : Int) : Bool := isIn a 0 ((n : Int) - 1)
def closedB (n : Nat) (s : List Int) (a : Int) : Bool := siteB n a && !s.contains a
def mayB (n m : Nat) (s : List Int) (k a b : Int) (l : List Int) : Bool :=
 if k = 1 ∨ k = 8 then closedB n s a
 else if k = 2 then s.contains a
 else if k = 3 then s.contains a && closedB n s b
 else if k = 4 then siteB n a
 else if k = 5 then siteB m a && siteB n b
 else if k = 6 then ((l.length : Nat) : Int) == ((m : Nat) : Int)
 else if k = 9 then siteB m a
 else if k = 10 then decide ((0 : Int) < ((s.length : Nat) : Int))
 else true
theorem esite_eq {o : List Int} (ho : o.length ≤ 1000) (ds : List (List Int)) (a : Int) : wch o ds a = some (siteB o.length a) := by
 unfold wch wqj siteB
 simp (disch := omega) only [EV, l1In_eq]
theorem eclosed_eq {o s : List Int} (ho : o.length ≤ 1000) (hs : s.length ≤ 1000) (ds : List (List Int)) (c a : Int) : wdc o ds s c a = some (closedB o.length s a) := by
 unfold wdc wqo closedB
 simp (disch := omega) only [EV, esite_eq ho, ehas_eq (l := s) (by omega)]
 cases siteB o.length a <;> rfl
theorem emay_eq {o s : List Int} {ds : List (List Int)} (ho : o.length ≤ 1000) (hd : ds.length ≤ 1000) (hs : s.length ≤ 1000) (n k a b c : Int) (l : List Int) : wkl o ds s n k a b c l = some (mayB o.length ds.length s k a b l) := by
 have e1 := eclosed_eq ho hs ds n a
 have e2 := eclosed_eq ho hs ds n b
 have e3 := ehas_eq (l := s) (by omega) a
 have e4 := esite_eq ho ds a
 have e5 := esite_eq ho ds b
 have e6 : wac a 0 (IntKind.wrap .i64 (((ds.length : Nat) : Int) - 1)) = some (siteB ds.length a) := by rw [wrap64 (by omega) (by omega), l1In_eq]; rfl
 have c1 : ∀ x : Option Bool, ∀ y, x = some y → (Tr.c Bool x fun r => .l r).ev = some y := fun x y h => by rw [h]; rfl
 have c2 : ∀ x z : Option Bool, ∀ y u, x = some y → z = some u → (Tr.c Bool x fun r => .t r (Tr.c Bool z fun r => .l r) (.l false)).ev = some (y && u) := fun x z y u h h' => by rw [h, h']; cases y <;> rfl
 by_cases h1 : k = 1
 ·subst h1; exact c1 _ _ e1
 by_cases h2 : k = 2
 ·subst h2; exact c1 _ _ e3
 by_cases h3 : k = 3
 ·subst h3; exact c2 _ _ _ _ e3 e2
 by_cases h4 : k = 4
 ·subst h4; exact c1 _ _ e4
 by_cases h5 : k = 5
 ·subst h5; exact c2 _ _ _ _ e6 e5
 by_cases h6 : k = 6
 ·subst h6; rfl
 by_cases h8 : k = 8
 ·subst h8; exact c1 _ _ e1
 by_cases h9 : k = 9
 ·subst h9; exact c1 _ _ e6
 by_cases h10 : k = 10
 ·subst h10; rfl
 have hp : mayB o.length ds.length s k a b l = true := by
  unfold mayB
  rw [if_neg (by omega), if_neg h2, if_neg h3, if_neg h4, if_neg h5, if_neg h6, if_neg h9, if_neg h10]
 rw [hp]
 unfold wkl wqq
 simp only [Tr.ev_t, Tr.ev_l, beq_eq_false_iff_ne.2 h1, beq_eq_false_iff_ne.2 h2, beq_eq_false_iff_ne.2 h3, beq_eq_false_iff_ne.2 h4, beq_eq_false_iff_ne.2 h5, beq_eq_false_iff_ne.2 h6, beq_eq_false_iff_ne.2 h8, beq_eq_false_iff_ne.2 h9, beq_eq_false_iff_ne.2 h10, cond_false]
end Go.Proofs.YtnagpmhaddfgmaaGreat
