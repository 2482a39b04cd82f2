/-
 Plain laws: numbers put into lists and taken out of them; which edits of an atlas may be made (the reference's side).
-/
import Derived.Test.YtnagpmhaddfgmaaGreatP8
import Derived.Test.YtnagpmhaddfgmaaGreatP10
import Derived.Test.YtnagpmhaddfgmaaGreatPC
namespace Go.Proofs.YtnagpmhaddfgmaaGreat
theorem wfm {x y : Int} : ∀ {l : List Int}, y ∈ ins x l ↔ y = x ∨ y ∈ l
 | [] => by simp [ins]
 | a :: l => by
  simp only [ins]
  split
  ·rw [List.mem_cons, wfm (l := l), List.mem_cons]
   constructor
   ·rintro (h | h | h) <;> simp [h]
   ·rintro (h | h | h) <;> simp [h]
  ·simp [List.mem_cons]
theorem wtd (x : Int) : ∀ l : List Int, (ins x l).length = l.length + 1
 | [] => rfl
 | a :: l => by
  simp only [ins]
  split
  ·simp [wtd x l]
  ·simp
theorem wwq {x : Int} : ∀ {l : List Int}, l.Pairwise (· < ·) → x ∉ l → (ins x l).Pairwise (· < ·)
 | [], _, _ => by simp [ins]
 | a :: l, h, hx => by
  obtain ⟨h1, h2⟩ := List.pairwise_cons.1 h
  rw [List.mem_cons, not_or] at hx
  simp only [ins]
  split
  next hle =>
   refine List.pairwise_cons.2 ⟨fun y hy => ?_, wwq h2 hx.2⟩
   rcases wfm.1 hy with e | hy
   ·have := hx.1; omega
   ·exact h1 y hy
  next hle =>
   refine List.pairwise_cons.2 ⟨fun y hy => ?_, h⟩
   rcases List.mem_cons.1 hy with e | hy
   ·omega
   ·have := h1 y hy; omega
theorem wwr : ∀ {l : List Int} {a b : Int}, l.Pairwise (· < ·) → (∀ x ∈ l, a ≤ x ∧ x < b) → l.length ≤ (b - a).toNat
 | [], _, _, _, _ => by simp
 | x :: l, a, b, h, hb => by
  obtain ⟨h1, h2⟩ := List.pairwise_cons.1 h
  have ih := wwr (l := l) (a := x + 1) (b := b) h2 fun y hy => ⟨by have := h1 y hy; omega, (hb y (List.mem_cons_of_mem _ hy)).2⟩
  have := hb x (by simp)
  simp only [List.length_cons]
  omega
def ris (n : Nat) (s : List Int) : Prop := (∀ x ∈ s, 0 ≤ x ∧ x < (n : Int)) ∧ s.Pairwise (· < ·)
theorem wgl {n : Nat} {s : List Int} : wch s 0 ((n : Int) - 1) = true ↔ ris n s := by
 rw [wpf]
 exact ⟨fun h => ⟨fun x hx => by have := h.1 x hx; omega, h.2⟩, fun h => ⟨fun x hx => by have := h.1 x hx; omega, h.2⟩⟩
theorem ris.len {n : Nat} {s : List Int} (h : ris n s) : s.length ≤ n := by
 have := wwr h.2 h.1
 omega
theorem ris.low {n : Nat} {s : List Int} (h : ris n s) (hn : n ≤ 7) : wdp s := by
 have := h.len
 unfold wdp
 omega
theorem ris.places {n : Nat} {s : List Int} (h : ris n s) (hn : n ≤ 7) : Places s n := Places.of (h.low hn) (wgl.2 h)
theorem ris.ins {n : Nat} {s : List Int} (h : ris n s) {a : Int} (h0 : 0 ≤ a) (ha : a < (n : Int)) (hx : a ∉ s) : ris n (ins a s) :=
 ⟨fun x hx => by
  rcases wfm.1 hx with e | hx
  ·omega
  ·exact h.1 x hx, wwq h.2 hx⟩
theorem ris.filter {n : Nat} {s : List Int} (h : ris n s) (p : Int → Bool) : ris n (s.filter p) :=
 ⟨fun x hx => h.1 x (List.mem_filter.1 hx).1, h.2.filter p⟩
theorem wlb {l : List Int} (hl : l.length ≤ 1000000) (x : Int) : wsi l x = some (l.contains x) := by
 have hs : wani (l, x) 0 = _ := wdl (f := fun v => (won (l, x) v).ev) (l := l) 0 (fun y => y == x) (mk := fun i => (i : Int)) (yes := fun _ => .inr ()) (no := .inl ()) (fun i hi => by
  simp (disch := omega) only [EV, won, hi]
  cases (l.getD i 0 == x) <;> rfl) (by simp (disch := omega) only [EV, won, Nat.lt_irrefl])
 unfold wsi wbhf
 simp (disch := omega) only [EV, hs]
 have e : l.contains x = l.any fun y => y == x := by
  rw [List.contains_eq_any_beq]
  congr 1
  funext y
  exact Bool.beq_comm
 rw [e]
 have h2 := whw (l := l) (q := fun y => y == x)
 cases h : l.findIdx? fun y => y == x with
 | none =>
  rw [h] at h2
  have h3 : (l.any fun y => y == x) = false := by
   rw [Bool.eq_false_iff]
   exact fun h4 => by have := h2.1 h4; simp at this
  rw [h3]
  rfl
 | some i =>
  rw [h] at h2
  rw [h2.2 rfl]
  rfl
theorem wte {l : List Int} {x : Int} (hl : l.length ≤ 100) (hx : x ∉ l) : wzj l x = some (ins x l) := by
 have h := wdl (f := fun v => (wkn (l, x) v).ev) (l := l) 0 (fun y => !decide (y ≤ x)) (mk := fun i => (i : Int)) (yes := fun i => (i : Int)) (no := (l.length : Int))
  (fun i hi => by
   have hne : l.getD i 0 ≠ x := fun e => hx (e ▸ getD_mem hi)
   by_cases hlt : l.getD i 0 < x
   ·have hle : l.getD i 0 ≤ x := by omega
    simp (disch := omega) only [EV, wkn, hi, hlt, hle]
    rfl
   ·have hle : ¬ l.getD i 0 ≤ x := by omega
    simp (disch := omega) only [EV, wkn, hi, hlt, hle])
  (by simp (disch := omega) only [EV, wkn, Nat.lt_irrefl])
 have h0 : wzi (l, x) 0 = some ((((l.findIdx? fun y => !decide (y ≤ x)).elim l.length id : Nat) : Int)) := by
  have h1 : wzi (l, x) 0 = _ := h
  rw [h1]
  cases l.findIdx? fun y => !decide (y ≤ x) <;> rfl
 have hi := wafh x l
 have hle : (l.findIdx? fun y => !decide (y ≤ x)).elim l.length id ≤ l.length := by
  cases hf : l.findIdx? fun y => !decide (y ≤ x) with
  | none => exact Nat.le_refl _
  | some j =>
   obtain ⟨hj, _⟩ := List.findIdx?_eq_some_iff_getElem.1 hf
   exact Nat.le_of_lt hj
 generalize (l.findIdx? fun y => !decide (y ≤ x)).elim l.length id = i at h0 hi hle
 have hfin : List.drop 0 (List.take i l) ++ [x] ++ List.drop i (List.take l.length l) = ins x l := by
  rw [List.take_length, List.drop_zero, ← hi]
  simp
 have hlen : (List.drop 0 (List.take i l)).length ≤ 100 := by simp; omega
 have hlen2 : (List.drop i (List.take l.length l)).length ≤ 100 := by simp; omega
 have g1 : (decide (0 ≤ (i : Int)) && decide ((i : Int) ≤ ((l.length : Nat) : Int))) = true := by
  rw [decide_eq_true (by omega), decide_eq_true (by omega)]
  rfl
 unfold wzj wbhn
 rw [Tr.ev_c, h0, Option.bind_some]
 by_cases hlt : i < l.length
 ·have hne : (l.getD i 0 == x) = false := beq_eq_false_iff_ne.2 fun e => hx (e ▸ getD_mem hlt)
  simp (disch := omega) only [EV, hlt, hne, List.nil_append, List.length_nil, List.length_append, List.length_cons, hle]
  rw [g1, cond_true, cond_true, if_pos (by omega), if_pos (by omega), if_pos (by omega)]
  exact congrArg some hfin
 ·simp (disch := omega) only [EV, hlt, List.nil_append, List.length_nil, List.length_append, List.length_cons, hle]
  rw [g1, cond_true, cond_true, if_pos (by omega), if_pos (by omega), if_pos (by omega)]
  exact congrArg some hfin
theorem waai {l : List Int} (h : l.length ≤ 1048576) : wkh l = some l := by
 have h1 : (0 + l.length) * 8 ≤ 140737488355328 := by omega
 unfold wkh waun
 simp (disch := omega) only [EV, List.length_nil, List.nil_append, h1]
theorem waaj {l : List Int} (hl : l.length ≤ 1000000) (a : Int) : wawn l a = some (l.filter fun x => x != a) := by
 have h := (wez (f := fun v => (wks (l, a) v).ev) l 0 (mk := fun i (s : List Int) => ((i : Int), s)) (I := fun i s => s.length ≤ i) (g := fun s x => if x != a then s ++ [x] else s) (fin := fun s => s) (s0 := []) (Nat.le_refl _)
  (fun i s hi hs => by
   have r1 := wpz s (l.getD i 0) (by omega)
   cases hb : (l.getD i 0 != a) with
   | true =>
    refine ⟨?_, by simp; omega⟩
    simp (disch := omega) only [EV, wks, hi, hb, r1]
    rfl
   | false =>
    refine ⟨?_, by simp; omega⟩
    simp (disch := omega) only [EV, wks, hi, hb]
    rfl)
  (fun s _ => by simp (disch := omega) only [EV, wks, Nat.lt_irrefl])).1
 have key : ∀ (l acc : List Int), l.foldl (fun s x => if x != a then s ++ [x] else s) acc = acc ++ l.filter fun x => x != a := by
  intro l
  induction l with
  | nil => intro acc; simp
  | cons x l ih =>
   intro acc
   rw [List.foldl_cons, ih, List.filter_cons]
   cases (x != a) <;> simp
 have h0 : wzl (l, a) (0, []) = some (l.filter fun x => x != a) := by
  have h1 : wzl (l, a) (0, []) = _ := h
  rw [h1, key]
  rfl
 unfold wawn wbik
 simp (disch := omega) only [EV, h0]
end Go.Proofs.YtnagpmhaddfgmaaGreat
