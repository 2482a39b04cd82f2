/-
 Plain laws: the front of a list of marks, found in the stable order of their points, or mark by mark.
-/
import Derived.Test.YtnagpmhaddfgmaaGreatP61
namespace Go.Proofs.YtnagpmhaddfgmaaGreat
abbrev MkF := ((Int) × (Int)) × (List (Int))
def leM (x y : MkF) : Bool := decide (x.1.1 < y.1.1) || (decide (x.1.1 = y.1.1) && decide (x.1.2 ≤ y.1.2))
theorem wav {x y : MkF} : leM x y = true ↔ x.1.1 < y.1.1 ∨ (x.1.1 = y.1.1 ∧ x.1.2 ≤ y.1.2) := by simp [leM]
theorem wen {x y : MkF} : leM x y = false ↔ y.1.1 < x.1.1 ∨ (x.1.1 = y.1.1 ∧ y.1.2 < x.1.2) := by
 rw [← Bool.not_eq_true, wav]; omega
theorem leM_to : TO leM := ⟨fun x y h => by rw [wen] at h; rw [wav]; omega, fun x y z h1 h2 => by rw [wav] at *; omega⟩
def wch (c : Option Int) (n : Int) : Bool := match c with
 | none => true
 | some c => decide (n < c)
def pk : Option Int → List MkF → List MkF
 | _, [] => []
 | c, m :: l => if wch c m.1.2 = true then m :: pk (some m.1.2) l else pk c l
def low : Option Int → List MkF → Option Int
 | c, [] => c
 | c, m :: l => if wch c m.1.2 = true then low (some m.1.2) l else low c l
theorem wiy : ∀ (A B : List MkF) (c : Option Int), pk c (A ++ B) = pk c A ++ pk (low c A) B
 | [], _, _ => rfl
 | m :: A, B, c => by
  simp only [List.cons_append, pk, low]
  split
  ·rw [wiy A B]; rfl
  ·rw [wiy A B]
theorem wax : ∀ (l : List MkF) (c : Option Int), ∀ q ∈ pk c l, q ∈ l ∧ wch c q.1.2 = true
 | [], _, _, h => by cases h
 | m :: l, c, q, h => by
  simp only [pk] at h
  split at h
  next hu =>
   rcases List.mem_cons.1 h with rfl | h
   ·exact ⟨List.mem_cons_self, hu⟩
   ·obtain ⟨h1, h2⟩ := wax l _ q h
    refine ⟨List.mem_cons_of_mem _ h1, ?_⟩
    cases c with
    | none => rfl
    | some c =>
     simp only [wch, decide_eq_true_eq] at hu h2 ⊢
     omega
  next => exact ⟨List.mem_cons_of_mem _ (wax l c q h).1, (wax l c q h).2⟩
theorem wcu : ∀ (A : List MkF) (c : Option Int), (∀ q ∈ pk c A, ∃ d, low c A = some d ∧ d ≤ q.1.2) ∧ (low c A = c ∨ ∃ q ∈ pk c A, low c A = some q.1.2) ∧ (∀ n, wch (low c A) n = true → wch c n = true)
 | [], c => ⟨(fun q h => by cases h), .inl rfl, fun n h => h⟩
 | m :: A, c => by
  simp only [pk, low]
  split
  next hu =>
   obtain ⟨h1, h2, h3⟩ := wcu A (some m.1.2)
   have hd : ∃ d, low (some m.1.2) A = some d ∧ d ≤ m.1.2 := by
    rcases h2 with h2 | ⟨q, hq, h2⟩
    ·exact ⟨_, h2, Int.le_refl _⟩
    ·refine ⟨_, h2, ?_⟩
     have := (wax A _ q hq).2
     simp only [wch, decide_eq_true_eq] at this
     omega
   refine ⟨fun q hq => ?_, .inr ?_, fun n hn => ?_⟩
   ·rcases List.mem_cons.1 hq with rfl | hq
    ·exact hd
    ·exact h1 q hq
   ·rcases h2 with h2 | ⟨q, hq, h2⟩
    ·exact ⟨m, List.mem_cons_self, h2⟩
    ·exact ⟨q, List.mem_cons_of_mem _ hq, h2⟩
   ·have := h3 n hn
    cases c with
    | none => rfl
    | some c =>
     simp only [wch, decide_eq_true_eq] at hu this ⊢
     omega
  next => exact wcu A c
theorem weo (d : Int) : ∀ (B : List MkF) (c : Option Int), (∀ n, n < d → wch c n = true) → pk (some d) B = (pk c B).filter fun q => decide (q.1.2 < d)
 | [], _, _ => rfl
 | m :: B, c, h => by
  simp only [pk]
  by_cases hd : m.1.2 < d
  ·rw [if_pos (by simp [wch, hd]), if_pos (h _ hd), List.filter_cons, if_pos (by simp [hd])]
   congr 1
   refine (List.filter_eq_self.2 fun q hq => ?_).symm
   have := (wax B _ q hq).2
   simp only [wch, decide_eq_true_eq] at this ⊢
   omega
  ·rw [if_neg (by simp [wch, hd])]
   split
   next hu =>
    rw [List.filter_cons, if_neg (by simp [hd])]
    exact weo d B _ fun n hn => by simp only [wch, decide_eq_true_eq]; omega
   next => exact weo d B c h
def domM (x q : MkF) : Bool := decide (x.1.1 ≤ q.1.1) && decide (x.1.2 ≤ q.1.2) && !decide (x.1 = q.1)
def wfa (x : MkF) : Bool → List MkF → List MkF
 | p, [] => if p = true then [] else [x]
 | p, q :: F => if domM x q = true then wfa x p F else if p = false ∧ x.1.1 < q.1.1 then x :: q :: wfa x true F else q :: wfa x p F
def wpf (F : List MkF) (x : MkF) : List MkF := if F.any (fun q => decide (q.1.1 ≤ x.1.1) && decide (q.1.2 ≤ x.1.2)) = true then F else wfa x false F
theorem wiz (x : MkF) : ∀ (A F : List MkF), (∀ q ∈ A, domM x q = false ∧ ¬ x.1.1 < q.1.1) → wfa x false (A ++ F) = A ++ wfa x false F
 | [], _, _ => rfl
 | q :: A, F, h => by
  obtain ⟨h1, h2⟩ := h q List.mem_cons_self
  simp only [List.cons_append, wfa, h1]
  rw [if_neg (by simp), if_neg (by simp [h2]), wiz x A F fun y hy => h y (List.mem_cons_of_mem _ hy)]
theorem wabp {x q : MkF} (h : leM q x = false) : domM x q = !decide (q.1.2 < x.1.2) := by
 rw [wen] at h
 unfold domM
 by_cases hq : q.1.2 < x.1.2
 ·have h2 : ¬ x.1.2 ≤ q.1.2 := by omega
  simp [hq, h2]
 ·have h1 : x.1.1 ≤ q.1.1 := by omega
  have h2 : x.1.2 ≤ q.1.2 := by omega
  have h3 : ¬ x.1 = q.1 := fun e => by
   rw [e] at h
   omega
  simp [hq, h1, h2, h3]
theorem wep {x : MkF} : ∀ F : List MkF, (∀ q ∈ F, leM q x = false) → wfa x true F = F.filter fun q => decide (q.1.2 < x.1.2)
 | [], _ => rfl
 | q :: F, h => by
  have hd := wabp (h q List.mem_cons_self)
  simp only [wfa, hd, List.filter_cons]
  by_cases hq : q.1.2 < x.1.2
  ·simp [hq, wep F fun y hy => h y (List.mem_cons_of_mem _ hy)]
  ·simp [hq, wep F fun y hy => h y (List.mem_cons_of_mem _ hy)]
theorem wfh {x : MkF} : ∀ F : List MkF, (∀ q ∈ F, leM q x = false) → wfa x false F = x :: F.filter fun q => decide (q.1.2 < x.1.2)
 | [], _ => rfl
 | q :: F, h => by
  have hl := h q List.mem_cons_self
  have hd := wabp hl
  rw [wen] at hl
  simp only [wfa, hd, List.filter_cons]
  by_cases hq : q.1.2 < x.1.2
  ·have : x.1.1 < q.1.1 := by omega
   simp [hq, this, wep F fun y hy => h y (List.mem_cons_of_mem _ hy)]
  ·simp [hq, wfh F fun y hy => h y (List.mem_cons_of_mem _ hy)]
theorem wja {x : MkF} : ∀ l : List MkF, Srt leM l → ∃ A B, l = A ++ B ∧ waq leM x l = A ++ x :: B ∧ (∀ a ∈ A, leM a x = true) ∧ ∀ b ∈ B, leM b x = false
 | [], _ => ⟨[], [], rfl, rfl, (fun _ h => by cases h), fun _ h => by cases h⟩
 | a :: l, h => by
  have h' := List.pairwise_cons.1 h
  cases hax : leM a x with
  | true =>
   obtain ⟨A, B, e1, e2, e3, e4⟩ := wja l h'.2
   refine ⟨a :: A, B, by rw [e1]; rfl, by simp only [waq, hax, e2, List.cons_append], fun b hb => ?_, e4⟩
   rcases List.mem_cons.1 hb with rfl | hb
   ·exact hax
   ·exact e3 b hb
  | false =>
   refine ⟨[], a :: l, rfl, by simp only [waq, hax, List.nil_append], (fun _ h => by cases h), fun b hb => ?_⟩
   rcases List.mem_cons.1 hb with rfl | hb
   ·exact hax
   ·cases hbx : leM b x with
    | false => rfl
    | true =>
     have := leM_to.tr _ _ _ (h'.1 b hb) hbx
     rw [hax] at this
     cases this
theorem wart {s : List MkF} (hs : Srt leM s) (x : MkF) : pk none (waq leM x s) = wpf (pk none s) x := by
 obtain ⟨A, B, rfl, e, hA, hB⟩ := wja (x := x) s hs
 rw [e, wiy, wiy]
 obtain ⟨l1, l2, _⟩ := wcu A none
 by_cases hu : wch (low none A) x.1.2 = true
 ·
  have hany : ((pk none A ++ pk (low none A) B).any fun q => decide (q.1.1 ≤ x.1.1) && decide (q.1.2 ≤ x.1.2)) = false := by
   rw [List.any_eq_false]
   intro q hq
   rcases List.mem_append.1 hq with hq | hq
   ·obtain ⟨d, e1, e2⟩ := l1 q hq
    rw [e1] at hu
    simp only [wch, decide_eq_true_eq] at hu
    simp only [Bool.and_eq_true, decide_eq_true_eq]
    omega
   ·have := hB q (wax B _ q hq).1
    rw [wen] at this
    simp only [Bool.and_eq_true, decide_eq_true_eq]
    omega
  unfold wpf
  rw [hany, if_neg (by simp), wiz, wfh]
  ·simp only [pk]
   rw [if_pos hu]
   congr 2
   refine weo x.1.2 B _ fun n hn => ?_
   cases hc : low none A with
   | none => rfl
   | some c =>
    rw [hc] at hu
    simp only [wch, decide_eq_true_eq] at hu ⊢
    omega
  ·exact fun q hq => hB q (wax B _ q hq).1
  ·intro q hq
   obtain ⟨d, e1, e2⟩ := l1 q hq
   rw [e1] at hu
   simp only [wch, decide_eq_true_eq] at hu
   have := wav.1 (hA q (wax A _ q hq).1)
   refine ⟨?_, by omega⟩
   unfold domM
   have : ¬ (x.1.1 ≤ q.1.1 ∧ x.1.2 ≤ q.1.2) := by omega
   by_cases h1 : x.1.1 ≤ q.1.1
   ·simp [show ¬ x.1.2 ≤ q.1.2 by omega]
   ·simp [h1]
 ·
  have hx : pk (low none A) (x :: B) = pk (low none A) B := by
   simp only [pk]
   rw [if_neg hu]
  rw [hx]
  unfold wpf
  rw [if_pos]
  rw [List.any_eq_true]
  rcases l2 with l2 | ⟨q, hq, l2⟩
  ·rw [l2] at hu
   exact absurd rfl hu
  ·refine ⟨q, List.mem_append_left _ hq, ?_⟩
   rw [l2] at hu
   simp only [wch, decide_eq_true_eq] at hu
   have := wav.1 (hA q (wax A _ q hq).1)
   simp only [Bool.and_eq_true, decide_eq_true_eq]
   omega
theorem wpa (l : List MkF) : pk none (wal leM l) = l.foldl wpf [] := by
 have key : ∀ (l acc : List MkF), Srt leM acc → pk none (mrg leM acc l) = l.foldl wpf (pk none acc) := by
  intro l
  induction l with
  | nil => intro acc _; rfl
  | cons x l ih =>
   intro acc h
   rw [wae, ih _ (wcq leM_to h), wart h, List.foldl_cons]
 exact key l [] List.Pairwise.nil
end Go.Proofs.YtnagpmhaddfgmaaGreat
