/-
 Plain laws: sums; local openings in metric fields; greedy stars.
-/
import Derived.Test.YtnagpmhaddfgmaaGreatP47
namespace Go.Proofs.YtnagpmhaddfgmaaGreat
def wak {α : Type} : List α → (α → Int) → Int
 | [], _ => 0
 | x :: l, f => f x + wak l f
theorem wbw {α : Type} (f g : α → Int) : ∀ l : List α, wak l (fun x => f x + g x) = wak l f + wak l g
 | [] => rfl
 | x :: l => by simp only [wak]; rw [wbw f g l]; omega
theorem whb {α : Type} (c : Int) (f : α → Int) : ∀ l : List α, wak l (fun x => c * f x) = c * wak l f
 | [] => by simp [wak]
 | x :: l => by simp only [wak]; rw [whb c f l, Int.mul_add]
theorem wdd {α : Type} {f g : α → Int} : ∀ {l : List α}, (∀ x ∈ l, f x ≤ g x) → wak l f ≤ wak l g
 | [], _ => Int.le_refl _
 | x :: l, h => by
  have h1 := h x (by simp)
  have h2 := wdd (l := l) fun y hy => h y (List.mem_cons_of_mem _ hy)
  simp only [wak]; omega
theorem wbj {α : Type} {f g : α → Int} {l : List α} (h : ∀ x ∈ l, f x = g x) : wak l f = wak l g :=
 Int.le_antisymm (wdd fun x hx => by rw [h x hx]; exact Int.le_refl _) (wdd fun x hx => by rw [h x hx]; exact Int.le_refl _)
theorem wgo {α : Type} : ∀ l : List α, wak l (fun _ => 0) = 0
 | [] => rfl
 | _ :: l => by simp only [wak]; rw [wgo l]; rfl
theorem wbr {α : Type} {f : α → Int} {l : List α} (h : ∀ x ∈ l, 0 ≤ f x) : 0 ≤ wak l f := by
 have := wdd (f := fun _ => (0 : Int)) h
 rwa [wgo] at this
theorem wxe {α β : Type} (m : List β) (f : α → β → Int) : ∀ l : List α, wak l (fun x => wak m (f x)) = wak m fun y => wak l fun x => f x y
 | [] => by simp only [wak]; rw [wgo]
 | x :: l => by
  simp only [wak]
  rw [wxe m f l, ← wbw]
theorem wqy {α : Type} [DecidableEq α] {a : α} (c : Int) : ∀ {l : List α}, a ∉ l → wak l (fun x => if a = x then c else 0) = 0
 | [], _ => rfl
 | x :: l, h => by
  rw [List.mem_cons, not_or] at h
  simp only [wak]
  rw [if_neg h.1, wqy c h.2]
  rfl
theorem wpk {α : Type} [DecidableEq α] {a : α} (c : Int) : ∀ {l : List α}, l.Nodup → a ∈ l → wak l (fun x => if a = x then c else 0) = c
 | [], _, h => by cases h
 | x :: l, hn, h => by
  obtain ⟨h1, h2⟩ := List.nodup_cons.1 hn
  simp only [wak]
  rcases List.mem_cons.1 h with e | h
  ·subst e
   rw [if_pos rfl, wqy c h1, Int.add_zero]
  ·rw [if_neg (fun e : a = x => h1 (e ▸ h)), wpk c h2 h, Int.zero_add]
theorem wpm {α : Type} {f : α → Int} {a : α} : ∀ {l : List α}, (∀ x ∈ l, 0 ≤ f x) → a ∈ l → f a ≤ wak l f
 | [], _, h => by cases h
 | x :: l, h0, h => by
  have h1 := h0 x (by simp)
  have h2 := wbr (f := f) (l := l) fun y hy => h0 y (List.mem_cons_of_mem _ hy)
  simp only [wak]
  rcases List.mem_cons.1 h with e | h
  ·subst e; omega
  ·have := wpm (f := f) (fun y hy => h0 y (List.mem_cons_of_mem _ hy)) h
   omega
theorem wde {α β : Type} [DecidableEq α] {l : List α} (hn : l.Nodup) {m : List β} {w : β → α} (hw : ∀ y ∈ m, w y ∈ l) (g : β → Int) : wak l (fun x => wak m fun y => if w y = x then g y else 0) = wak m g := by
 rw [wxe m (fun x y => if w y = x then g y else 0)]
 exact wbj fun y hy => wpk _ hn (hw y hy)
theorem wafo {α : Type} (g : α → Int) : ∀ {l : List α}, l ≠ [] → ∃ x ∈ l, ∀ y ∈ l, g x ≤ g y
 | [], h => absurd rfl h
 | [x], _ => ⟨x, by simp, fun y hy => by rw [List.mem_singleton.1 hy]; exact Int.le_refl _⟩
 | x :: z :: l, _ => by
  obtain ⟨u, hu, hm⟩ := wafo g (l := z :: l) (by simp)
  by_cases h : g x ≤ g u
  ·exact ⟨x, by simp, fun y hy => by
    rcases List.mem_cons.1 hy with e | hy
    ·rw [e]; exact Int.le_refl _
    ·exact Int.le_trans h (hm y hy)⟩
  ·exact ⟨u, List.mem_cons_of_mem _ hu, fun y hy => by
    rcases List.mem_cons.1 hy with e | hy
    ·rw [e]; omega
    ·exact hm y hy⟩
section
variable {J S O : List Nat} {f : Nat → Int} {d : Nat → Nat → Int} {σ ω : Nat → Nat}
theorem ways (hd : ∀ j ∈ J, ∀ a, 0 ≤ d j a) (P : Nat → Prop) (hm : ∀ i ∈ J, ∀ j ∈ J, ∀ a b, P a → P b → d i a ≤ d i b + d j b + d j a) : ∃ D : Nat → Nat → Int, (∀ a b, 0 ≤ D a b) ∧ (∀ a, D a a = 0) ∧ (∀ a b, D a b = D b a) ∧ (∀ j ∈ J, ∀ a b, D a b ≤ d j a + d j b) ∧ ∀ i ∈ J, ∀ a b, P a → P b → d i a ≤ d i b + D a b := by
 have key : ∀ a b : Nat, ∃ v : Int, 0 ≤ v ∧ (∀ j ∈ J, v ≤ d j a + d j b) ∧ ((a = b ∧ v = 0) ∨ (a ≠ b ∧ J = [] ∧ v = 0) ∨ (a ≠ b ∧ ∃ j ∈ J, v = d j a + d j b)) := fun a b => by
  by_cases e : a = b
  ·exact ⟨0, Int.le_refl _, fun j hj => by have := hd j hj a; have := hd j hj b; omega, .inl ⟨e, rfl⟩⟩
  ·by_cases h : J = []
   ·exact ⟨0, Int.le_refl _, fun j hj => (by rw [h] at hj; cases hj), .inr (.inl ⟨e, h, rfl⟩)⟩
   ·obtain ⟨j, hj, hmin⟩ := wafo (fun j => d j a + d j b) h
    exact ⟨_, by have := hd j hj a; have := hd j hj b; omega, hmin, .inr (.inr ⟨e, j, hj, rfl⟩)⟩
 obtain ⟨D, ch⟩ : ∃ D : Nat → Nat → Int, ∀ a b, 0 ≤ D a b ∧ (∀ j ∈ J, D a b ≤ d j a + d j b) ∧ ((a = b ∧ D a b = 0) ∨ (a ≠ b ∧ J = [] ∧ D a b = 0) ∨ (a ≠ b ∧ ∃ j ∈ J, D a b = d j a + d j b)) := ⟨fun a b => Classical.choose (key a b), fun a b => Classical.choose_spec (key a b)⟩
 refine ⟨D, fun a b => (ch a b).1, fun a => ?_, fun a b => ?_, fun j hj a b => (ch a b).2.1 j hj, fun i hi a b ha hb => ?_⟩
 ·rcases (ch a a).2.2 with h | h | h
  ·exact h.2
  ·exact absurd rfl h.1
  ·exact absurd rfl h.1
 ·obtain ⟨_, a2, a3⟩ := ch a b
  obtain ⟨_, b2, b3⟩ := ch b a
  rcases a3 with h | h | ⟨h0, j, hj, h⟩
  ·rcases b3 with k | k | k
   ·omega
   ·exact absurd h.1.symm k.1
   ·exact absurd h.1.symm k.1
  ·rcases b3 with k | k | ⟨_, j, hj, _⟩
   ·exact absurd k.1.symm h.1
   ·omega
   ·rw [h.2.1] at hj; cases hj
  ·have h4 := b2 j hj
   rcases b3 with k | k | ⟨_, i, hi, k⟩
   ·exact absurd k.1.symm h0
   ·rw [k.2.1] at hj; cases hj
   ·have := a2 i hi
    omega
 ·obtain ⟨_, _, h3⟩ := ch a b
  rcases h3 with h | h | ⟨_, j, hj, h⟩
  ·rw [h.2, h.1]; omega
  ·rw [h.2.1] at hi; cases hi
  ·have := hm i hi j hj a b ha hb
   omega
theorem wbpe (hf : ∀ a, 0 ≤ f a) (hd : ∀ j ∈ J, ∀ a, 0 ≤ d j a) (P : Nat → Prop) (hPS : ∀ a ∈ S, P a) (hPO : ∀ a ∈ O, P a) (hm : ∀ i ∈ J, ∀ j ∈ J, ∀ a b, P a → P b → d i a ≤ d i b + d j b + d j a)
  (hS : S.Nodup) (hO : O.Nodup) (hS0 : S ≠ []) (hO0 : O ≠ []) (hσ : ∀ j ∈ J, σ j ∈ S) (hω : ∀ j ∈ J, ω j ∈ O) (hmin : ∀ j ∈ J, ∀ a ∈ S, d j (σ j) ≤ d j a)
  (add : ∀ o ∈ O, o ∉ S → ∀ r : Nat → Nat, (∀ j ∈ J, r j ∈ S ∨ r j = o) → wak J (fun j => d j (σ j)) ≤ f o + wak J fun j => d j (r j))
  (drop : ∀ s ∈ S, (∃ t ∈ S, t ≠ s) → ∀ r : Nat → Nat, (∀ j ∈ J, r j ∈ S ∧ r j ≠ s) → f s + wak J (fun j => d j (σ j)) ≤ wak J fun j => d j (r j))
  (swap : ∀ s ∈ S, ∀ o ∈ O, o ∉ S → ∀ r : Nat → Nat, (∀ j ∈ J, (r j ∈ S ∧ r j ≠ s) ∨ r j = o) → f s + wak J (fun j => d j (σ j)) ≤ f o + wak J fun j => d j (r j)) :
  wak S f + wak J (fun j => d j (σ j)) ≤ 3 * (wak O f + wak J fun j => d j (ω j)) := by
 have c1 : wak J (fun j => d j (σ j)) ≤ wak O f + wak J fun j => d j (ω j) := by
  have h1 : ∀ o ∈ O, wak J (fun j => if ω j = o then d j (σ j) else 0) ≤ f o + wak J fun j => if ω j = o then d j (ω j) else 0 := fun o ho => by
   by_cases hoS : o ∈ S
   ·have h2 : wak J (fun j => if ω j = o then d j (σ j) else 0) ≤ wak J fun j => if ω j = o then d j (ω j) else 0 := wdd fun j hj => by
     by_cases e : ω j = o
     ·rw [if_pos e, if_pos e, e]; exact hmin j hj o hoS
     ·rw [if_neg e, if_neg e]; exact Int.le_refl _
    have := hf o
    omega
   ·have h2 := add o ho hoS (fun j => if ω j = o then o else σ j) fun j hj => by
     by_cases e : ω j = o
     ·rw [if_pos e]; exact .inr rfl
     ·rw [if_neg e]; exact .inl (hσ j hj)
    have e1 : wak J (fun j => d j (σ j)) = wak J (fun j => if ω j = o then d j (σ j) else 0) + wak J fun j => if ω j = o then 0 else d j (σ j) := by
     rw [← wbw]
     exact wbj fun j _ => by by_cases e : ω j = o <;> simp [e]
    have e2 : wak J (fun j => d j (if ω j = o then o else σ j)) = wak J (fun j => if ω j = o then d j (ω j) else 0) + wak J fun j => if ω j = o then 0 else d j (σ j) := by
     rw [← wbw]
     exact wbj fun j _ => by by_cases e : ω j = o <;> simp [e]
    omega
  have h2 := wdd h1
  rw [wde hO hω (fun j => d j (σ j)), wbw, wde hO hω (fun j => d j (ω j))] at h2
  exact h2
 obtain ⟨D, D0, Dr, Ds, Du, Dl⟩ := ways hd P hm
 have hφ : ∀ o : Nat, ∃ s ∈ S, (o ∈ S → s = o) ∧ ∀ t ∈ S, D o s ≤ D o t := fun o => by
  by_cases h : o ∈ S
  ·exact ⟨o, h, fun _ => rfl, fun t _ => by rw [Dr]; exact D0 o t⟩
  ·obtain ⟨s, h1, h2⟩ := wafo (D o) hS0
   exact ⟨s, h1, fun h' => absurd h' h, h2⟩
 have φs := fun o => Classical.choose_spec (hφ o)
 generalize hφd : (fun o => Classical.choose (hφ o)) = φ
 have φ1 : ∀ o, φ o ∈ S := fun o => by rw [← hφd]; exact (φs o).1
 have φ2 : ∀ o, o ∈ S → φ o = o := fun o => by rw [← hφd]; exact (φs o).2.1
 have φ3 : ∀ o, ∀ t ∈ S, D o (φ o) ≤ D o t := fun o => by rw [← hφd]; exact (φs o).2.2
 -- a client that goes on to the place next to its own one
 have go : ∀ j ∈ J, d j (φ (ω j)) ≤ d j (σ j) + 2 * d j (ω j) := fun j hj => by
  have h1 := Dl j hj _ _ (hPS _ (φ1 (ω j))) (hPO _ (hω j hj))
  have h2 := φ3 (ω j) (σ j) (hσ j hj)
  have h3 := Du j hj (ω j) (σ j)
  rw [Ds] at h1
  omega
 have each : ∀ s ∈ S, f s ≤ wak O (fun o => if φ o = s then f o else 0) + wak J fun j => if σ j = s then 2 * d j (ω j) else 0 := fun s hs => by
  have n1 : 0 ≤ wak J fun j => if σ j = s then 2 * d j (ω j) else 0 := wbr fun j hj => by
   have := hd j hj (ω j)
   by_cases e : σ j = s
   ·rw [if_pos e]; omega
   ·rw [if_neg e]; exact Int.le_refl _
  by_cases hsO : s ∈ O
  ·have h1 := wpm (f := fun o => if φ o = s then f o else 0) (l := O) (fun o _ => by
    have := hf o
    by_cases e : φ o = s
    ·rw [if_pos e]; exact this
    ·rw [if_neg e]; exact Int.le_refl _) hsO
   simp only [φ2 s hs, if_true] at h1
   omega
  ·by_cases hex : ∃ o ∈ O, φ o = s
   ·
    have hne : O.filter (fun o => decide (φ o = s)) ≠ [] := fun h0 => by
     obtain ⟨o, h1, h2⟩ := hex
     have : o ∈ O.filter (fun o => decide (φ o = s)) := List.mem_filter.2 ⟨h1, by simpa using h2⟩
     rw [h0] at this
     cases this
    obtain ⟨o', h1, h2⟩ := wafo (D s) hne
    have ho' : o' ∈ O ∧ φ o' = s := by
     have := List.mem_filter.1 h1
     exact ⟨this.1, by simpa using this.2⟩
    have hnear : ∀ o ∈ O, φ o = s → D s o' ≤ D s o := fun o a b => h2 o (List.mem_filter.2 ⟨a, by simpa using b⟩)
    have hout : ∀ o ∈ O, φ o = s → o ∉ S := fun o a b c => hsO (by rw [← b, φ2 o c]; exact a)
    have hadd : ∀ o ∈ O, 0 ≤ (if φ o = s then (if o = o' then 0 else f o) else 0) + wak J fun j => if ω j = o then (if σ j = s ∧ φ (ω j) = s ∧ ω j ≠ o' then d j (ω j) - d j (σ j) else 0) else 0 := fun o ho => by
     by_cases e1 : φ o = s
     ·by_cases e2 : o = o'
      ·rw [if_pos e1, if_pos e2]
       have : wak J (fun j => if ω j = o then (if σ j = s ∧ φ (ω j) = s ∧ ω j ≠ o' then d j (ω j) - d j (σ j) else 0) else 0) = 0 := by
        refine Eq.trans (wbj (g := fun _ => 0) fun j _ => ?_) (wgo J)
        by_cases e : ω j = o
        ·rw [if_pos e, if_neg (fun h => h.2.2 (e.trans e2))]
        ·rw [if_neg e]
       omega
      ·rw [if_pos e1, if_neg e2]
       have h3 := add o ho (hout o ho e1) (fun j => if σ j = s ∧ ω j = o then o else σ j) fun j hj => by
        by_cases e : σ j = s ∧ ω j = o
        ·rw [if_pos e]; exact .inr rfl
        ·rw [if_neg e]; exact .inl (hσ j hj)
       have h4 : wak J (fun j => d j (if σ j = s ∧ ω j = o then o else σ j)) = wak J (fun j => d j (σ j)) + wak J fun j => if ω j = o then (if σ j = s ∧ φ (ω j) = s ∧ ω j ≠ o' then d j (ω j) - d j (σ j) else 0) else 0 := by
        rw [← wbw]
        refine wbj fun j _ => ?_
        by_cases e3 : ω j = o
        ·rw [if_pos e3]
         by_cases e4 : σ j = s
         ·rw [if_pos ⟨e4, e3⟩, if_pos ⟨e4, by rw [e3]; exact e1, by rw [e3]; exact e2⟩, e3]; omega
         ·rw [if_neg (fun h => e4 h.1), if_neg (fun h => e4 h.1), Int.add_zero]
        ·rw [if_neg (fun h => e3 h.2), if_neg e3, Int.add_zero]
       omega
     ·rw [if_neg e1]
      have : wak J (fun j => if ω j = o then (if σ j = s ∧ φ (ω j) = s ∧ ω j ≠ o' then d j (ω j) - d j (σ j) else 0) else 0) = 0 := by
       refine Eq.trans (wbj (g := fun _ => 0) fun j _ => ?_) (wgo J)
       by_cases e : ω j = o
       ·rw [if_pos e, if_neg (fun h => e1 (e ▸ h.2.1))]
       ·rw [if_neg e]
      omega
    have hall := wbr hadd
    rw [wbw, wde hO hω (fun j => if σ j = s ∧ φ (ω j) = s ∧ ω j ≠ o' then d j (ω j) - d j (σ j) else 0)] at hall
    have hsw := swap s hs o' ho'.1 (hout o' ho'.1 ho'.2) (fun j => if σ j = s then (if φ (ω j) = s then o' else φ (ω j)) else σ j) fun j hj => by
     by_cases e1 : σ j = s
     ·by_cases e2 : φ (ω j) = s
      ·rw [if_pos e1, if_pos e2]; exact .inr rfl
      ·rw [if_pos e1, if_neg e2]; exact .inl ⟨φ1 _, e2⟩
     ·rw [if_neg e1]; exact .inl ⟨hσ j hj, e1⟩
    have hpt : wak J (fun j => d j (if σ j = s then (if φ (ω j) = s then o' else φ (ω j)) else σ j) + if σ j = s ∧ φ (ω j) = s ∧ ω j ≠ o' then d j (ω j) - d j (σ j) else 0) ≤ wak J fun j => d j (σ j) + if σ j = s then 2 * d j (ω j) else 0 := wdd fun j hj => by
     have p0 := hd j hj (ω j)
     have p1 := hd j hj (σ j)
     by_cases e1 : σ j = s
     ·by_cases e2 : φ (ω j) = s
      ·by_cases e3 : ω j = o'
       ·rw [if_pos e1, if_pos e2, if_neg (fun h => h.2.2 e3), if_pos e1, e3]
        rw [e3] at p0
        omega
       ·rw [if_pos e1, if_pos e2, if_pos ⟨e1, e2, e3⟩, if_pos e1]
        have q1 := Dl j hj o' s (hPO _ ho'.1) (hPS _ hs)
        have q2 := hnear (ω j) (hω j hj) e2
        have q3 := Du j hj s (ω j)
        rw [Ds] at q1
        rw [e1] at p1 ⊢
        omega
      ·rw [if_pos e1, if_neg e2, if_neg (fun h => e2 h.2.1), if_pos e1]
       have := go j hj
       omega
     ·rw [if_neg e1, if_neg (fun h => e1 h.1), if_neg e1]; exact Int.le_refl _
    rw [wbw, wbw] at hpt
    have hsum : wak O (fun o => if φ o = s then (if o = o' then 0 else f o) else 0) + f o' = wak O fun o => if φ o = s then f o else 0 := by
     rw [← wpk (f o') hO ho'.1, ← wbw]
     refine wbj fun o _ => ?_
     by_cases e : o' = o
     ·subst e; rw [if_pos ho'.2, if_pos rfl, if_pos rfl, if_pos ho'.2, Int.zero_add]
     ·have e' : o ≠ o' := fun h => e h.symm
      rw [if_neg e, if_neg e', Int.add_zero]
    omega
   ·obtain ⟨o0, rest, hOe⟩ : ∃ o0 rest, O = o0 :: rest := by
     cases O with
     | nil => exact absurd rfl hO0
     | cons a l => exact ⟨a, l, rfl⟩
    have hno : ∀ o ∈ O, φ o ≠ s := fun o ho e => hex ⟨o, ho, e⟩
    have hdr := drop s hs ⟨φ o0, φ1 o0, hno o0 (by rw [hOe]; simp)⟩ (fun j => if σ j = s then φ (ω j) else σ j) fun j hj => by
     by_cases e : σ j = s
     ·rw [if_pos e]; exact ⟨φ1 _, hno _ (hω j hj)⟩
     ·rw [if_neg e]; exact ⟨hσ j hj, e⟩
    have hpt : wak J (fun j => d j (if σ j = s then φ (ω j) else σ j)) ≤ wak J fun j => d j (σ j) + if σ j = s then 2 * d j (ω j) else 0 := wdd fun j hj => by
     by_cases e : σ j = s
     ·rw [if_pos e, if_pos e]; exact go j hj
     ·rw [if_neg e, if_neg e, Int.add_zero]; exact Int.le_refl _
    rw [wbw] at hpt
    have n2 : 0 ≤ wak O fun o => if φ o = s then f o else 0 := wbr fun o _ => by
     have := hf o
     by_cases e : φ o = s
     ·rw [if_pos e]; exact this
     ·rw [if_neg e]; exact Int.le_refl _
    omega
 have c2 := wdd each
 rw [wbw, wde hS (fun o _ => φ1 o) f, wde hS hσ (fun j => 2 * d j (ω j)), whb] at c2
 have n1 : 0 ≤ wak O f := wbr fun o _ => hf o
 omega
end
def harm : Nat → Int
 | 0 => 0
 | n + 1 => harm n + 420 / ((n + 1 : Nat) : Int)
theorem wpn : ∀ (k n : Nat), harm n ≤ harm (n + k)
 | 0, _ => Int.le_refl _
 | k + 1, n => by
  have h1 := wpn k n
  have h2 : 0 ≤ 420 / ((n + k + 1 : Nat) : Int) := Int.ediv_nonneg (by omega) (by omega)
  show harm n ≤ harm (n + k) + 420 / ((n + k + 1 : Nat) : Int)
  omega
def wbwb : Bool := (List.range 8).all fun n => (List.range 8).all fun k => decide (n + k = 0) || decide (7 < n + k) || decide ((k : Int) * (420 / ((n + k : Nat) : Int)) ≤ harm (n + k) - harm n)
theorem warj {n k : Nat} (h0 : 0 < n + k) (h7 : n + k ≤ 7) : (k : Int) * (420 / ((n + k : Nat) : Int)) ≤ harm (n + k) - harm n := by
 have h : wbwb = true := by decide
 have h1 := List.all_eq_true.1 (List.all_eq_true.1 h n (List.mem_range.2 (by omega))) k (List.mem_range.2 (by omega))
 rw [Bool.or_eq_true, Bool.or_eq_true, decide_eq_true_eq, decide_eq_true_eq, decide_eq_true_eq] at h1
 omega
theorem wbwc : ∀ n : Nat, 0 < n → n ≤ 7 → (n : Int) * (420 / (n : Int)) = 420
 | 0, h, _ => by omega
 | 1, _, _ => rfl
 | 2, _, _ => rfl
 | 3, _, _ => rfl
 | 4, _, _ => rfl
 | 5, _, _ => rfl
 | 6, _, _ => rfl
 | 7, _, _ => rfl
 | n + 8, _, h => by omega
def weo (w : Nat → Nat) (l : List Nat) (o : Nat) : Nat := l.countP fun j => decide (w j = o)
theorem wazs {O : List Nat} (hO : O.Nodup) {w : Nat → Nat} : ∀ {T : List Nat}, (∀ j ∈ T, w j ∈ O) → wak O (fun o => (weo w T o : Int)) = (T.length : Int) := fun {T} h => by
 have h1 : ∀ (T : List Nat) (o : Nat), (weo w T o : Int) = wak T fun j => if w j = o then 1 else 0 := fun T o => by
  induction T with
  | nil => rfl
  | cons j T ih =>
   unfold weo at ih ⊢
   rw [List.countP_cons, wak, ← ih]
   by_cases e : w j = o
   ·simp [e]; omega
   ·simp [e]
 have h2 : ∀ T : List Nat, wak T (fun _ => (1 : Int)) = (T.length : Int) := fun T => by
  induction T with
  | nil => rfl
  | cons j T ih => rw [wak, ih, List.length_cons]; omega
 rw [wbj (g := fun o => wak T fun j => if w j = o then 1 else 0) fun o _ => h1 T o, wde hO h (fun _ => 1), h2]
theorem wark {O : List Nat} (hO : O.Nodup) {w : Nat → Nat} {L T L' : List Nat} (hT : T ≠ []) (hw : ∀ j ∈ T, w j ∈ O) (hn : ∀ o ∈ O, weo w L o = weo w L' o + weo w T o) (h7 : ∀ o ∈ O, weo w L o ≤ 7)
  {A : Nat → Int} (hA : ∀ o ∈ O, 0 ≤ A o) {c : Int} (hc : 0 ≤ c) (hmin : ∀ o ∈ O, 0 < weo w L o → c * (weo w L o : Int) ≤ A o * (T.length : Int)) :
  420 * c + wak O (fun o => A o * harm (weo w L' o)) ≤ wak O fun o => A o * harm (weo w L o) := by
 have ht : (0 : Int) < (T.length : Int) := by
  have := List.length_pos_iff.2 hT
  omega
 have h1 : ∀ o ∈ O, (420 * c) * (weo w T o : Int) + (T.length : Int) * (A o * harm (weo w L' o)) ≤ (T.length : Int) * (A o * harm (weo w L o)) := fun o ho => by
  have e := hn o ho
  have h7' := h7 o ho
  by_cases h0 : 0 < weo w L o
  ·have hm := hmin o ho h0
   have hs := warj (n := weo w L' o) (k := weo w T o) (by omega) (by omega)
   rw [← e] at hs
   have hd := wbwc (weo w L o) h0 h7'
   have ha := hA o ho
   generalize weo w L o = n at *
   generalize weo w L' o = n' at *
   generalize weo w T o = k at *
   generalize hq : 420 / (n : Int) = q at *
   have hq0 : 0 ≤ q := by rw [← hq]; exact Int.ediv_nonneg (by omega) (by omega)
   have m1 : (T.length : Int) * (A o) * ((k : Int) * q) ≤ (T.length : Int) * (A o) * (harm n - harm n') := Int.mul_le_mul_of_nonneg_left hs (Int.mul_nonneg (by omega) ha)
   have m2 : c * (n : Int) * ((k : Int) * q) ≤ A o * (T.length : Int) * ((k : Int) * q) := Int.mul_le_mul_of_nonneg_right hm (Int.mul_nonneg (by omega) hq0)
   have e2 : c * (n : Int) * ((k : Int) * q) = 420 * c * (k : Int) := by
    rw [← hd]
    simp only [Int.mul_assoc, Int.mul_comm, Int.mul_left_comm]
   have e3 : A o * (T.length : Int) * ((k : Int) * q) = (T.length : Int) * (A o) * ((k : Int) * q) := by rw [Int.mul_comm (A o)]
   have e4 : (T.length : Int) * (A o) * (harm n - harm n') = (T.length : Int) * (A o * harm n) - (T.length : Int) * (A o * harm n') := by
    rw [Int.mul_sub, Int.mul_assoc, Int.mul_assoc]
   omega
  ·have e1 : weo w L o = 0 := by omega
   have e2 : weo w L' o = 0 := by omega
   have e3 : weo w T o = 0 := by omega
   rw [e1, e2, e3]
   simp
 have h2 := wdd h1
 rw [wbw, whb, whb, whb, wazs hO hw] at h2
 have h3 : (T.length : Int) * (420 * c + wak O fun o => A o * harm (weo w L' o)) ≤ (T.length : Int) * wak O fun o => A o * harm (weo w L o) := by
  rw [Int.mul_add, Int.mul_comm (T.length : Int) (420 * c)]
  exact h2
 exact Int.le_of_mul_le_mul_left h3 ht
theorem wjd {α : Type} (g : α → Int) (a : α) : ∀ (l : List α) (k : Nat), (∀ y ∈ l, g a ≤ g y) → k < l.length → g a + wak (l.take k) g ≤ wak (l.take (k + 1)) g
 | [], k, _, hk => by simp at hk
 | y :: l, 0, hy, _ => by have := hy y (by simp); simp only [List.take_zero, List.take_succ_cons, wak]; omega
 | y :: l, k + 1, hy, hk => by
  have := wjd g a l k (fun z hz => hy z (List.mem_cons_of_mem _ hz)) (by simpa using hk)
  simp only [List.take_succ_cons, wak] at this ⊢
  omega
theorem waap {α : Type} (g : α → Int) {l u : List α} (hp : l.Pairwise (fun x y => g x ≤ g y)) (hs : u.Sublist l) : wak (l.take u.length) g ≤ wak u g := by
 induction hs with
 | slnil => exact Int.le_refl _
 | @cons u l a hs ih =>
  obtain ⟨h1, h2⟩ := List.pairwise_cons.1 hp
  have ih := ih h2
  have hl := hs.length_le
  cases u with
  | nil => exact Int.le_refl _
  | cons x u =>
   simp only [List.length_cons] at hl ih ⊢
   have := wjd g a l u.length h1 (by omega)
   simp only [List.take_succ_cons, wak] at ih ⊢
   omega
 | @cons_cons u l a hs ih =>
  obtain ⟨_, h2⟩ := List.pairwise_cons.1 hp
  have ih := ih h2
  simp only [List.length_cons, List.take_succ_cons, wak]
  omega
end Go.Proofs.YtnagpmhaddfgmaaGreat
