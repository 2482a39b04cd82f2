/-
 Plain laws: pairs with the greatest distance, and farthest places.
-/
import Derived.Test.YtnagpmhaddfgmaaGreatP33
import Derived.Test.YtnagpmhaddfgmaaGreatP8
namespace Go.Proofs.YtnagpmhaddfgmaaGreat
theorem wsz {α : Type} (g : Int → α → Int) {c : Int} : ∀ (l : List α) (b : Int), (∀ a i, i ∈ l → c ≤ a → c ≤ g a i) → c ≤ b → c ≤ l.foldl g b
 | [], _, _, h => h
 | x :: l, b, hg, h => wsz g l _ (fun a i hi => hg a i (List.mem_cons_of_mem _ hi)) (hg b x List.mem_cons_self h)
theorem wapa {m : List (List Int)} {s : List Int} {c b : Int} (h : ∀ i j, i < s.length → j < i → c ≤ at2 m (pl s i) (pl s j)) (hb : c ≤ b) : c ≤ wcj m s b :=
 wsz _ _ _ (fun a i hi ha => wsz _ _ _ (fun a' j hj ha' => by
  have := h i j (List.mem_range.1 hi) (List.mem_range.1 hj)
  show c ≤ min a' _
  omega) ha) hb
theorem wyy {m : List (List Int)} (hm : Ground m) {s : List Int} (hs : Places s m.length) : 0 ≤ wcj m s 100 ∧ wcj m s 100 ≤ 100 :=
 ⟨wapa (fun i j hi hj => (hm.in (hs.pl hi).2 (hs.pl (show j < s.length by omega)).2).1) (by omega), wdc _ (fun a i => wdc _ (fun a j => by omega) _ _) _ _⟩
def wom (n : Nat) : List (List Int) := (List.range n).flatMap fun i => (List.range (n - (i + 1))).map fun k => [(i : Int), ((i + 1 + k : Nat) : Int)]
theorem wadv : ∀ n : Nat, n ≤ 7 → wie n 2 = wom n
 | 0, _ => by kernel_rfl
 | 1, _ => by kernel_rfl
 | 2, _ => by kernel_rfl
 | 3, _ => by kernel_rfl
 | 4, _ => by kernel_rfl
 | 5, _ => by kernel_rfl
 | 6, _ => by kernel_rfl
 | 7, _ => by kernel_rfl
 | n + 8, h => by omega
theorem wagl : ∀ n : Nat, 2 ≤ n → n ≤ 7 → ∃ r, wom n = [(0 : Int), 1] :: r
 | 0, h, _ => by omega
 | 1, h, _ => by omega
 | 2, _, _ => ⟨_, rfl⟩
 | 3, _, _ => ⟨_, rfl⟩
 | 4, _, _ => ⟨_, rfl⟩
 | 5, _, _ => ⟨_, rfl⟩
 | 6, _, _ => ⟨_, rfl⟩
 | 7, _, _ => ⟨_, rfl⟩
 | n + 8, _, h => by omega
theorem wyz {g : List Int → Int} (a : List Int) : ∀ l : List (List Int), l.foldl (fun b s => if g s < g b then s else b) a = waj g (a :: l) := by
 have key : ∀ (n : Nat) (l : List (List Int)), l.length = n → l.foldl (fun b s => if g s < g b then s else b) a = waj g (a :: l) := by
  intro n
  induction n with
  | zero =>
   intro l hl
   have : l = [] := List.eq_nil_of_length_eq_zero hl
   subst this
   rw [wel]
   rfl
  | succ n ih =>
   intro l hl
   obtain ⟨l', s, rfl⟩ : ∃ l' s, l = l' ++ [s] := ⟨l.dropLast, l.getLast (fun e => by rw [e] at hl; simp at hl), (List.dropLast_concat_getLast _).symm⟩
   have h1 := ih l' (by simpa using hl)
   rw [List.foldl_append, h1, List.foldl_cons, List.foldl_nil, ← List.cons_append, wfj (by simp)]
 exact fun l => key l.length l rfl
theorem wagm {g : List Int → Int} {l r : List (List Int)} {a : List Int} (h : l = a :: r) : l.foldl (fun b s => if g s < g b then s else b) a = waj g l := by
 subst h
 rw [List.foldl_cons, ite_self, wyz]
theorem wpr {α β σ : Type} (f : σ → β → σ) (h : α → List β) : ∀ (l : List α) (s : σ), (l.flatMap h).foldl f s = l.foldl (fun s a => (h a).foldl f s) s
 | [], s => rfl
 | a :: l, s => by rw [List.flatMap_cons, List.foldl_append, List.foldl_cons, wpr f h l]
theorem wjl {m : List (List Int)} (hm : Ground m) {i j : Nat} (hi : i < m.length) (hj : j < m.length) : wcj m [(i : Int), (j : Int)] 100 = at2 m i j := by
 have h1 : wcj m [(i : Int), (j : Int)] 100 = min 100 (at2 m j i) := rfl
 have h2 := hm.in hi hj
 rw [h1, hm.sym _ _ hj hi]
 omega
def wem (m : List (List Int)) (out : List Int) (a : Nat) : Int := out.foldl (fun w b => min w (at2 m a b.toNat)) 99
def wdg (m : List (List Int)) (out : List Int) : Int :=
 (List.range m.length).foldl (fun (best : Int) (a : Nat) => bif out.contains (a : Int) then best else if best < 0 ∨ wem m out best.toNat < wem m out a then (a : Int) else best) (-1)
theorem wbma {m : List (List Int)} {out : List Int} {a : Nat} : wem m out a ≤ 99 := wdc _ (fun a i => by omega) _ _
theorem wapb {m : List (List Int)} (hm : Ground m) {out : List Int} {a : Nat} (ha : a < m.length) (ho : ∀ x ∈ out, 0 ≤ x ∧ x < (m.length : Int)) : 0 ≤ wem m out a := by
 have key : ∀ (l : List Int) (w : Int), (∀ x ∈ l, 0 ≤ x ∧ x < (m.length : Int)) → 0 ≤ w → 0 ≤ l.foldl (fun w b => min w (at2 m a b.toNat)) w := by
  intro l
  induction l with
  | nil => intro w _ h; exact h
  | cons x l ih =>
   intro w hl hw
   have hx := hl x List.mem_cons_self
   have := hm.in ha (show x.toNat < m.length by omega)
   exact ih _ (fun y hy => hl y (List.mem_cons_of_mem _ hy)) (show 0 ≤ min w (at2 m a x.toNat) by omega)
 exact key out 99 ho (by omega)
theorem wjm {m : List (List Int)} {out : List Int} {a : Nat} {b : Int} (hb : b ∈ out) : wem m out a ≤ at2 m a b.toNat :=
 wfl (fun w (b : Int) => min w (at2 m a b.toNat)) (fun a i => by omega) hb (fun w => by show min w _ ≤ _; omega) 99
theorem wvu : ∀ (n : Nat) (l : List Int), (∀ a, a < n → (a : Int) ∈ l) → n ≤ l.length
 | 0, _, _ => Nat.zero_le _
 | n + 1, l, h => by
  have h1 := h n (Nat.lt_succ_self n)
  have h2 := wvu n (l.erase (n : Int)) fun a ha => (List.mem_erase_of_ne (by omega)).2 (h a (by omega))
  have h3 := List.length_erase_of_mem h1
  have h4 : 0 < l.length := List.length_pos_of_mem h1
  omega
def FarI (m : List (List Int)) (out : List Int) (i : Nat) (b : Int) : Prop :=
 (b = -1 ∧ ∀ a, a < i → (a : Int) ∈ out) ∨ ∃ q : Nat, b = (q : Int) ∧ q < i ∧ (q : Int) ∉ out ∧ ∀ a, a < i → (a : Int) ∉ out → wem m out a ≤ wem m out q
theorem won {m : List (List Int)} {out : List Int} {i : Nat} {b : Int} (h : FarI m out i b) :
  FarI m out (i + 1) (bif out.contains (i : Int) then b else if b < 0 ∨ wem m out b.toNat < wem m out i then (i : Int) else b) := by
 cases hc : out.contains (i : Int) with
 | true =>
  have hi : (i : Int) ∈ out := by simpa using hc
  rw [cond_true]
  rcases h with ⟨rfl, h⟩ | ⟨q, rfl, h1, h2, h3⟩
  ·exact .inl ⟨rfl, fun a ha => by
    by_cases e : a = i
    ·rw [e]; exact hi
    ·exact h a (by omega)⟩
  ·exact .inr ⟨q, rfl, by omega, h2, fun a ha hn => by
    by_cases e : a = i
    ·rw [e] at hn; exact absurd hi hn
    ·exact h3 a (by omega) hn⟩
 | false =>
  have hi : (i : Int) ∉ out := by simpa using hc
  rw [cond_false]
  rcases h with ⟨rfl, h⟩ | ⟨q, rfl, h1, h2, h3⟩
  ·rw [if_pos (.inl (by omega))]
   exact .inr ⟨i, rfl, by omega, hi, fun a ha hn => by
    by_cases e : a = i
    ·rw [e]; exact Int.le_refl _
    ·exact absurd (h a (by omega)) hn⟩
  ·rw [Int.toNat_natCast]
   by_cases hq : wem m out q < wem m out i
   ·rw [if_pos (.inr hq)]
    exact .inr ⟨i, rfl, by omega, hi, fun a ha hn => by
     by_cases e : a = i
     ·rw [e]; exact Int.le_refl _
     ·have := h3 a (by omega) hn; omega⟩
   ·rw [if_neg (by omega)]
    exact .inr ⟨q, rfl, by omega, h2, fun a ha hn => by
     by_cases e : a = i
     ·rw [e]; omega
     ·exact h3 a (by omega) hn⟩
theorem wly (m : List (List Int)) (out : List Int) : ∀ i : Nat, FarI m out i ((List.range i).foldl (fun (best : Int) (a : Nat) => bif out.contains (a : Int) then best else if best < 0 ∨ wem m out best.toNat < wem m out a then (a : Int) else best) (-1))
 | 0 => .inl ⟨rfl, fun a ha => absurd ha (Nat.not_lt_zero a)⟩
 | i + 1 => by
  rw [wau]
  exact won (wly m out i)
theorem wgq {m : List (List Int)} {out : List Int} (hl : out.length < m.length) : ∃ q : Nat, wdg m out = (q : Int) ∧ q < m.length ∧ (q : Int) ∉ out ∧ ∀ a, a < m.length → (a : Int) ∉ out → wem m out a ≤ wem m out q := by
 rcases wly m out m.length with ⟨_, h⟩ | ⟨q, h1, h2, h3, h4⟩
 ·have := wvu m.length out h
  omega
 ·exact ⟨q, h1, h2, h3, h4⟩
def wbp (m : List (List Int)) (k : Nat) : List Int := (List.range k).foldl (fun out _ => out ++ [wdg m out]) (waj (fun s => -wcj m s 100) (wie m.length 2))
structure FarL (m : List (List Int)) (k : Nat) (out : List Int) : Prop where
 len : out.length = k
 mem : ∀ x ∈ out, 0 ≤ x ∧ x < (m.length : Int)
theorem FarL.snoc {m : List (List Int)} {k : Nat} {out : List Int} (h : FarL m k out) (hk : k < m.length) : FarL m (k + 1) (out ++ [wdg m out]) := by
 obtain ⟨q, e, h1, h2, _⟩ := wgq (m := m) (out := out) (by rw [h.len]; exact hk)
 refine ⟨by simp [h.len], fun x hx => ?_⟩
 rcases List.mem_append.1 hx with h3 | h3
 ·exact h.mem x h3
 ·rw [List.mem_singleton.1 h3, e]
  omega
end Go.Proofs.YtnagpmhaddfgmaaGreat
