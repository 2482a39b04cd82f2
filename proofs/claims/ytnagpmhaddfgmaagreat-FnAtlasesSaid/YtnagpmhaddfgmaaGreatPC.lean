/-
 Plain laws: the cursor from which inputs are drawn.
-/
import Derived.Test.YtnagpmhaddfgmaaGreatPM
import Derived.Test.YtnagpmhaddfgmaaGreatP7
namespace Go.Proofs.YtnagpmhaddfgmaaGreat
open Go
def CK (B : Int) (l : List Int) (i : Int) : Prop := (∀ x ∈ l, 0 ≤ x ∧ x ≤ 255) ∧ l.length ≤ 100000 ∧ 0 ≤ i ∧ i ≤ B
theorem CK.mono {B B' : Int} {l : List Int} {i : Int} (h : CK B l i) (hb : B ≤ B') : CK B' l i := ⟨h.1, h.2.1, h.2.2.1, by have := h.2.2.2; omega⟩
theorem fitB {x : Int} (h : Fit (.int .u8) x) : 0 ≤ x ∧ x ≤ 255 := by
 have h : (Lit.int .u8 x).wf = true := h
 simp only [Lit.wf, Bool.and_eq_true, decide_eq_true_eq] at h
 have h1 : IntKind.u8.min = 0 := rfl
 have h2 : IntKind.u8.max = 255 := rfl
 omega
theorem wrap_u8 (n : Int) : 0 ≤ IntKind.wrap .u8 n ∧ IntKind.wrap .u8 n ≤ 255 := by
 have h : IntKind.wrap .u8 n = n % 256 := by
  unfold IntKind.wrap
  simp [IntKind.bits, IntKind.signed]
 rw [h]
 omega
theorem mask_in (A : BitVec (IntKind.bits .u64)) : 0 ≤ IntKind.wrap .i64 (IntKind.wrap .u64 ((BitVec.toNat (A &&& (BitVec.ofInt (IntKind.bits .u64) (255 : Int))) : Nat) : Int)) ∧ IntKind.wrap .i64 (IntKind.wrap .u64 ((BitVec.toNat (A &&& (BitVec.ofInt (IntKind.bits .u64) (255 : Int))) : Nat) : Int)) ≤ 255 := by
 have h1 : BitVec.toNat (A &&& (BitVec.ofInt (IntKind.bits .u64) (255 : Int))) ≤ 255 := by
  rw [BitVec.toNat_and]
  have h2 : (BitVec.ofInt (IntKind.bits .u64) (255 : Int)).toNat = 255 := by decide
  rw [h2]
  exact Nat.and_le_right
 generalize BitVec.toNat (A &&& (BitVec.ofInt (IntKind.bits .u64) (255 : Int))) = n at h1
 have h3 : IntKind.wrap .u64 ((n : Nat) : Int) = (n : Int) := by
  have h : IntKind.wrap .u64 ((n : Nat) : Int) = (n : Int) % 18446744073709551616 := by
   unfold IntKind.wrap
   simp [IntKind.bits, IntKind.signed]
  rw [h]
  omega
 rw [h3, wrap64 (by omega) (by omega)]
 omega
theorem next_ok {B : Int} {l : List Int} {i : Int} (c : Int) (h : CK B l i) (hB : B ≤ 1000000) : ∃ x i' c', wig l i c = some (x, (l, (i', c'))) ∧ 0 ≤ x ∧ x ≤ 255 ∧ CK (B + 1) l i' := by
 obtain ⟨h1, h2, h3, h4⟩ := h
 have hk : CK (B + 1) l (i + 1) := ⟨h1, h2, by omega, by omega⟩
 have e40 : (0 : Int) ≤ 40 := by omega
 unfold wig wrd
 by_cases k1 : i < ((l.length : Nat) : Int)
 ·have hx : 0 ≤ l.getD i.toNat 0 ∧ l.getD i.toNat 0 ≤ 255 := h1 _ (getD_mem (by omega))
  by_cases k2 : i + 1 ≤ ((l.length : Nat) : Int)
  ·simp (disch := omega) only [EV, k1, k2]
   exact ⟨_, _, _, rfl, by omega, by omega, hk⟩
  ·exact absurd k1 (by omega)
 ·by_cases k2 : i + 1 ≤ ((l.length : Nat) : Int)
  ·exact absurd k1 (by omega)
  ·simp only [Tr.ev_t, Tr.ev_g, Tr.ev_l, k1, decide_false, cond_false]
   rw [wrap64 (n := i + 1) (by omega) (by omega)]
   simp only [k2, e40, decide_false, decide_true, cond_false, cond_true]
   exact ⟨_, _, _, rfl, (mask_in _).1, (mask_in _).2, hk⟩
theorem pick_ok {B : Int} {l : List Int} {i : Int} (n c : Int) (h : CK B l i) (hB : B ≤ 999000) (hn : 1 ≤ n) : ∃ x i' c', ww n l i c = some (x, (l, (i', c'))) ∧ 0 ≤ x ∧ x < n ∧ CK (B + 2) l i' := by
 unfold ww wrf
 by_cases k0 : n ≤ 1
 ·simp (disch := omega) only [EV, k0]
  exact ⟨_, _, _, rfl, by omega, by omega, h.mono (by omega)⟩
 ·obtain ⟨x, i1, c1, e1, x0, x1, h1⟩ := next_ok c h (by omega)
  have nz : decide (n = 0) = false := by simp; omega
  by_cases k1 : (200 : Int) < n
  ·obtain ⟨y, i2, c2, e2, y0, y1, h2⟩ := next_ok c1 h1 (by omega)
   simp (disch := omega) only [EV, k0, k1, e1, e2, nz]
   refine ⟨_, _, _, rfl, ?_, ?_, h2.mono (by omega)⟩
   ·rw [Int.tmod_eq_emod_of_nonneg (show 0 ≤ x * 256 + y by omega)]; exact Int.emod_nonneg _ (by omega)
   ·rw [Int.tmod_eq_emod_of_nonneg (show 0 ≤ x * 256 + y by omega)]; exact Int.emod_lt_of_pos _ (by omega)
  ·simp (disch := omega) only [EV, k0, k1, e1, nz]
   refine ⟨_, _, _, rfl, ?_, ?_, h1.mono (by omega)⟩
   ·rw [Int.tmod_eq_emod_of_nonneg (by omega)]; exact Int.emod_nonneg _ (by omega)
   ·rw [Int.tmod_eq_emod_of_nonneg (by omega)]; exact Int.emod_lt_of_pos _ (by omega)
theorem among_ok {B : Int} {l : List Int} {i : Int} (L : List Int) (c : Int) (h : CK B l i) (hB : B ≤ 990000) (hn : 1 ≤ L.length) : ∃ x i' c', wu L l i c = some (x, (l, (i', c'))) ∧ x ∈ L ∧ CK (B + 2) l i' := by
 obtain ⟨x, i1, c1, e1, x0, x1, h1⟩ := pick_ok (L.length : Int) c h (by omega) (by omega)
 unfold wu wrg
 simp (disch := omega) only [EV, e1]
 exact ⟨_, _, _, rfl, getD_mem (by omega), h1⟩
theorem one_ok {B : Int} {l : List Int} {i : Int} (n c : Int) (h : CK B l i) (hB : B ≤ 990000) (hn : 1 ≤ n) : ∃ x i' c', whv n l i c = some (x, (l, (i', c'))) ∧ CK (B + 2) l i' := by
 obtain ⟨x, i1, c1, e1, x0, x1, h1⟩ := pick_ok n c h (by omega) hn
 unfold whv wuh
 simp (disch := omega) only [EV, e1]
 exact ⟨_, _, _, rfl, h1⟩
theorem iter_cnt {V R : Type} {f : V → Option (V ⊕ R)} {n : Nat} (P : Nat → V → Prop) (Q : R → Prop) (hs : ∀ k v, k < n → P k v → ∃ v', f v = some (.inl v') ∧ P (k + 1) v') (he : ∀ v, P n v → ∃ r, f v = some (.inr r) ∧ Q r) {v : V} (h0 : P 0 v) : ∃ r, iter f v = some r ∧ Q r := by
 have key : ∀ m k v, k + m = n → P k v → ∃ r, iter f v = some r ∧ Q r := by
  intro m
  induction m with
  | zero =>
   intro k v hk hp
   have : k = n := by omega
   subst this
   obtain ⟨r, h1, h2⟩ := he v hp
   exact ⟨r, by rw [iter_eq, h1], h2⟩
  | succ m ih =>
   intro k v hk hp
   obtain ⟨v', h1, h2⟩ := hs k v (by omega) hp
   obtain ⟨r, h3, h4⟩ := ih (k + 1) v' (by omega) h2
   exact ⟨r, by rw [iter_eq, h1]; exact h3, h4⟩
 exact key n 0 v (by omega) h0
theorem room8 (l : List Int) (x : Int) (h : l.length ≤ 1000000) : (l.length + List.length ([x] : List Int)) * 8 ≤ 140737488355328 := by simp; omega
theorem room24 {α : Type} (l : List α) (h : l.length ≤ 1000000) : (l.length + 1) * 24 ≤ 140737488355328 := by omega
theorem set_end {α : Type} (l : List (List α)) (x : List α) : List.set (l ++ [[]]) l.length x = l ++ [x] := by
 rw [List.set_append_right _ _ (Nat.le_refl _)]
 simp
theorem l2Bits_ok {n : Nat} (hn : n ≤ 1000) (x : Int) : ∃ s, whw (n : Int) x = some s ∧ s.length ≤ n := by
 obtain ⟨r, h1, h2⟩ := iter_cnt (f := fun v => (war ((n : Int), x) v).ev) (n := n) (fun a v => ∃ s : List Int, v = ((a : Int), s) ∧ s.length ≤ a) (fun r => r.length ≤ n)
  (fun a v ha hv => by
   obtain ⟨s, rfl, hs⟩ := hv
   have hp : (0 : Int) ≤ (a : Int) := by omega
   have hr := room8 s (a : Int) (by omega)
   cases hb : (IntKind.wrap .i64 (BitVec.toNat ((BitVec.ofInt (IntKind.bits .i64) (Int.fdiv x (2 ^ (min (Int.toNat (a : Int)) (IntKind.bits .i64))))) &&& (BitVec.ofInt (IntKind.bits .i64) (1 : Int)))) == (1 : Int)) with
   | true =>
    refine ⟨(((a + 1 : Nat) : Int), s ++ [(a : Int)]), ?_, s ++ [(a : Int)], rfl, by simp; omega⟩
    simp only [war, Tr.ev_t, Tr.ev_g, Tr.ev_l, hb, Int.ofNat_lt.2 ha, hp, hr, decide_true, cond_true]
    rw [wrap64 (by omega) (by omega)]
    rfl
   | false =>
    refine ⟨(((a + 1 : Nat) : Int), s), ?_, s, rfl, by omega⟩
    simp only [war, Tr.ev_t, Tr.ev_g, Tr.ev_l, hb, Int.ofNat_lt.2 ha, hp, decide_true, cond_true, cond_false]
    rw [wrap64 (by omega) (by omega)]
    rfl)
  (fun v hv => by
   obtain ⟨s, rfl, hs⟩ := hv
   refine ⟨s, ?_, hs⟩
   simp only [war, Tr.ev_t, Tr.ev_l, Int.lt_irrefl, decide_false, cond_false])
  (v := ((0 : Int), ([] : List Int))) ⟨[], rfl, Nat.zero_le _⟩
 have h1' : wjt ((n : Int), x) ((0 : Int), ([] : List Int)) = some r := h1
 unfold whw wui
 simp (disch := omega) only [EV, h1']
 exact ⟨r, rfl, h2⟩
end Go.Proofs.YtnagpmhaddfgmaaGreat
