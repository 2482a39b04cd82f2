/-
 Plain laws: the drawing of sets of sites, of weights and of counts comes to an end.
-/
import Derived.Test.YtnagpmhaddfgmaaGreatP30
namespace Go.Proofs.YtnagpmhaddfgmaaGreat
theorem wand : ∀ n : Nat, n ≤ 7 → 1 ≤ IntKind.wrap .i64 ((1 : Int) * 2 ^ (min (Int.toNat (n : Int)) (IntKind.bits .i64)))
 | 0, _ => of_decide_eq_true (by kernel_rfl)
 | 1, _ => of_decide_eq_true (by kernel_rfl)
 | 2, _ => of_decide_eq_true (by kernel_rfl)
 | 3, _ => of_decide_eq_true (by kernel_rfl)
 | 4, _ => of_decide_eq_true (by kernel_rfl)
 | 5, _ => of_decide_eq_true (by kernel_rfl)
 | 6, _ => of_decide_eq_true (by kernel_rfl)
 | 7, _ => of_decide_eq_true (by kernel_rfl)
 | n + 8, h => by omega
theorem wzy {B : Int} {l : List Int} {i : Int} {o : List Int} {d : List (List Int)} (ho : o.length ≤ 8) (c : Int) (h : CK B l i) (hB : B ≤ 500000) :
  ∃ s i' c', wyd o d l i c = some (s, (l, (i', c'))) ∧ s.length ≤ 8 ∧ CK (B + 20) l i' := by
 obtain ⟨n, hn, hn7⟩ : ∃ n : Nat, min ((o.length : Nat) : Int) 7 = (n : Int) ∧ n ≤ 7 := ⟨(min ((o.length : Nat) : Int) 7).toNat, by omega, by omega⟩
 obtain ⟨x, i1, c1, e1, _, _, h1⟩ := pick_ok (IntKind.wrap .i64 ((1 : Int) * 2 ^ (min (Int.toNat (n : Int)) (IntKind.bits .i64)))) c h (by omega) (wand n hn7)
 obtain ⟨s, e2, hs⟩ := l2Bits_ok (n := n) (by omega) (IntKind.wrap .i64 ((1 : Int) + x))
 obtain ⟨b, i3, c3, e3, h3⟩ := one_ok 20 c1 h1 (by omega) (by omega)
 have hp : (0 : Int) ≤ (n : Int) := by omega
 unfold wyd wain
 rw [Tr.ev_c, l1Least_eq, hn, Option.bind_some, Tr.ev_g, decide_eq_true hp, cond_true, Tr.ev_c, e1, Option.bind_some, Tr.ev_c]
 simp only
 rw [e2, Option.bind_some, Tr.ev_c, e3, Option.bind_some]
 have last : ∀ (s : List Int) {i3 : Int} (c3 : Int), s.length ≤ 8 → CK (B + 10) l i3 → ∃ s' i' c', (Tr.t (((List.length s : Nat) : Int) == (0 : Int))
    (.t (decide ((0 : Int) < (n : Int)))
      (.c ((Bool) × ((List (Int)) × ((Int) × (Int)))) (whz (6 : Int) l i3 c3) fun r6_ =>
       .t (!r6_.1)
        (.c ((Int) × ((List (Int)) × ((Int) × (Int)))) (wba (n : Int) r6_.2.1 r6_.2.2.1 r6_.2.2.2) fun r7_ =>
         .l (([r7_.1] : List (Int)), (r7_.2.1, (r7_.2.2.1, r7_.2.2.2))))
        (.l (s, (r6_.2.1, (r6_.2.2.1, r6_.2.2.2)))))
      (.l (s, (l, (i3, c3)))))
    (.l (s, (l, (i3, c3))))).ev = some (s', (l, (i', c'))) ∧ s'.length ≤ 8 ∧ CK (B + 20) l i' := fun s i3 c3 hs h3 => by
  by_cases h0 : (((List.length s : Nat) : Int) == (0 : Int)) = true
  ·by_cases hn0 : (0 : Int) < (n : Int)
   ·obtain ⟨b, i4, c4, e4, h4⟩ := one_ok 6 c3 h3 (by omega) (by omega)
    cases b with
    | true =>
     simp (disch := omega) only [EV, h0, hn0, e4]
     exact ⟨_, _, _, rfl, hs, h4.mono (by omega)⟩
    | false =>
     obtain ⟨y, i5, c5, e5, _, _, h5⟩ := pick_ok (n : Int) c4 h4 (by omega) (by omega)
     simp (disch := omega) only [EV, h0, hn0, e4, e5]
     exact ⟨_, _, _, rfl, by simp, h5.mono (by omega)⟩
   ·simp (disch := omega) only [EV, h0, hn0]
    exact ⟨_, _, _, rfl, hs, h3.mono (by omega)⟩
  ·have h0' := Bool.eq_false_iff.2 h0
   simp (disch := omega) only [EV, h0']
   exact ⟨_, _, _, rfl, hs, h3.mono (by omega)⟩
 cases b with
 | true =>
  obtain ⟨y, i4, c4, e4, _, h4⟩ := among_ok [(-1 : Int), (0 : Int), (n : Int)] c3 h3 (by omega) (by simp)
  have r1 := room8 s y (by omega)
  rw [Tr.ev_t, cond_true, Tr.ev_c, e4, Option.bind_some, Tr.ev_g]
  simp only
  rw [decide_eq_true r1, cond_true]
  exact last (s ++ [y]) c4 (by simp; omega) (h4.mono (by omega))
 | false =>
  rw [Tr.ev_t, cond_false]
  exact last s c3 (by omega) (h3.mono (by omega))
end Go.Proofs.YtnagpmhaddfgmaaGreat
