/-
 Draws of metric fields and of sites; parts of a code.
-/
import Derived.Test.YtnagpmhaddfgmaaGreatP49
namespace Go.Proofs.YtnagpmhaddfgmaaGreat
theorem waaz {B : Int} {l : List Int} {i : Int} (c : Int) (hck : CK B l i) (hB : B ≤ 100000) : Dw (fun r => DrF r.1 r.2.1 ∧ r.2.2.1 = l ∧ CK (B + 400) l r.2.2.2.1) (wawe l i c) := by
 unfold wawe
 refine Dw.one hck (by omega) (by omega) fun b1 i1 c1 h1 => Dw.t (fun _ => ?_) fun _ => ?_
 ·obtain ⟨o, d, i2, c2, e, hD, h2⟩ := wafu c1 h1 (by omega)
  exact Dw.c e (Dw.l ⟨hD, rfl, h2.mono (by omega)⟩)
 ·refine Dw.one h1 (by omega) (by omega) fun b2 i2 c2 h2 => Dw.t (fun _ => ?_) fun _ => ?_
  ·obtain ⟨o, d, i3, c3, e, ⟨_, hD⟩, h3⟩ := wlx (M := 7) (by omega) c2 h2 (by omega)
   exact Dw.c e (Dw.l ⟨hD.drf, rfl, h3.mono (by omega)⟩)
  ·obtain ⟨o, d, i3, c3, e, ⟨_, hD⟩, h3⟩ := wfp (M := 7) (by omega) c2 h2 (by omega)
   obtain ⟨r, e2, hD2⟩ := waft hD
   exact Dw.c e (Dw.c e2 (Dw.l ⟨hD2.drf, rfl, h3.mono (by omega)⟩))
theorem waij {B : Int} {l : List Int} {i : Int} {o : List Int} {ds : List (List Int)} (hD : DrF o ds) (c : Int) (hck : CK B l i) (hB : B ≤ 100000) : Dw (fun r => r.1.length ≤ 9 ∧ r.2.1 = l ∧ CK (B + 40) l r.2.2.1) (wawh o ds l i c) := by
 have ho := hD.lo
 unfold wawh
 refine Dw.c (wqv _ _) ?_
 obtain ⟨n, hn⟩ : ∃ n : Nat, min ((o.length : Nat) : Int) 7 = (n : Int) := ⟨(min ((o.length : Nat) : Int) 7).toNat, by omega⟩
 have hn7 : n ≤ 7 := by omega
 rw [hn]
 have hp : 1 ≤ IntKind.wrap .i64 ((1 : Int) * 2 ^ (min (Int.toNat ((n : Nat) : Int)) (IntKind.bits .i64))) := by
  have : ∀ k : Nat, k ≤ 7 → 1 ≤ IntKind.wrap .i64 ((1 : Int) * 2 ^ (min (Int.toNat ((k : Nat) : Int)) (IntKind.bits .i64))) := by decide
  exact this _ hn7
 refine Dw.g (decide_eq_true (by omega)) ?_
 repeat' first
  | refine Dw.l ⟨?_, rfl, ?_⟩
  | refine Dw.g (decide_eq_true (by simp only [List.length_cons, List.length_nil]; omega)) ?_
  | refine Dw.t (fun _ => ?_) (fun _ => ?_)
  |(apply Dw.one <;> first | assumption | omega | (intros; try dsimp only))
  |(apply Dw.among <;> first | assumption | omega | (simp; done) | (intros; try dsimp only))
  |(apply Dw.bits <;> first | omega | (intros; try dsimp only))
  |(apply Dw.pick hck (by omega) hp; intros; try dsimp only)
  |(apply Dw.pick (by assumption) (by omega) (by simp_all; omega); intros; try dsimp only)
  |(show CK _ _ _; refine CK.mono (by assumption) (by omega))
  |(simp only [List.length_append, List.length_cons, List.length_nil]; omega)
  | omega
theorem wasg {l : List Int} (h : ∀ x ∈ l, 0 ≤ x ∧ x ≤ 255) (hl : l.length ≤ 70000) (n : Int) (hn : 0 ≤ n) (hn2 : n ≤ 100) : ∃ m, wans l n = some m ∧ CK 0 m 0 := by
 have ck : ∀ k : Nat, ∀ x : Int, CK 0 (([] ++ List.drop k (List.take l.length l)) ++ [IntKind.wrap .u8 x]) 0 := fun k x => by
  refine ⟨fun y hy => ?_, by simp; omega, by omega, by omega⟩
  rcases List.mem_append.1 hy with hy | hy
  ·exact h y (List.mem_of_mem_drop (i := k) (by simpa using hy))
  ·rw [List.mem_singleton.1 hy]
   exact wrap_u8 x
 have g1 : ∀ k : Nat, (List.length ([] : List Int) + List.length (List.drop k (List.take l.length l))) * 1 ≤ 140737488355328 := fun k => by simp; omega
 have g2 : ∀ (k : Nat) (x : Int), (List.length (([] : List Int) ++ (List.drop k (List.take l.length l))) + List.length ([x] : List Int)) * 1 ≤ 140737488355328 := fun k x => by simp; omega
 unfold wans wbhu
 by_cases k1 : ((l.length : Nat) : Int) < n
 ·have z : (0 : Int) ≤ ((l.length : Nat) : Int) := by omega
  simp (disch := omega) only [EV, k1, z, Int.le_refl, g1, g2]
  exact ⟨_, rfl, ck _ _⟩
 ·have k2 : n ≤ ((l.length : Nat) : Int) := by omega
  simp (disch := omega) only [EV, k1, hn, k2, g1, g2]
  exact ⟨_, rfl, ck _ _⟩
theorem wrc {a : List Int} (ha : a.length ≤ 1000000) : waow a a = some true := by
 have h := wcr (f := fun v => (wpb (a, a) v).ev) (n := a.length) (mk := fun b => (b : Int)) (p := fun _ => true) (yes := .inl ()) (no := .inr ())
  (fun i hi _ => by
   simp (disch := omega) only [EV, wpb, hi, bne_self_eq_false]
   rfl)
  (by simp (disch := omega) only [EV, wpb, Nat.lt_irrefl])
 have h1 : wzo (a, a) 0 = some (.inl ()) := by
  have h2 : wzo (a, a) 0 = _ := h
  rw [h2]
  have : ((List.range a.length).all fun _ => true) = true := List.all_eq_true.2 fun _ _ => rfl
  rw [this]
  rfl
 unfold waow wbkq
 rw [Tr.ev_t, bne_self_eq_false, cond_false, Tr.ev_c, h1]
 rfl
end Go.Proofs.YtnagpmhaddfgmaaGreat
