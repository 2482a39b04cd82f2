/-
 Draws of edits and of atlases.
-/
import Derived.Test.YtnagpmhaddfgmaaGreatP48
import Derived.Test.YtnagpmhaddfgmaaGreatP30
namespace Go.Proofs.YtnagpmhaddfgmaaGreat
def Dw {R : Type} (Q : R → Prop) (t : Tr R) : Prop := ∃ r, t.ev = some r ∧ Q r
theorem Dw.l {R : Type} {Q : R → Prop} {r : R} (h : Q r) : Dw Q (.l r) := ⟨r, rfl, h⟩
theorem Dw.t {R : Type} {Q : R → Prop} {b : Bool} {x y : Tr R} (h1 : b = true → Dw Q x) (h2 : b = false → Dw Q y) : Dw Q (.t b x y) := by
 cases b
 ·exact h2 rfl
 ·exact h1 rfl
theorem Dw.g {R : Type} {Q : R → Prop} {b : Bool} {x : Tr R} (h1 : b = true) (h2 : Dw Q x) : Dw Q (.g b x) := by
 subst h1
 exact h2
theorem Dw.c {R S : Type} {Q : R → Prop} {x : Option S} {k : S → Tr R} {r : S} (h1 : x = some r) (h2 : Dw Q (k r)) : Dw Q (.c S x k) := by
 obtain ⟨y, e, h⟩ := h2
 exact ⟨y, by rw [Tr.ev_c, h1]; exact e, h⟩
theorem Dw.pick {R : Type} {Q : R → Prop} {B n : Int} {l : List Int} {i c : Int} {k : (Int) × ((List (Int)) × ((Int) × (Int))) → Tr R} (hc : CK B l i) (hB : B ≤ 900000) (hn : 1 ≤ n) (h : ∀ x i' c', 0 ≤ x → x < n → CK (B + 2) l i' → Dw Q (k (x, (l, (i', c'))))) : Dw Q (.c _ (ww n l i c) k) := by
 obtain ⟨x, i', c', e, x0, x1, h1⟩ := pick_ok n c hc (by omega) hn
 exact Dw.c e (h _ _ _ x0 x1 h1)
theorem Dw.among {R : Type} {Q : R → Prop} {B : Int} {L : List Int} {l : List Int} {i c : Int} {k : (Int) × ((List (Int)) × ((Int) × (Int))) → Tr R} (hc : CK B l i) (hB : B ≤ 900000) (hn : 1 ≤ L.length) (h : ∀ x i' c', CK (B + 2) l i' → Dw Q (k (x, (l, (i', c'))))) : Dw Q (.c _ (wu L l i c) k) := by
 obtain ⟨x, i', c', e, _, h1⟩ := among_ok L c hc (by omega) hn
 exact Dw.c e (h _ _ _ h1)
theorem Dw.one {R : Type} {Q : R → Prop} {B n : Int} {l : List Int} {i c : Int} {k : (Bool) × ((List (Int)) × ((Int) × (Int))) → Tr R} (hc : CK B l i) (hB : B ≤ 900000) (hn : 1 ≤ n) (h : ∀ x i' c', CK (B + 2) l i' → Dw Q (k (x, (l, (i', c'))))) : Dw Q (.c _ (whv n l i c) k) := by
 obtain ⟨x, i', c', e, h1⟩ := one_ok n c hc (by omega) hn
 exact Dw.c e (h _ _ _ h1)
theorem Dw.bits {R : Type} {Q : R → Prop} {n : Nat} {x : Int} {k : List (Int) → Tr R} (hn : n ≤ 1000) (h : ∀ s, s.length ≤ n → Dw Q (k s)) : Dw Q (.c _ (whw (n : Int) x) k) := by
 obtain ⟨s, e, hs⟩ := l2Bits_ok hn x
 exact Dw.c e (h s hs)
theorem list120_ok {B : Int} {l : List Int} {i : Int} (n : Nat) (c : Int) (h : CK B l i) (hB : B ≤ 900000) :
  ∃ i' c' o, wju (n : Int) ((0 : Int), (l, (i, (c, ([] : List Int))))) = some (l, (i', (c', o))) ∧ o.length ≤ 7 ∧ CK (B + 14) l i' := by
 obtain ⟨r, h1, i', c', o, rfl, h2⟩ := iter_cnt (f := fun v => (wat (n : Int) v).ev) (n := min n 7)
  (fun a v => ∃ i c o, v = ((a : Int), (l, (i, (c, o)))) ∧ o.length = a ∧ CK (B + 2 * a) l i)
  (fun r => ∃ i c o, r = (l, (i, (c, o))) ∧ o.length ≤ 7 ∧ CK (B + 14) l i)
  (fun a v ha hv => by
   obtain ⟨i, c, o, rfl, l1, hc⟩ := hv
   obtain ⟨x, i1, c1, e1, _, _, h1⟩ := pick_ok 20 c hc (by omega) (by omega)
   have r1 := room8 o x (by omega)
   have hp1 : a < n := by omega
   have hp2 : (a : Int) < 7 := by omega
   refine ⟨(((a + 1 : Nat) : Int), (l, (i1, (c1, o ++ [x])))), ?_, i1, c1, _, rfl, by simp [l1], h1.mono (by omega)⟩
   simp (disch := omega) only [EV, wat, hp1, hp2, e1, r1]
   rfl)
  (fun v hv => by
   obtain ⟨i, c, o, rfl, l1, hc⟩ := hv
   refine ⟨(l, (i, (c, o))), ?_, i, c, o, rfl, by omega, hc.mono (by omega)⟩
   by_cases hn : 7 < n
   ·have hp2 : ¬ ((min n 7 : Nat) : Int) < 7 := by omega
    have hp1 : min n 7 < n := by omega
    simp (disch := omega) only [EV, wat, hp1, hp2]
   ·have hp1 : ¬ min n 7 < n := by omega
    simp (disch := omega) only [EV, wat, hp1])
  (v := ((0 : Int), (l, (i, (c, ([] : List Int)))))) ⟨i, c, [], rfl, rfl, h.mono (by omega)⟩
 exact ⟨i', c', o, h1, h2⟩
theorem list12_ok {B : Int} {l : List Int} {i : Int} (n : Nat) (c : Int) (h : CK B l i) (hB : B ≤ 800000) :
  ∃ L i' c', wct (n : Int) l i c = some (L, (l, (i', c'))) ∧ L.length ≤ 8 ∧ CK (B + 18) l i' := by
 obtain ⟨i1, c1, o, e1, ho, h1⟩ := list120_ok n c h (by omega)
 obtain ⟨b, i2, c2, e2, h2⟩ := one_ok 12 c1 h1 (by omega) (by omega)
 unfold wct wum
 cases b with
 | false =>
  simp (disch := omega) only [EV, e1, e2]
  exact ⟨_, _, _, rfl, by omega, h2.mono (by omega)⟩
 | true =>
  obtain ⟨x, i3, c3, e3, _, h3⟩ := among_ok [(0 : Int), (-1 : Int), (100 : Int)] c2 h2 (by omega) (by decide)
  have r1 := room8 o x (by omega)
  simp (disch := omega) only [EV, e1, e2, e3, r1]
  exact ⟨_, _, _, rfl, by simp; omega, h3.mono (by omega)⟩
theorem Dw.list12 {R : Type} {Q : R → Prop} {B : Int} {n : Nat} {l : List Int} {i c : Int} {k : (List (Int)) × ((List (Int)) × ((Int) × (Int))) → Tr R} (hc : CK B l i) (hB : B ≤ 800000) (h : ∀ L i' c', L.length ≤ 8 → CK (B + 18) l i' → Dw Q (k (L, (l, (i', c'))))) : Dw Q (.c _ (wct (n : Int) l i c) k) := by
 obtain ⟨L, i', c', e, hL, h1⟩ := list12_ok n c hc hB
 exact Dw.c e (h _ _ _ hL h1)
theorem edit12_ok {B : Int} {l : List Int} {i : Int} (o : List Int) (ds : List (List Int)) (c : Int) (hck : CK B l i) (hB : B ≤ 700000) :
  Dw (fun r => r.2.2.2.2.1.length ≤ 9 ∧ r.2.2.2.2.2.1 = l ∧ CK (B + 40) l r.2.2.2.2.2.2.1) (wno o ds l i c) := by
 unfold wno
 refine Dw.pick hck (by omega) (by omega) fun x i1 c1 x0 x1 h1 => ?_
 refine Dw.c (l1Least_eq _ _) (Dw.c (l1Most_eq _ _) (Dw.c (l1Least_eq _ _) (Dw.c (l1Most_eq _ _) ?_)))
 generalize hS : max (1 : Int) (min ((o.length : Nat) : Int) 7) = S
 generalize hT : max (1 : Int) (min ((ds.length : Nat) : Int) 7) = T
 have hS1 : 1 ≤ S := by omega
 have hT1 : 1 ≤ T := by omega
 dsimp only
 repeat' first
  | refine Dw.l ⟨?_, rfl, ?_⟩
  | refine Dw.g (decide_eq_true (by simp only [List.length_cons, List.length_nil]; omega)) ?_
  | refine Dw.t (fun _ => ?_) (fun _ => ?_)
  |(apply Dw.pick <;> first | assumption | omega | (intros; try dsimp only))
  |(apply Dw.among <;> first | assumption | omega | decide | (intros; try dsimp only))
  |(apply Dw.list12 <;> first | assumption | omega | (intros; try dsimp only))
  |(show CK _ _ _; refine CK.mono (by assumption) (by omega))
  |(simp only [List.length_append, List.length_cons, List.length_nil]; omega)
  | omega
structure DrA (o : List Int) (ds : List (List Int)) (s : List Int) : Prop where
 fld : DrF o ds
 set : s.length ≤ 9
theorem DrA.low {o s : List Int} {ds : List (List Int)} (h : DrA o ds s) : Low1 o ∧ Low2 ds ∧ Low1 s := ⟨h.fld.o1, h.fld.d2, by have := h.set; unfold Low1; omega⟩
theorem Atl.drA {o s : List Int} {ds : List (List Int)} {n : Int} (h : Atl o ds s n) : DrA o ds s := by
 have h1 := h.fld.len
 have h2 := h.fld.clients
 have h3 := fld_row h.fld
 have h4 := h.set.len
 exact ⟨⟨by omega, by omega, fun r hr => by have := h3 r hr; omega⟩, by omega⟩
theorem atl0_ok {l : List Int} : ∀ (m : Nat) {B i c n : Int} {o s : List Int} {ds : List (List Int)}, CK B l i → B + 50 * m ≤ 600000 → DrA o ds s →
  ∃ i' c' o' ds' n' s', waa 0 ((m : Int), (l, (i, (c, (o, (ds, (n, s))))))) = some (l, (i', (c', (o', (ds', (n', s')))))) ∧ DrA o' ds' s' ∧ CK (B + 50 * m) l i' := by
 intro m
 induction m with
 | zero =>
  intro B i c n o s ds hc hB hA
  refine ⟨i, c, o, ds, n, s, ?_, hA, hc.mono (by omega)⟩
  unfold waa
  rw [iter_eq]
  rfl
 | succ m ih =>
  intro B i c n o s ds hc hB hA
  obtain ⟨q1, q2, q3⟩ := hA.low
  have e1 := l12Good_eq q1 q2 q3 n
  have hpos : (0 : Int) < ((m + 1 : Nat) : Int) := by omega
  have hi0 := hc.2.2
  have hw : IntKind.wrap .i64 (((m + 1 : Nat) : Int) - 1) = (m : Int) := by rw [wrap64 (by omega) (by omega)]; omega
  cases hb : atlasB o ds s n with
  | false =>
   refine ⟨i, c, o, ds, n, s, ?_, hA, hc.mono (by omega)⟩
   unfold waa
   rw [iter_eq]
   unfold waf
   dsimp only
   rw [Tr.ev_t, decide_eq_true hpos, cond_true, Tr.ev_c, e1, hb, Option.bind_some, Tr.ev_t, cond_false, Tr.ev_l]
  | true =>
   have hat := atl_iff.1 hb
   obtain ⟨⟨kd, a, b, d, L, l', i1, c1⟩, e2, h1, h2, h3⟩ := edit12_ok o ds c hc (by omega)
   simp only at h1 h2 h3
   subst h2
   have e2' : wei o ds l' i c = some (kd, a, b, d, L, l', i1, c1) := e2
   have e3 := edo_eq hat kd a b d (l := L) (by unfold Low1; omega)
   cases hdo : doOf o ds s n kd a b d L with
   | none =>
    rw [hdo] at e3
    obtain ⟨i', c', o', ds', n', s', e4, h4, h5⟩ := ih (c := c1) (n := n) h3 (by omega) hA
    refine ⟨i', c', o', ds', n', s', ?_, h4, h5.mono (by omega)⟩
    unfold waa at e4 ⊢
    rw [iter_eq]
    have hst : (waf 0 (((m + 1 : Nat) : Int), (l', (i, (c, (o, (ds, (n, s)))))))).ev = some (.inl ((m : Int), (l', (i1, (c1, (o, (ds, (n, s)))))))) := by
     unfold waf
     dsimp only
     rw [Tr.ev_t, decide_eq_true hpos, cond_true, Tr.ev_c, e1, hb, Option.bind_some, Tr.ev_t, cond_true, Tr.ev_c, e2', Option.bind_some, Tr.ev_c]
     dsimp only
     rw [e3, Option.bind_some, Tr.ev_t, hw]
     rfl
    rw [hst]
    exact e4
   | some y =>
    rw [hdo] at e3
    have hat' := doOf_atl hdo
    obtain ⟨i', c', o', ds', n', s', e4, h4, h5⟩ := ih (c := c1) (n := y.1) h3 (by omega) hat'.drA
    refine ⟨i', c', o', ds', n', s', ?_, h4, h5.mono (by omega)⟩
    unfold waa at e4 ⊢
    rw [iter_eq]
    have hst : (waf 0 (((m + 1 : Nat) : Int), (l', (i, (c, (o, (ds, (n, s)))))))).ev = some (.inl ((m : Int), (l', (i1, (c1, (y.2.1, (y.2.2.1, (y.1, y.2.2.2)))))))) := by
     unfold waf
     dsimp only
     rw [Tr.ev_t, decide_eq_true hpos, cond_true, Tr.ev_c, e1, hb, Option.bind_some, Tr.ev_t, cond_true, Tr.ev_c, e2', Option.bind_some, Tr.ev_c]
     dsimp only
     rw [e3, Option.bind_some, Tr.ev_t, hw]
     rfl
    rw [hst]
    exact e4
theorem Dw.atl0 {R : Type} {Q : R → Prop} {B x i c n : Int} {l o s : List Int} {ds : List (List Int)} {k : (List (Int)) × ((Int) × ((Int) × ((List (Int)) × ((List (List (Int))) × ((Int) × (List (Int))))))) → Tr R} (hc : CK B l i) (hB : B ≤ 500000) (hx0 : 0 ≤ x) (hx1 : x < 4) (hA : DrA o ds s)
  (h : ∀ i' c' o' ds' n' s', DrA o' ds' s' → CK (B + 200) l i' → Dw Q (k (l, (i', (c', (o', (ds', (n', s')))))))) : Dw Q (.c _ (waa 0 (x, (l, (i, (c, (o, (ds, (n, s)))))))) k) := by
 obtain ⟨m, rfl⟩ : ∃ m : Nat, x = (m : Int) := ⟨x.toNat, by omega⟩
 obtain ⟨i', c', o', ds', n', s', e, h1, h2⟩ := atl0_ok m (c := c) (n := n) hc (by omega) hA
 exact Dw.c e (h _ _ _ _ _ _ h1 (h2.mono (by omega)))
structure DrA' (o : List Int) (ds : List (List Int)) (s : List Int) : Prop where
 fld : DrF o ds
 set : s.length ≤ 10
theorem DrA'.low {o s : List Int} {ds : List (List Int)} (h : DrA' o ds s) : Low1 o ∧ Low2 ds ∧ Low1 s := ⟨h.fld.o1, h.fld.d2, by have := h.set; unfold Low1; omega⟩
theorem atlas_ok {B : Int} {l : List Int} {i : Int} (c : Int) (hck : CK B l i) (hB : B ≤ 100000) :
  Dw (fun r => DrA' r.1 r.2.1 r.2.2.2.1 ∧ r.2.2.2.2.1 = l ∧ CK (B + 600) l r.2.2.2.2.2.1) (won l i c) := by
 obtain ⟨o, ds, i1, c1, e1, hD, h1⟩ := fieldMost_ok (M := 6) (by omega) c hck (by omega)
 have e1' : whs (6 : Int) l i c = some (o, (ds, (l, (i1, c1)))) := e1
 have e2 := l2Good_eq hD.o1 hD.d2
 have ho := hD.lo
 unfold won
 refine Dw.c e1' (Dw.c e2 ?_)
 have h00 : DrA o ds [] := ⟨hD, by simp⟩
 have hp : 1 ≤ IntKind.wrap .i64 ((1 : Int) * 2 ^ (min (Int.toNat ((o.length : Nat) : Int)) (IntKind.bits .i64))) := by
  have : ∀ k : Nat, k ≤ 8 → 1 ≤ IntKind.wrap .i64 ((1 : Int) * 2 ^ (min (Int.toNat ((k : Nat) : Int)) (IntKind.bits .i64))) := by decide
  exact this _ ho
 dsimp only
 repeat' first
  | refine Dw.l ⟨⟨?_, ?_⟩, rfl, ?_⟩
  |(refine Dw.g (decide_eq_true ?_) ?_)
  | refine Dw.t (fun _ => ?_) (fun _ => ?_)
  |(apply Dw.pick <;> first | assumption | omega | (intros; try dsimp only))
  |(apply Dw.one <;> first | assumption | omega | (intros; try dsimp only))
  |(apply Dw.among <;> first | assumption | omega | decide | (intros; try dsimp only))
  |(apply Dw.atl0 <;> first | assumption | omega | (intros; try dsimp only))
  |(apply Dw.bits <;> first | omega | (intros; try dsimp only))
  | exact DrA.mk (by assumption) (by omega)
  |(show CK _ _ _; refine CK.mono (by assumption) (by omega))
  |(exact DrA.fld (by assumption))
  |(simp only [List.length_append, List.length_cons, List.length_nil]; have := DrA.set (by assumption); omega)
  | omega
end Go.Proofs.YtnagpmhaddfgmaaGreat
