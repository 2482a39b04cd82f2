/-
 Plain laws: the best star, as both sides find it.
-/
import Derived.Test.YtnagpmhaddfgmaaGreatP53
import Derived.Test.YtnagpmhaddfgmaaGreatP45
import Derived.Test.YtnagpmhaddfgmaaGreatP50
namespace Go.Proofs.YtnagpmhaddfgmaaGreat
theorem wfn {α : Type} (f : α → Int) : ∀ l m : List α, wak (l ++ m) f = wak l f + wak m f
 | [], m => by simp [wak]
 | x :: l, m => by
  rw [List.cons_append]
  simp only [wak]
  rw [wfn f l m]
  omega
theorem wgp {α : Type} (f : α → Int) {l m : List α} (h : l.Perm m) : wak l f = wak m f := by
 induction h with
 | nil => rfl
 | cons x _ ih => simp only [wak, ih]
 | swap x y l => simp only [wak]; omega
 | trans _ _ h1 h2 => exact h1.trans h2
theorem wcs (ds : List (List Int)) (a : Int) (l : List Int) : (war ds a l).Pairwise (fun x y => kd ds a x ≤ kd ds a y) ∧ (war ds a l).Perm l := wxb l
theorem wcj (ds : List (List Int)) (a : Int) (l : List Int) : (war ds a l).length = l.length := (wcs ds a l).2.length_eq
theorem wmo {m : Nat} {ds : List (List Int)} {a : Int} {l : List Int} (h : Cl m l) : Cl m (war ds a l) := fun x hx => h x ((wcs ds a l).2.mem_iff.1 hx)
theorem wbwd {o : List Int} {ds : List (List Int)} (hf : Fld o ds) {a : Nat} (ha : a < o.length) {x : Int} (hx : 0 ≤ x ∧ x < (ds.length : Int)) : 0 ≤ kd ds (a : Int) x ∧ kd ds (a : Int) x ≤ 99 := by
 unfold kd
 rw [Int.toNat_natCast]
 exact hf.dist x.toNat a (by omega) ha
section
variable (o : List Int) (ds : List (List Int)) (S L : List Int)
def own0 (a : Nat) : Int := if S.contains (a : Int) then 0 else o.getD a 0
def cK (a k : Nat) : Int := own0 o S a + wak ((war ds (a : Int) L).take k) (kd ds (a : Int))
def wpo (st : Option (Nat × Int × Nat)) (a : Nat) (c : Int) (m : Nat) : Option (Nat × Int × Nat) := match st with
 | none => some (a, c, m)
 | some (a', c', m') => if c * (m' : Int) < c' * (m : Int) ∨ (a' = a ∧ c * (m' : Int) = c' * (m : Int)) then some (a, c, m) else some (a', c', m')
def inF (a : Nat) (st : Option (Nat × Int × Nat)) : Option (Nat × Int × Nat) := (List.range L.length).foldl (fun st i => wpo st a (cK o ds S L a (i + 1)) (i + 1)) st
def wxg : Option (Nat × Int × Nat) := (List.range o.length).foldl (fun st a => inF o ds S L a st) none
def StOK (st : Option (Nat × Int × Nat)) : Prop := ∀ a c m, st = some (a, c, m) → a < o.length ∧ 1 ≤ m ∧ m ≤ L.length ∧ c = cK o ds S L a m
def waro (p : Nat → Nat → Prop) (st : Option (Nat × Int × Nat)) : Prop := ∀ a k, p a k → 1 ≤ k → ∃ a' c' m', st = some (a', c', m') ∧ c' * (k : Int) ≤ cK o ds S L a k * (m' : Int)
end
section
variable {o : List Int} {ds : List (List Int)} {S L : List Int}
theorem waar (hf : Fld o ds) (hl : Cl ds.length L) (h7 : L.length ≤ 7) {a : Nat} (ha : a < o.length) (k : Nat) : 0 ≤ cK o ds S L a k ∧ cK o ds S L a k ≤ 792 := by
 have hc := hf.cost a ha
 have h1 : ∀ l : List Int, Cl ds.length l → 0 ≤ wak l (kd ds (a : Int)) ∧ wak l (kd ds (a : Int)) ≤ 99 * (l.length : Int) := by
  intro l
  induction l with
  | nil => intro _; simp [wak]
  | cons x l ih =>
   intro hx
   have i1 := ih fun y hy => hx y (List.mem_cons_of_mem _ hy)
   have i2 := wbwd hf ha (hx x (by simp))
   simp only [wak, List.length_cons]
   omega
 have h2 := h1 ((war ds (a : Int) L).take k) fun x hx => wmo hl x (List.mem_of_mem_take hx)
 have h3 : ((war ds (a : Int) L).take k).length ≤ L.length := by rw [List.length_take, wcj]; omega
 unfold cK own0
 split <;> omega
theorem warp {a i : Nat} (hi : i < L.length) : cK o ds S L a (i + 1) = cK o ds S L a i + kd ds (a : Int) ((war ds (a : Int) L).getD i 0) := by
 unfold cK
 rw [take_snoc 0 (by rw [wcj]; exact hi), wfn]
 simp only [wak]
 omega
theorem wug {st : Option (Nat × Int × Nat)} (h : StOK o ds S L st) {a m : Nat} (ha : a < o.length) (h1 : 1 ≤ m) (h2 : m ≤ L.length) : StOK o ds S L (wpo st a (cK o ds S L a m) m) := by
 intro a' c' m' he
 unfold wpo at he
 split at he
 ·cases he; exact ⟨ha, h1, h2, rfl⟩
 ·split at he
  ·cases he; exact ⟨ha, h1, h2, rfl⟩
  ·exact h a' c' m' he
theorem ratio {c k c' m' c'' m'' : Int} (hm : 0 < m') (h1 : c' * k ≤ c * m') (h2 : c'' * m' ≤ c' * m'') (hk : 0 ≤ k) (hm2 : 0 ≤ m'') : c'' * k ≤ c * m'' := by
 have e1 : m' * (c'' * k) ≤ m' * (c * m'') := by
  have a1 : (c'' * m') * k ≤ (c' * m'') * k := Int.mul_le_mul_of_nonneg_right h2 hk
  have a2 : (c' * k) * m'' ≤ (c * m') * m'' := Int.mul_le_mul_of_nonneg_right h1 hm2
  have b1 : m' * (c'' * k) = (c'' * m') * k := by rw [← Int.mul_assoc, Int.mul_comm m' c'']
  have b2 : (c' * m'') * k = (c' * k) * m'' := by rw [Int.mul_assoc, Int.mul_comm m'' k, ← Int.mul_assoc]
  have b3 : (c * m') * m'' = m' * (c * m'') := by rw [Int.mul_comm c m', Int.mul_assoc]
  rw [b1, ← b3]
  rw [b2] at a1
  exact Int.le_trans a1 a2
 exact Int.le_of_mul_le_mul_left e1 hm
theorem warq {p : Nat → Nat → Prop} {st : Option (Nat × Int × Nat)} (hs : StOK o ds S L st) (h : waro o ds S L p st) {a m : Nat} (h1 : 1 ≤ m) : waro o ds S L (fun b k => p b k ∨ (b = a ∧ k = m)) (wpo st a (cK o ds S L a m) m) := by
 intro b k hp hk
 unfold wpo
 rcases hst : st with _ | ⟨a', c', m'⟩
 ·rcases hp with hp | ⟨rfl, rfl⟩
  ·obtain ⟨_, _, _, e, _⟩ := h b k hp hk
   rw [hst] at e
   cases e
  ·exact ⟨_, _, _, rfl, Int.le_refl _⟩
 ·obtain ⟨_, q1, _, _⟩ := hs a' c' m' hst
  simp only
  split
  next hc =>
   refine ⟨_, _, _, rfl, ?_⟩
   rcases hp with hp | ⟨rfl, rfl⟩
   ·obtain ⟨_, _, _, e, hle⟩ := h b k hp hk
    rw [hst] at e
    cases e
    exact ratio (by omega) hle (by rcases hc with hc | hc <;> omega) (by omega) (by omega)
   ·exact Int.le_refl _
  next hc =>
   refine ⟨_, _, _, rfl, ?_⟩
   rcases hp with hp | ⟨rfl, rfl⟩
   ·obtain ⟨_, _, _, e, hle⟩ := h b k hp hk
    rw [hst] at e
    cases e
    exact hle
   ·omega
theorem wuh {a : Nat} (ha : a < o.length) {p : Nat → Nat → Prop} {st : Option (Nat × Int × Nat)} (hs : StOK o ds S L st) (hm : waro o ds S L p st) : ∀ k, k ≤ L.length →
  StOK o ds S L ((List.range k).foldl (fun st i => wpo st a (cK o ds S L a (i + 1)) (i + 1)) st) ∧ waro o ds S L (fun b j => p b j ∨ (b = a ∧ 1 ≤ j ∧ j ≤ k)) ((List.range k).foldl (fun st i => wpo st a (cK o ds S L a (i + 1)) (i + 1)) st)
 | 0, _ => ⟨hs, fun b j hp hj => hm b j (hp.elim id fun h => absurd h.2 (by omega)) hj⟩
 | k + 1, hk => by
  obtain ⟨i1, i2⟩ := wuh ha hs hm k (by omega)
  rw [wal]
  refine ⟨wug i1 ha (by omega) hk, fun b j hp hj => warq i1 i2 (show 1 ≤ k + 1 by omega) b j ?_ hj⟩
  rcases hp with hp | ⟨h1, h2, h3⟩
  ·exact .inl (.inl hp)
  ·by_cases e : j = k + 1
   ·exact .inr ⟨h1, e⟩
   ·exact .inl (.inr ⟨h1, h2, by omega⟩)
theorem wxh : ∀ n, n ≤ o.length →
  StOK o ds S L ((List.range n).foldl (fun st a => inF o ds S L a st) none) ∧ waro o ds S L (fun b j => b < n ∧ 1 ≤ j ∧ j ≤ L.length) ((List.range n).foldl (fun st a => inF o ds S L a st) none)
 | 0, _ => ⟨fun a c m h => (by cases h), fun b j h _ => absurd h.1 (by omega)⟩
 | n + 1, hn => by
  obtain ⟨i1, i2⟩ := wxh n (by omega)
  rw [wal]
  obtain ⟨j1, j2⟩ := wuh (a := n) (by omega) i1 i2 L.length (Nat.le_refl _)
  refine ⟨j1, fun b j hp hj => j2 b j ?_ hj⟩
  by_cases e : b = n
  ·exact .inr ⟨e, hp.2⟩
  ·exact .inl ⟨by omega, hp.2⟩
theorem waia (hp : 1 ≤ o.length) (hL : L ≠ []) : ∃ a c m, wxg o ds S L = some (a, c, m) ∧ a < o.length ∧ 1 ≤ m ∧ m ≤ L.length ∧ c = cK o ds S L a m ∧ ∀ b k, b < o.length → 1 ≤ k → k ≤ L.length → c * (k : Int) ≤ cK o ds S L b k * (m : Int) := by
 obtain ⟨h1, h2⟩ := wxh (o := o) (ds := ds) (S := S) (L := L) o.length (Nat.le_refl _)
 have hl := List.length_pos_iff.2 hL
 obtain ⟨a, c, m, e, _⟩ := h2 0 1 ⟨by omega, by omega, by omega⟩ (by omega)
 obtain ⟨q1, q2, q3, q4⟩ := h1 a c m e
 refine ⟨a, c, m, e, q1, q2, q3, q4, fun b k hb hk hkl => ?_⟩
 obtain ⟨a', c', m', e', hle⟩ := h2 b k ⟨hb, hk, hkl⟩ hk
 rw [e] at e'
 cases e'
 exact hle
def encI : Option (Nat × Int × Nat) → Int × Int × Int
 | none => (-1, 0, 1)
 | some (a, c, m) => ((a : Int), c, (m : Int))
def encS (ds : List (List Int)) (L : List Int) : Option (Nat × Int × Nat) → Int × List Int × Int
 | none => (0, [], 0)
 | some (a, c, m) => ((a : Int), (war ds (a : Int) L).take m, c)
theorem wjf {x y : Int} (h0 : 0 ≤ x) (h1 : x ≤ 792) (h2 : 0 ≤ y) (h3 : y ≤ 7) : 0 ≤ x * y ∧ x * y ≤ 792 * 7 := ⟨Int.mul_nonneg h0 h2, Int.le_trans (Int.mul_le_mul_of_nonneg_left h3 h0) (Int.mul_le_mul_of_nonneg_right h1 (by omega))⟩
theorem wbwe (hf : Fld o ds) (hl : Cl ds.length L) (h7 : L.length ≤ 7) {a : Nat} (ha : a < o.length) (k : (Int) × ((Int) × ((Int) × ((Int) × ((Int) × ((List (Int)) × ((List (List (Int))) × ((List (Int)) × (List (Int)))))))))) (k1 : k.2.1 = (a : Int)) (k2 : k.2.2.2.2.1 = (L.length : Int)) (k3 : k.2.2.2.2.2.2.1 = ds) (k4 : k.2.2.2.2.2.2.2.2 = war ds (a : Int) L)
  {st : Option (Nat × Int × Nat)} (hs : StOK o ds S L st) : wadk k ((encI st).1, ((encI st).2.1, ((encI st).2.2, (own0 o S a, 0)))) = some (encI (inF o ds S L a st)) := by
 have hn := wcj ds (a : Int) L
 have h := (wap (f := fun v => (wvs k v).ev) (n := L.length) (mk := fun i (st : Option (Nat × Int × Nat)) => ((encI st).1, ((encI st).2.1, ((encI st).2.2, (cK o ds S L a i, (i : Int)))))) (I := fun _ st => StOK o ds S L st) (g := fun st i => wpo st a (cK o ds S L a (i + 1)) (i + 1)) (fin := encI) (s0 := st) hs
  (fun i st hi hs => by
   refine ⟨?_, wug hs ha (by omega) hi⟩
   have hx := wmo (ds := ds) (a := (a : Int)) hl _ (getD_mem (d := 0) (show i < (war ds (a : Int) L).length by omega))
   have hci := waar (S := S) hf hl h7 ha i
   have hcs := waar (S := S) hf hl h7 ha (i + 1)
   have hsu := warp (o := o) (ds := ds) (S := S) (a := a) hi
   unfold kd at hsu
   rw [Int.toNat_natCast] at hsu
   have hrl := hf.rowLen ((war ds (a : Int) L).getD i 0).toNat (by omega)
   have g1 : inR (i : Int) (war ds (a : Int) L).length = true := wcq (by omega)
   have g2 : i < (war ds (a : Int) L).length := by omega
   have g3 : inR ((war ds (a : Int) L).getD i 0) ds.length = true := wcd (by omega) (by omega)
   have g4 : inR (a : Int) (ds.getD ((war ds (a : Int) L).getD i 0).toNat []).length = true := wcd (by omega) (by omega)
   have hlt : (i : Int) < (L.length : Int) := by omega
   have hw : IntKind.wrap .i64 ((i : Int) + 1) = ((i + 1 : Nat) : Int) := by rw [wrap64 (by omega) (by omega)]; rfl
   have hw2 : IntKind.wrap .i64 (cK o ds S L a i + (ds.getD ((war ds (a : Int) L).getD i 0).toNat []).getD a 0) = cK o ds S L a (i + 1) := by rw [← hsu, wrap64 (by omega) (by omega)]
   unfold wvs
   dsimp only
   rw [k1, k2, k3, k4, Tr.ev_t, decide_eq_true hlt, cond_true, Tr.ev_g, g1, cond_true, Int.toNat_natCast, Tr.ev_g, decide_eq_true g2, cond_true, Tr.ev_g, g3, cond_true, Tr.ev_g, g4, cond_true, Int.toNat_natCast, hw, hw2, Tr.ev_t]
   rcases st with _ | ⟨a', c', m'⟩
   ·rfl
   ·obtain ⟨q1, q2, q3, q4⟩ := hs a' c' m' rfl
    have hc' := waar (S := S) hf hl h7 q1 m'
    rw [← q4] at hc'
    have m1 := wjf hcs.1 hcs.2 (show (0 : Int) ≤ (m' : Int) by omega) (by omega)
    have m2 := wjf hc'.1 hc'.2 (show (0 : Int) ≤ ((i + 1 : Nat) : Int) by omega) (by omega)
    have hneg : ¬ ((a' : Nat) : Int) < 0 := by omega
    have w1 : IntKind.wrap .i64 (cK o ds S L a (i + 1) * (m' : Int)) = cK o ds S L a (i + 1) * (m' : Int) := wrap64 (by omega) (by omega)
    have w2 : IntKind.wrap .i64 (c' * ((i + 1 : Nat) : Int)) = c' * ((i + 1 : Nat) : Int) := wrap64 (by omega) (by omega)
    unfold wpo encI
    dsimp only
    rw [decide_eq_false hneg, cond_false, Tr.ev_t, w1, w2]
    by_cases hlt2 : cK o ds S L a (i + 1) * (m' : Int) < c' * ((i + 1 : Nat) : Int)
    ·rw [decide_eq_true hlt2, cond_true, if_pos (.inl hlt2)]
     rfl
    ·rw [decide_eq_false hlt2, cond_false, Tr.ev_t]
     by_cases he : a' = a
     ·subst he
      rw [beq_self_eq_true, cond_true, Tr.ev_t]
      by_cases hq : cK o ds S L a' (i + 1) * (m' : Int) = c' * ((i + 1 : Nat) : Int)
      ·rw [hq, beq_self_eq_true, cond_true, if_pos (.inr ⟨rfl, rfl⟩)]
       rfl
      ·rw [beq_eq_false_iff_ne.2 hq, cond_false, if_neg (fun h => h.elim hlt2 fun h => hq h.2)]
       rfl
     ·have hne : (((a' : Nat) : Int) == ((a : Nat) : Int)) = false := beq_eq_false_iff_ne.2 fun h => he (by omega)
      rw [hne, cond_false, if_neg (fun h => h.elim hlt2 fun h => he h.1)]
      rfl)
  (fun st _ => by
   have hlt : ¬ (L.length : Int) < (L.length : Int) := by omega
   unfold wvs
   dsimp only
   rw [k2, Tr.ev_t, decide_eq_false hlt, cond_false, Tr.ev_l])).1
 have e0 : cK o ds S L a 0 = own0 o S a := by unfold cK; simp [wak]
 have h1 : wadk k ((encI st).1, ((encI st).2.1, ((encI st).2.2, (cK o ds S L a 0, 0)))) = some (encI (inF o ds S L a st)) := h
 rw [e0] at h1
 exact h1
theorem wbwf (hf : Fld o ds) {x : Nat} (hxb : x < 128) (hxS : lst x = S) (hl : Cl ds.length L) (h7 : L.length ≤ 7) : wbar ((x : Int), ((o.length : Int), (o, (ds, L)))) (-1, (0, (1, 0))) = some ((encI (wxg o ds S L)).1, (encI (wxg o ds S L)).2.2) := by
 have ho := hf.len
 have h := (wap (f := fun v => (wvt ((x : Int), ((o.length : Int), (o, (ds, L)))) v).ev) (n := o.length) (mk := fun i (st : Option (Nat × Int × Nat)) => ((encI st).1, ((encI st).2.1, ((encI st).2.2, (i : Int))))) (I := fun _ st => StOK o ds S L st) (g := fun st a => inF o ds S L a st) (fin := fun st => ((encI st).1, (encI st).2.2)) (s0 := none) (fun a c m h => by cases h)
  (fun i st hi hs => by
   have h0 := (wuh (o := o) (ds := ds) (S := S) (L := L) hi (p := fun _ _ => False) hs (fun b j h => h.elim) L.length (Nat.le_refl _)).1
   refine ⟨?_, h0⟩
   have e1 := (bagP hxb).has i (by omega)
   rw [hxS] at e1
   have e2 := wpj hf (a := (i : Int)) (by omega) (by omega) hl (by omega)
   have hn := wcj ds (i : Int) L
   have e3 := wbwe (S := S) hf hl h7 hi ((x : Int), ((i : Int), ((o.length : Int), ((i : Int), (((war ds (i : Int) L).length : Int), (o, (ds, (L, war ds (i : Int) L)))))))) rfl (by rw [hn]) rfl rfl hs
   have hlt : (i : Int) < (o.length : Int) := by omega
   have hw : IntKind.wrap .i64 ((i : Int) + 1) = ((i + 1 : Nat) : Int) := by rw [wrap64 (by omega) (by omega)]; rfl
   have g1 : inR (i : Int) o.length = true := wcq hi
   unfold own0 at e3
   unfold wvt
   dsimp only
   rw [Tr.ev_t, decide_eq_true hlt, cond_true, Tr.ev_g, g1, cond_true, Tr.ev_c, e1, Option.bind_some, Tr.ev_t, hw, Int.toNat_natCast]
   cases hc : S.contains (i : Int) with
   | true =>
    rw [hc, if_pos rfl] at e3
    rw [cond_true, Tr.ev_c, e2, Option.bind_some, Tr.ev_c, e3, Option.bind_some]
    rfl
   | false =>
    rw [hc, if_neg (by simp)] at e3
    rw [cond_false, Tr.ev_c, e2, Option.bind_some, Tr.ev_c, e3, Option.bind_some]
    rfl)
  (fun st _ => by
   have hlt : ¬ (o.length : Int) < (o.length : Int) := by omega
   unfold wvt
   dsimp only
   rw [Tr.ev_t, decide_eq_false hlt, cond_false, Tr.ev_l])).1
 exact h
end
end Go.Proofs.YtnagpmhaddfgmaaGreat
/-
 Plain laws: greedy stars: the reference's rounds, and both sides' whole ones.
-/
namespace Go.Proofs.YtnagpmhaddfgmaaGreat
section
variable {o : List Int} {ds : List (List Int)} {S L : List Int}
theorem wbwg (hf : Fld o ds) (hl : Cl ds.length L) (h7 : L.length ≤ 7) {a : Nat} (ha : a < o.length) {st : Option (Nat × Int × Nat)} (hs : StOK o ds S L st) :
  wsj (L, (S, ((a : Int), (war ds (a : Int) L, (o, (ds, ((0 : Int), (0 : Int)))))))) (own0 o S a, (1, ((encS ds L st).1, ((encS ds L st).2.1, (encS ds L st).2.2)))) = some (encS ds L (inF o ds S L a st)) := by
 have hn := wcj ds (a : Int) L
 have h := (wap (f := fun v => (woq (L, (S, ((a : Int), (war ds (a : Int) L, (o, (ds, ((0 : Int), (0 : Int)))))))) v).ev) (n := L.length) (mk := fun i (st : Option (Nat × Int × Nat)) => (cK o ds S L a i, (((i + 1 : Nat) : Int), ((encS ds L st).1, ((encS ds L st).2.1, (encS ds L st).2.2))))) (I := fun _ st => StOK o ds S L st) (g := fun st i => wpo st a (cK o ds S L a (i + 1)) (i + 1)) (fin := encS ds L) (s0 := st) hs
  (fun i st hi hs => by
   refine ⟨?_, wug hs ha (by omega) hi⟩
   have hx := wmo (ds := ds) (a := (a : Int)) hl _ (getD_mem (d := 0) (show i < (war ds (a : Int) L).length by omega))
   have hci := waar (S := S) hf hl h7 ha i
   have hcs := waar (S := S) hf hl h7 ha (i + 1)
   have hsu := warp (o := o) (ds := ds) (S := S) (a := a) hi
   unfold kd at hsu
   rw [Int.toNat_natCast] at hsu
   have hrl := hf.rowLen ((war ds (a : Int) L).getD i 0).toNat (by omega)
   have hw0 : IntKind.wrap .i64 (((i + 1 : Nat) : Int) - 1) = (i : Int) := by rw [wrap64 (by omega) (by omega)]; omega
   have g1 : inR (i : Int) (war ds (a : Int) L).length = true := wcq (by omega)
   have g3 : inR ((war ds (a : Int) L).getD i 0) ds.length = true := wcd (by omega) (by omega)
   have g4 : inR (a : Int) (ds.getD ((war ds (a : Int) L).getD i 0).toNat []).length = true := wcd (by omega) (by omega)
   have hle : ((i + 1 : Nat) : Int) ≤ (((war ds (a : Int) L).length : Nat) : Int) := by omega
   have hw : IntKind.wrap .i64 (((i + 1 : Nat) : Int) + 1) = ((i + 1 + 1 : Nat) : Int) := by rw [wrap64 (by omega) (by omega)]; rfl
   have hw2 : IntKind.wrap .i64 (cK o ds S L a i + (ds.getD ((war ds (a : Int) L).getD i 0).toNat []).getD a 0) = cK o ds S L a (i + 1) := by rw [← hsu, wrap64 (by omega) (by omega)]
   have g5 : (0 : Int) ≤ ((i + 1 : Nat) : Int) := by omega
   have e1 := waai (l := List.drop 0 (List.take (i + 1) (war ds (a : Int) L))) (by simp; omega)
   rw [List.drop_zero] at e1
   unfold woq
   dsimp only
   simp only [hw0, Int.toNat_natCast, List.drop_zero]
   rw [Tr.ev_t, decide_eq_true hle, cond_true, Tr.ev_g, g1, cond_true, Tr.ev_g, g3, cond_true, Tr.ev_g, g4, cond_true, hw, hw2, Tr.ev_t, decide_eq_true g5, e1]
   rcases st with _ | ⟨a', c', m'⟩
   ·rfl
   ·obtain ⟨q1, q2, q3, q4⟩ := hs a' c' m' rfl
    have hc' := waar (S := S) hf hl h7 q1 m'
    rw [← q4] at hc'
    have m1 := wjf hcs.1 hcs.2 (show (0 : Int) ≤ (m' : Int) by omega) (by omega)
    have m2 := wjf hc'.1 hc'.2 (show (0 : Int) ≤ ((i + 1 : Nat) : Int) by omega) (by omega)
    have hml : ((war ds (a' : Int) L).take m').length = m' := by rw [List.length_take, wcj]; omega
    have hz : (((m' : Nat) : Int) == 0) = false := beq_eq_false_iff_ne.2 (by omega)
    have w1 : IntKind.wrap .i64 (cK o ds S L a (i + 1) * (m' : Int)) = cK o ds S L a (i + 1) * (m' : Int) := wrap64 (by omega) (by omega)
    have w2 : IntKind.wrap .i64 (c' * ((i + 1 : Nat) : Int)) = c' * ((i + 1 : Nat) : Int) := wrap64 (by omega) (by omega)
    unfold wpo encS
    dsimp only
    rw [hml, hz, cond_false, Tr.ev_t, w1, w2]
    by_cases hlt2 : cK o ds S L a (i + 1) * (m' : Int) < c' * ((i + 1 : Nat) : Int)
    ·rw [decide_eq_true hlt2, cond_true, if_pos (.inl hlt2)]
     rfl
    ·rw [decide_eq_false hlt2, cond_false, Tr.ev_t]
     by_cases hq : cK o ds S L a (i + 1) * (m' : Int) = c' * ((i + 1 : Nat) : Int)
     ·rw [hq, beq_self_eq_true, cond_true, Tr.ev_t]
      by_cases he : a' = a
      ·subst he
       rw [beq_self_eq_true, cond_true, if_pos (.inr ⟨rfl, rfl⟩)]
       rfl
      ·have hne : (((a' : Nat) : Int) == ((a : Nat) : Int)) = false := beq_eq_false_iff_ne.2 fun h => he (by omega)
       rw [hne, cond_false, if_neg (fun h => h.elim (by omega) fun h => he h.1)]
       rfl
     ·rw [beq_eq_false_iff_ne.2 hq, cond_false, if_neg (fun h => h.elim hlt2 fun h => hq h.2)]
      rfl)
  (fun st _ => by
   have hle : ¬ ((L.length + 1 : Nat) : Int) ≤ (((war ds (a : Int) L).length : Nat) : Int) := by omega
   unfold woq
   dsimp only
   rw [Tr.ev_t, decide_eq_false hle, cond_false, Tr.ev_l])).1
 have e0 : cK o ds S L a 0 = own0 o S a := by unfold cK; simp [wak]
 have h1 : wsj (L, (S, ((a : Int), (war ds (a : Int) L, (o, (ds, ((0 : Int), (0 : Int)))))))) (cK o ds S L a 0, (1, ((encS ds L st).1, ((encS ds L st).2.1, (encS ds L st).2.2)))) = some (encS ds L (inF o ds S L a st)) := h
 rw [e0] at h1
 exact h1
theorem warr (hf : Fld o ds) (hS : S.length ≤ 1000) (hl : Cl ds.length L) (h7 : L.length ≤ 7) : wavy o ds L S = some (encS ds L (wxg o ds S L)) := by
 have ho := hf.len
 have h := (wap (f := fun v => (wor (L, (S, (o, (ds, ((0 : Int), (0 : Int)))))) v).ev) (n := o.length) (mk := fun i (st : Option (Nat × Int × Nat)) => ((i : Int), ((encS ds L st).1, ((encS ds L st).2.1, (encS ds L st).2.2)))) (I := fun _ st => StOK o ds S L st) (g := fun st a => inF o ds S L a st) (fin := encS ds L) (s0 := none) (fun a c m h => by cases h)
  (fun i st hi hs => by
   have h0 := (wuh (o := o) (ds := ds) (S := S) (L := L) hi (p := fun _ _ => False) hs (fun b j h => h.elim) L.length (Nat.le_refl _)).1
   refine ⟨?_, h0⟩
   have e1 := wlb (l := S) (by omega) (i : Int)
   have e2 := waao hf (a := (i : Int)) (by omega) (by omega) hl (by omega)
   have e3 := wbwg (S := S) hf hl h7 hi hs
   have hlt : (i : Int) < ((o.length : Nat) : Int) := by omega
   have hw : IntKind.wrap .i64 ((i : Int) + 1) = ((i + 1 : Nat) : Int) := by rw [wrap64 (by omega) (by omega)]; rfl
   have g1 : inR (i : Int) o.length = true := wcq hi
   unfold own0 at e3
   unfold wor
   dsimp only
   rw [Tr.ev_t, decide_eq_true hlt, cond_true, Tr.ev_g, g1, cond_true, Tr.ev_c, e1, Option.bind_some, Tr.ev_t, hw, Int.toNat_natCast]
   cases hc : S.contains (i : Int) with
   | true =>
    rw [hc, if_pos rfl] at e3
    rw [cond_true, Tr.ev_c, e2, Option.bind_some, Tr.ev_c, e3, Option.bind_some]
    rfl
   | false =>
    rw [hc, if_neg (by simp)] at e3
    rw [cond_false, Tr.ev_c, e2, Option.bind_some, Tr.ev_c, e3, Option.bind_some]
    rfl)
  (fun st _ => by
   have hlt : ¬ ((o.length : Nat) : Int) < ((o.length : Nat) : Int) := by omega
   unfold wor
   dsimp only
   rw [Tr.ev_t, decide_eq_false hlt, cond_false, Tr.ev_l])).1
 have h1 : wanm (L, (S, (o, (ds, ((0 : Int), (0 : Int)))))) (0, (0, ([], 0))) = some (encS ds L (wxg o ds S L)) := h
 unfold wavy wbhl
 rw [Tr.ev_c, h1, Option.bind_some, Tr.ev_l]
end
theorem wbpg {l : List Int} (hl : l.length ≤ 1000) {p : HL [.int .i64] → Option Bool} {q : Int → Bool} (hp : ∀ x ∈ l, p (x, ()) = some (q x)) : wavo p l = some (l.filter fun x => !q x) := by
 have hix := wiy (l := l) (by omega) hp
 unfold wavo wbgh
 cases hf : l.findIdx? q with
 | none =>
  rw [hf] at hix
  have e : (Option.elim (none : Option Nat) (-1) fun i => ((i : Nat) : Int)) = -1 := rfl
  rw [e] at hix
  have hno := List.findIdx?_eq_none_iff.1 hf
  rw [Tr.ev_c, hix, Option.bind_some, Tr.ev_t, show ((-1 : Int) == -1) = true from rfl, cond_true, Tr.ev_l, List.filter_eq_self.2 fun s hs => by rw [hno s hs]; rfl]
 | some i0 =>
  rw [hf] at hix
  have e : (Option.elim (some i0 : Option Nat) (-1) fun i => ((i : Nat) : Int)) = (i0 : Int) := rfl
  rw [e] at hix
  obtain ⟨hi0, hq0, hbef⟩ := List.findIdx?_eq_some_iff_getElem.1 hf
  have hpre : (l.take (i0 + 1)).filter (fun s => !q s) = l.take i0 := by
   rw [List.take_succ_eq_append_getElem hi0, List.filter_append]
   have e1 : (l.take i0).filter (fun s => !q s) = l.take i0 := List.filter_eq_self.2 fun s hs => by
    obtain ⟨j, hj, rfl⟩ := List.getElem_of_mem hs
    have hji : j < i0 := by simp at hj; omega
    have := hbef j hji
    simpa using this
   rw [e1]
   simp [hq0]
  have h := wap (f := fun v => (wkm p v).ev) (n := l.length - (i0 + 1)) (mk := fun k (st : Nat × List Int) => ((st.1 : Int), (((i0 + 1 + k : Nat) : Int), st.2)))
   (I := fun k st => st.2.length = l.length ∧ st.1 ≤ i0 + k ∧ st.2.take st.1 = (l.take (i0 + 1 + k)).filter (fun s => !q s) ∧ st.2.drop (i0 + 1 + k) = l.drop (i0 + 1 + k))
   (g := fun st k => if q (l.getD (i0 + 1 + k) 0) = true then st else (st.1 + 1, st.2.set st.1 (l.getD (i0 + 1 + k) 0))) (fin := fun st => ((st.1 : Int), st.2)) (s0 := (i0, l))
   ⟨rfl, Nat.le_refl _, by rw [Nat.add_zero, hpre], rfl⟩
   (fun k st hk hI => by
    obtain ⟨i, jx⟩ := st
    obtain ⟨a1, a2, a3, a4⟩ := hI
    simp only at a1 a2 a3 a4 ⊢
    have hj : i0 + 1 + k < l.length := by omega
    have hjx : i0 + 1 + k < jx.length := by omega
    have hat : jx.getD (i0 + 1 + k) 0 = l.getD (i0 + 1 + k) 0 := by
     have := congrArg (fun l : List Int => l[0]?) a4
     simp only [List.getElem?_drop, Nat.add_zero] at this
     rw [List.getD_eq_getElem?_getD, List.getD_eq_getElem?_getD, this]
    have hpk := hp _ (getD_mem (d := 0) hj)
    have htk : l.take (i0 + 1 + (k + 1)) = l.take (i0 + 1 + k) ++ [l.getD (i0 + 1 + k) 0] := by
     rw [show i0 + 1 + (k + 1) = (i0 + 1 + k) + 1 by omega, take_snoc 0 hj]
    have hd1 : jx.drop (i0 + 1 + (k + 1)) = l.drop (i0 + 1 + (k + 1)) := by
     have := congrArg (List.drop 1) a4
     rw [List.drop_drop, List.drop_drop] at this
     exact this
    have hcast : ((i0 + 1 + k : Nat) : Int) + 1 = ((i0 + 1 + (k + 1) : Nat) : Int) := by omega
    cases hq : q (l.getD (i0 + 1 + k) 0) with
    | true =>
     rw [if_pos rfl]
     refine ⟨?_, a1, by omega, ?_, hd1⟩
     ·simp (disch := omega) only [EV, wkm, hjx, hat, hpk, hq, hcast]
     ·rw [a3, htk, List.filter_append, List.filter_cons_of_neg (by rw [hq]; exact Bool.noConfusion), List.filter_nil, List.append_nil]
    | false =>
     rw [if_neg (by simp)]
     have hil : i < jx.length := by omega
     refine ⟨?_, by simpa using a1, by omega, ?_, ?_⟩
     ·simp (disch := omega) only [EV, wkm, hjx, hat, hpk, hq, hcast, hil]
      rfl
     ·rw [take_snoc 0 (by simpa using hil), List.take_set_of_le (Nat.le_refl _), a3, htk, List.filter_append]
      have e2 : (jx.set i (l.getD (i0 + 1 + k) 0)).getD i 0 = l.getD (i0 + 1 + k) 0 := by
       rw [List.getD_eq_getElem?_getD, List.getElem?_set_self hil]
       rfl
      rw [e2, List.filter_cons_of_pos (by rw [hq]; rfl), List.filter_nil]
     ·rw [List.drop_set_of_lt (by omega)]
      exact hd1)
   (fun st hI => by
    have e3 : i0 + 1 + (l.length - (i0 + 1)) = st.2.length := by rw [hI.1]; omega
    simp (disch := omega) only [EV, wkm, e3, Nat.lt_irrefl])
  obtain ⟨h1, b1, b2, b3, _⟩ := h
  generalize (List.range (l.length - (i0 + 1))).foldl _ (i0, l) = st at h1 b1 b2 b3
  obtain ⟨i, jx⟩ := st
  simp only at h1 b1 b2 b3
  have h2 : wamx p ((i0 : Int), ((i0 : Int) + 1, l)) = some ((i : Int), jx) := h1
  have hneg : ((i0 : Int) == -1) = false := beq_eq_false_iff_ne.2 (by omega)
  have e4 : (jx.take i ++ List.replicate (jx.length - i) (0 : Int)).length = jx.length := by
   simp only [List.length_append, List.length_take, List.length_replicate]
   omega
  have e5 : (jx.take i ++ List.replicate (jx.length - i) (0 : Int)).take i = jx.take i := by
   rw [List.take_append_of_le_length (by rw [List.length_take]; omega), List.take_take, Nat.min_self]
  have hw : IntKind.wrap .i64 ((i0 : Int) + 1) = (i0 : Int) + 1 := wrap64 (by omega) (by omega)
  have g1 : (decide ((0 : Int) ≤ (i : Int)) && decide ((i : Int) ≤ ((jx.length : Nat) : Int))) = true := by rw [decide_eq_true (by omega), decide_eq_true (by omega)]; rfl
  rw [Tr.ev_c, hix, Option.bind_some, Tr.ev_t, hneg, cond_false, hw, Tr.ev_c, h2, Option.bind_some, Tr.ev_g]
  dsimp only
  rw [g1, cond_true, Int.toNat_natCast, Tr.ev_g, e4, g1, cond_true, Tr.ev_l, e5, b3, List.take_of_length_le (by omega)]
end Go.Proofs.YtnagpmhaddfgmaaGreat
/-
 Plain laws: greedy stars, all rounds, and what they cost.
-/
namespace Go.Proofs.YtnagpmhaddfgmaaGreat
section
variable (o : List Int) (ds : List (List Int))
def wbt (S L : List Int) : List Int × List Int := match wxg o ds S L with
 | some (a, _, m) => (if S.contains (a : Int) then S else ins (a : Int) S, L.filter fun x => !((war ds (a : Int) L).take m).contains x)
 | none => (S, L)
def wib : Nat → List Int → List Int → List Int
 | 0, S, _ => S
 | k + 1, S, L => if L = [] then S else wib k (wbt o ds S L).1 (wbt o ds S L).2
def wjg : Nat → List Int → List Int → Int
 | 0, _, _ => 0
 | k + 1, S, L => if L = [] then 0 else (match wxg o ds S L with
  | some (_, c, _) => c
  | none => 0) + wjg k (wbt o ds S L).1 (wbt o ds S L).2
end
section
variable {o : List Int} {ds : List (List Int)} {S L : List Int}
theorem wars {a m : Nat} : Cl ds.length L → Cl ds.length ((war ds (a : Int) L).take m) := fun h x hx => wmo h x (List.mem_of_mem_take hx)
theorem whc (hf : Fld o ds) (hS : ris o.length S) (hl : Cl ds.length L) (hn : L.Nodup) (hL : L ≠ []) : ∃ a c m, wxg o ds S L = some (a, c, m) ∧ a < o.length ∧ 1 ≤ m ∧ m ≤ L.length ∧ c = cK o ds S L a m ∧ (∀ b k, b < o.length → 1 ≤ k → k ≤ L.length → c * (k : Int) ≤ cK o ds S L b k * (m : Int)) ∧
  wbt o ds S L = (if S.contains (a : Int) then S else ins (a : Int) S, L.filter fun x => !((war ds (a : Int) L).take m).contains x) ∧ ris o.length (wbt o ds S L).1 ∧ Cl ds.length (wbt o ds S L).2 ∧ (wbt o ds S L).2.Nodup ∧ (wbt o ds S L).2.length < L.length := by
 obtain ⟨a, c, m, e, q1, q2, q3, q4, q5⟩ := waia (o := o) (ds := ds) (S := S) (L := L) hf.pos hL
 have hg : wbt o ds S L = (if S.contains (a : Int) then S else ins (a : Int) S, L.filter fun x => !((war ds (a : Int) L).take m).contains x) := by unfold wbt; rw [e]
 refine ⟨a, c, m, e, q1, q2, q3, q4, q5, hg, ?_, ?_, ?_, ?_⟩
 ·rw [hg]
  dsimp only
  split
  ·exact hS
  next hc => exact hS.ins (by omega) (by omega) (wbd (by simpa using hc))
 ·rw [hg]; exact fun x hx => hl x (List.mem_filter.1 hx).1
 ·rw [hg]; exact hn.filter _
 ·rw [hg]
  dsimp only
  have hlen := wcj ds (a : Int) L
  have h0 : 0 < ((war ds (a : Int) L).take m).length := by rw [List.length_take]; omega
  have hm := getD_mem (l := (war ds (a : Int) L).take m) (d := 0) h0
  have hm2 := (wcs ds (a : Int) L).2.mem_iff.1 (List.mem_of_mem_take hm)
  refine Nat.lt_of_le_of_ne (List.length_filter_le _ _) fun h => ?_
  have := List.length_filter_eq_length_iff.1 h _ hm2
  rw [List.contains_iff_mem.2 hm] at this
  cases this
theorem wbwh {T : List Int} (hl : L.length ≤ 1000) (hT : T.length ≤ 1000) (k : (List (Int)) × ((List (Int)) × ((List (Int)) × ((List (List (Int))) × ((Int) × ((List (Int)) × (Int))))))) (k1 : k.2.1 = L) (k2 : k.2.2.2.2.2.1 = T) : wzk k (0, []) = some (L.filter fun x => !T.contains x) := by
 have h := (wez (f := fun v => (wko k v).ev) L 0 (mk := fun i (s : List Int) => ((i : Int), s)) (I := fun i s => s.length ≤ i) (g := fun s x => if T.contains x then s else s ++ [x]) (fin := fun s => s) (s0 := []) (Nat.le_refl _)
  (fun i s hi hs => by
   have r1 := wpz s (L.getD i 0) (by omega)
   have e1 := wlb (l := T) (by omega) (L.getD i 0)
   cases hb : T.contains (L.getD i 0) with
   | true =>
    rw [hb] at e1
    refine ⟨?_, by simp; omega⟩
    simp (disch := omega) only [EV, wko, k1, k2, hi, e1]
    rfl
   | false =>
    rw [hb] at e1
    refine ⟨?_, by simp; omega⟩
    simp (disch := omega) only [EV, wko, k1, k2, hi, e1, r1]
    rfl)
  (fun s _ => by simp (disch := omega) only [EV, wko, k1, Nat.lt_irrefl])).1
 have key : ∀ (l acc : List Int), l.foldl (fun s x => if T.contains x then s else s ++ [x]) acc = acc ++ l.filter fun x => !T.contains x := by
  intro l
  induction l with
  | nil => intro acc; simp
  | cons x l ih =>
   intro acc
   rw [List.foldl_cons, ih, List.filter_cons]
   cases T.contains x <;> simp
 have h1 : wzk k (0, []) = _ := h
 rw [h1, key]
 rfl
theorem wbwi (hf : Fld o ds) : ∀ (m : Nat) {S L : List Int}, L.length ≤ m → m ≤ 7 → ris o.length S → Cl ds.length L → L.Nodup → wot (o, ds) (S, L) = some (wib o ds m S L) := by
 intro m
 induction m with
 | zero =>
  intro S L hm _ _ _ _
  have := List.eq_nil_of_length_eq_zero (Nat.le_zero.1 hm)
  subst this
  unfold wot
  rw [wau]
  rfl
 | succ m ih =>
  intro S L hm h7 hS hl hn
  by_cases hL : L = []
  ·subst hL
   unfold wot
   rw [wau]
   rfl
  ·obtain ⟨a, c, k, e, q1, q2, q3, q4, q5, hg, g1, g2, g3, g4⟩ := whc hf hS hl hn hL
   have hsl := hS.len
   have ho := hf.len
   have e1 := warr hf (S := S) (by omega) hl (by omega)
   rw [e] at e1
   have htl : ((war ds (a : Int) L).take k).length ≤ 7 := by rw [List.length_take, wcj]; omega
   have e2 := wbwh (L := L) (T := (war ds (a : Int) L).take k) (by omega) (by omega) (S, (L, (o, (ds, ((a : Int), ((war ds (a : Int) L).take k, c)))))) rfl rfl
   have e3 := wlb (l := S) (by omega) (a : Int)
   have hpos : (0 : Int) < ((L.length : Nat) : Int) := by have := List.length_pos_iff.2 hL; omega
   have ih' := ih (S := (wbt o ds S L).1) (L := (wbt o ds S L).2) (by omega) (by omega) g1 g2 g3
   have hrun : wib o ds (m + 1) S L = wib o ds m (wbt o ds S L).1 (wbt o ds S L).2 := by rw [wib, if_neg hL]
   rw [hrun]
   unfold wot at ih' ⊢
   rw [wau]
   have hst : (wsk (o, ds) (S, L)).ev = some (.inl (wbt o ds S L)) := by
    unfold encS at e1
    rw [hg]
    unfold wsk
    dsimp only
    rw [Tr.ev_t, decide_eq_true hpos, cond_true, Tr.ev_c, e1, Option.bind_some, Tr.ev_c, e2, Option.bind_some, Tr.ev_c]
    dsimp only
    rw [e3, Option.bind_some, Tr.ev_t]
    cases hc : S.contains (a : Int) with
    | true => rfl
    | false =>
     have e4 := wte (l := S) (x := (a : Int)) (by omega) (wbd hc)
     rw [Bool.not_false, cond_true, Tr.ev_c, e4, Option.bind_some, Tr.ev_l]
     rfl
   rw [hst]
   exact ih'
theorem waas {l : List Int} (hl : l.length ≤ 1000) (x : Int) : wavq l x = some (l.contains x) := by
 have h := wdl (f := fun v => (wgi (l, (x, ((l.length : Nat) : Int))) v).ev) (l := l) 0 (fun y => x == y) (mk := fun i => (i : Int)) (yes := fun i => .inr (i : Int)) (no := .inl ())
  (fun i hi => by
   simp (disch := omega) only [EV, wgi, hi]
   cases (x == l.getD i 0) <;> rfl)
  (by simp (disch := omega) only [EV, wgi, Nat.lt_irrefl])
 have h1 : wzb (l, (x, ((l.length : Nat) : Int))) 0 = _ := h
 have h2 : l.contains x = (l.findIdx? fun y => x == y).isSome := by
  rw [List.contains_eq_any_beq, List.findIdx?_isSome]
 unfold wavq wbgl wamp wavg
 rw [h2, Tr.ev_c, Tr.ev_c, h1, Option.bind_some]
 cases l.findIdx? fun y => x == y with
 | none => rfl
 | some i =>
  have : (0 : Int) ≤ (i : Int) := by omega
  simp only [Option.elim_some, wafc, Tr.ev_l, Option.bind_some, decide_eq_true this, Option.isSome_some]
theorem wbph {x a : Nat} (h : x.testBit a = true) : x ||| 2 ^ a = x := Nat.eq_of_testBit_eq fun i => by
 rw [Nat.testBit_or, Nat.testBit_two_pow]
 by_cases e : a = i
 ·subst e; simp [h]
 ·simp [e]
theorem wbwj (hf : Fld o ds) : ∀ (m : Nat) {x : Nat} {S L : List Int}, L.length ≤ m → m ≤ 7 → x < 128 → lst x = S → ris o.length S → Cl ds.length L → L.Nodup → ∃ y : Nat, y < 128 ∧ lst y = wib o ds m S L ∧ wqt (o, ds) ((x : Int), L) = some (y : Int) := by
 intro m
 induction m with
 | zero =>
  intro x S L hm _ hx hxS _ _ _
  have := List.eq_nil_of_length_eq_zero (Nat.le_zero.1 hm)
  subst this
  refine ⟨x, hx, hxS, ?_⟩
  unfold wqt
  rw [wau]
  rfl
 | succ m ih =>
  intro x S L hm h7 hx hxS hS hl hn
  by_cases hL : L = []
  ·subst hL
   refine ⟨x, hx, hxS, ?_⟩
   unfold wqt
   rw [wau]
   rfl
  ·obtain ⟨a, c, k, e, q1, q2, q3, q4, q5, hg, g1, g2, g3, g4⟩ := whc hf hS hl hn hL
   have ho := hf.len
   have e1 := wbwf hf hx hxS hl (show L.length ≤ 7 by omega)
   rw [e] at e1
   have e2 := wpj hf (a := (a : Int)) (by omega) (by omega) hl (by omega)
   have hnl := wcj ds (a : Int) L
   have htl : ((war ds (a : Int) L).take k).length ≤ 7 := by rw [List.length_take]; omega
   have e3 := wbpg (l := L) (by omega) (p := fun h63_ => Option.bind (F_zt h63_.1 ((war ds (a : Int) L).take k)) fun y64_ => some y64_) (q := fun y => ((war ds (a : Int) L).take k).contains y) (fun y _ => by
    show Option.bind (F_zt y ((war ds (a : Int) L).take k)) (fun y => some y) = _
    unfold F_zt T_zt
    rw [Tr.ev_c, waas (by omega)]
    rfl)
   have hpos : (0 : Int) < ((L.length : Nat) : Int) := by have := List.length_pos_iff.2 hL; omega
   -- the number of the sites that are open
   obtain ⟨y, y1, y2, y3⟩ : ∃ y : Nat, y < 128 ∧ orB (x : Int) a = (y : Int) ∧ lst y = (wbt o ds S L).1 := by
    rw [hg]
    dsimp only
    cases hc : S.contains (a : Int) with
    | true =>
     have hb := (bagP hx).has a (by omega)
     have hk := List.all_eq_true.1 waaq x (List.mem_range.2 hx)
     simp only [chkB, Bool.and_eq_true, List.all_eq_true, List.mem_range, beq_iff_eq, Bool.or_eq_true] at hk
     have hbit := (hk.2 a (by omega)).1.1.1.1.1.1.2
     rw [hxS, hc] at hbit
     refine ⟨x, hx, ?_, by rw [if_pos rfl]; exact hxS⟩
     rw [wbcl hx (by omega), wbph hbit.symm]
    | false =>
     obtain ⟨y, y1, y2, y3⟩ := (bagP hx).put a (by omega) (by rw [hxS]; exact wbd hc)
     exact ⟨y, y1, y2, by rw [if_neg (by simp), y3, hxS]⟩
   obtain ⟨z, z1, z2, z3⟩ := ih (x := y) (S := (wbt o ds S L).1) (L := (wbt o ds S L).2) (by omega) (by omega) y1 y3 g1 g2 g3
   have hrun : wib o ds (m + 1) S L = wib o ds m (wbt o ds S L).1 (wbt o ds S L).2 := by rw [wib, if_neg hL]
   refine ⟨z, z1, by rw [hrun]; exact z2, ?_⟩
   unfold wqt at z3 ⊢
   rw [wau]
   have hst : (wadl (o, ds) ((x : Int), L)).ev = some (.inl ((y : Int), (wbt o ds S L).2)) := by
    unfold encI at e1
    dsimp only at e1
    unfold orB at y2
    have ga : (0 : Int) ≤ (a : Int) := by omega
    have gk : (decide ((0 : Int) ≤ (k : Int)) && decide ((k : Int) ≤ (((war ds (a : Int) L).length : Nat) : Int))) = true := by rw [decide_eq_true (by omega), decide_eq_true (by omega)]; rfl
    rw [hg]
    unfold wadl
    dsimp only
    rw [Tr.ev_t, decide_eq_true hpos, cond_true, Tr.ev_c, e1, Option.bind_some, Tr.ev_g]
    dsimp only
    rw [decide_eq_true ga, cond_true, Tr.ev_c, e2, Option.bind_some, Tr.ev_g, gk, cond_true, Int.toNat_natCast, List.drop_zero, Tr.ev_c, e3, Option.bind_some, Tr.ev_l, Int.toNat_natCast, y2]
   rw [hst]
   exact z3
end
end Go.Proofs.YtnagpmhaddfgmaaGreat
/-
 Plain laws: greedy stars cost no more than the harmonic number times the least total.
-/
namespace Go.Proofs.YtnagpmhaddfgmaaGreat
theorem wlg {α : Type} (f : α → Int) : ∀ (l : List α) (a : Int), l.foldl (fun a x => a + f x) a = a + wak l f
 | [], a => by simp [wak]
 | x :: l, a => by
  rw [List.foldl_cons, wlg f l]
  simp only [wak]
  omega
theorem whd (o s : List Int) : pay o s = wak s fun x => o.getD x.toNat 0 := by
 have h := wqu s 0 (fun a x => a + o.getD x.toNat 0) 0
 unfold pay pl
 rw [h, wlg, Int.zero_add]
theorem wfc (ds : List (List Int)) (s : List Int) : serve ds s = wak (List.range ds.length) (near ds s) := by
 unfold serve
 rw [wlg, Int.zero_add]
theorem wxi (x : Int) : ∀ l : List Int, (ins x l).Perm (x :: l)
 | [] => .refl _
 | a :: l => by
  simp only [ins]
  split
  ·exact ((wxi x l).cons a).trans (.swap x a l)
  ·exact .refl _
theorem waat (o : List Int) (x : Int) (s : List Int) : pay o (ins x s) = pay o s + o.getD x.toNat 0 := by
 rw [whd, whd, wgp _ (wxi x s)]
 simp only [wak]
 omega
theorem wjh {α β : Type} (g : α → β) (f : β → Int) : ∀ l : List α, wak (l.map g) f = wak l fun x => f (g x)
 | [] => rfl
 | x :: l => by simp only [List.map_cons, wak]; rw [wjh g f l]
theorem wafq (f : Int → Int) : ∀ {L R : List Int}, L.Nodup → (∀ x ∈ L, x ∈ R) → (∀ x ∈ R, 0 ≤ f x) → wak L f ≤ wak R f
 | [], R, _, _, h => wbr h
 | x :: L, R, hn, hs, h => by
  obtain ⟨h1, h2⟩ := List.nodup_cons.1 hn
  have hp := List.perm_cons_erase (hs x (by simp))
  have ih := wafq f (L := L) (R := R.erase x) h2 (fun y hy => (List.mem_erase_of_ne fun e : y = x => h1 (e ▸ hy)).2 (hs y (List.mem_cons_of_mem _ hy))) fun y hy => h y (List.mem_of_mem_erase hy)
  rw [wgp f hp]
  simp only [wak]
  omega
theorem wia {α : Type} (f : α → Int) (p : α → Bool) : ∀ l : List α, wak (l.filter p) f = wak l fun x => if p x then f x else 0
 | [] => rfl
 | x :: l => by
  rw [List.filter_cons]
  cases hp : p x with
  | true => simp only [if_true, wak, hp]; rw [wia f p l]
  | false => simp only [Bool.false_eq_true, if_false, wak, hp]; rw [wia f p l]; omega
theorem wlh {L T : List Int} (hL : L.Nodup) (hT : T.Nodup) (hs : ∀ x ∈ T, x ∈ L) : L.Perm ((L.filter fun x => !T.contains x) ++ T) := by
 have h1 := List.filter_append_perm (fun x => !T.contains x) L
 have h2 : (L.filter fun x => !!T.contains x).Perm T := (List.perm_ext_iff_of_nodup (hL.filter _) hT).2 fun x => by
  rw [List.mem_filter, Bool.not_not, List.contains_iff_mem]
  exact ⟨fun h => h.2, fun h => ⟨hs x h, h⟩⟩
 exact h1.symm.trans (List.Perm.append_left _ h2)
theorem wart {o : List Int} {ds : List (List Int)} {s : List Int} (j : Nat) (hp : Places s o.length) {x : Int} (hx : x ∈ s) : near ds s j ≤ at2 ds j x.toNat := by
 have key : ∀ k, k ≤ s.length → ∀ i, i < k → at2 ds j ((List.range k).foldl (wej ds j s) (pl s 0)) ≤ at2 ds j (pl s i) := by
  intro k
  induction k with
  | zero => intro _ i hi; omega
  | succ k ih =>
   intro hk i hi
   rw [wal]
   have h1 := ih (by omega)
   generalize (List.range k).foldl (wej ds j s) (pl s 0) = b at h1
   unfold wej
   by_cases e : i = k
   ·subst e
    split <;> omega
   ·have := h1 i (by omega)
    split <;> omega
 obtain ⟨i, hi, e⟩ := List.mem_iff_getElem.1 hx
 have h := key s.length (Nat.le_refl _) i hi
 have hpl : pl s i = x.toNat := by
  unfold pl
  rw [List.getD_eq_getElem?_getD, List.getElem?_eq_getElem hi, Option.getD_some, e]
 rw [hpl] at h
 exact h
theorem wafr (ds : List (List Int)) (j : Nat) {s : List Int} (h0 : 0 < s.length) : ∃ k, k < s.length ∧ srv ds j s = pl s k := by
 unfold srv
 refine wwn (Q := fun b => ∃ k, k < s.length ∧ b = pl s k) (fun b k hk hb => ?_) ⟨0, h0, rfl⟩
 unfold wej
 split
 ·exact ⟨k, List.mem_range.1 hk, rfl⟩
 ·exact hb
section
variable {o : List Int} {ds : List (List Int)}
theorem wqz (hf : Fld o ds) : ∀ (m : Nat) {S L : List Int}, L.length ≤ m → ris o.length S → Cl ds.length L → L.Nodup →
  ris o.length (wib o ds m S L) ∧ (∀ x ∈ S, x ∈ wib o ds m S L) ∧ (L ≠ [] → wib o ds m S L ≠ []) ∧ pay o (wib o ds m S L) + wak L (fun j => near ds (wib o ds m S L) j.toNat) ≤ pay o S + wjg o ds m S L := by
 intro m
 induction m with
 | zero =>
  intro S L hm hS _ _
  have := List.eq_nil_of_length_eq_zero (Nat.le_zero.1 hm)
  subst this
  exact ⟨hS, fun x hx => hx, fun h => absurd rfl h, by simp [wib, wjg, wak]⟩
 | succ m ih =>
  intro S L hm hS hl hn
  by_cases hL : L = []
  ·subst hL
   rw [wib, if_pos rfl, wjg, if_pos rfl]
   exact ⟨hS, fun x hx => hx, fun h => absurd rfl h, by simp [wak]⟩
  ·obtain ⟨a, c, k, e, q1, q2, q3, q4, q5, hg, g1, g2, g3, g4⟩ := whc hf hS hl hn hL
   have hrun : wib o ds (m + 1) S L = wib o ds m (wbt o ds S L).1 (wbt o ds S L).2 := by rw [wib, if_neg hL]
   have hcost : wjg o ds (m + 1) S L = c + wjg o ds m (wbt o ds S L).1 (wbt o ds S L).2 := by rw [wjg, if_neg hL, e]
   obtain ⟨i1, i2, _, i4⟩ := ih (S := (wbt o ds S L).1) (L := (wbt o ds S L).2) (by omega) g1 g2 g3
   rw [hrun, hcost]
   have haS : (a : Int) ∈ (wbt o ds S L).1 := by
    rw [hg]
    dsimp only
    split
    next hc => exact List.contains_iff_mem.1 hc
    next => exact wfm.2 (.inl rfl)
   have haR := i2 _ haS
   generalize hR : wib o ds m (wbt o ds S L).1 (wbt o ds S L).2 = R at i1 i2 i4 haR ⊢
   have hne : R ≠ [] := fun h => by rw [h] at haR; cases haR
   have hpl := i1.places hf.len
   refine ⟨i1, fun x hx => i2 x ?_, fun _ => hne, ?_⟩
   ·rw [hg]
    dsimp only
    split
    ·exact hx
    ·exact wfm.2 (.inr hx)
   ·
    have hTn : ((war ds (a : Int) L).take k).Nodup := ((wcs ds (a : Int) L).2.nodup_iff.2 hn).sublist (List.take_sublist _ _)
    have hsp := wlh hn hTn fun x hx => (wcs ds (a : Int) L).2.mem_iff.1 (List.mem_of_mem_take hx)
    have hsum : wak L (fun j => near ds R j.toNat) = wak (wbt o ds S L).2 (fun j => near ds R j.toNat) + wak ((war ds (a : Int) L).take k) (fun j => near ds R j.toNat) := by
     rw [wgp _ hsp, wfn, hg]
    have hserv : wak ((war ds (a : Int) L).take k) (fun j => near ds R j.toNat) ≤ wak ((war ds (a : Int) L).take k) (kd ds (a : Int)) := wdd fun j _ => by
     have := wart (o := o) (ds := ds) j.toNat hpl haR
     unfold kd
     exact this
    have hpay : pay o (wbt o ds S L).1 = pay o S + own0 o S a := by
     rw [hg]
     unfold own0
     dsimp only
     cases hc : S.contains (a : Int) with
     | true => simp
     | false =>
      rw [if_neg (by simp), if_neg (by simp), waat, Int.toNat_natCast]
    have hc : c = own0 o S a + wak ((war ds (a : Int) L).take k) (kd ds (a : Int)) := q4
    omega
def aK (o : List Int) (ds : List (List Int)) (w : Nat → Nat) (b : Nat) : Int := o.getD b 0 + wak (List.range ds.length) fun j => if w j = b then at2 ds j b else 0
def toN (L : List Int) : List Nat := L.map Int.toNat
theorem wazt (w : Nat → Nat) (L : List Int) (b : Nat) (a : Int) (ds : List (List Int)) : weo w (toN L) b = ((war ds a L).filter fun x => decide (w x.toNat = b)).length := by
 unfold weo toN
 rw [List.countP_map, ← List.countP_eq_length_filter, (wcs ds a L).2.countP_eq]
 rfl
theorem wcgq (hf : Fld o ds) {S L : List Int} (hl : Cl ds.length L) (hn : L.Nodup) (w : Nat → Nat) {b : Nat} (hb : b < o.length) : cK o ds S L b (weo w (toN L) b) ≤ aK o ds w b := by
 obtain ⟨h1, h2⟩ := wcs ds (b : Int) L
 have hc := wazt w L b (b : Int) ds
 have h3 := waap (kd ds (b : Int)) h1 (List.filter_sublist (p := fun x => decide (w x.toNat = b)) (l := war ds (b : Int) L))
 rw [← hc, wia, wgp _ h2] at h3
 have h4 := wafq (fun x => if decide (w x.toNat = b) = true then kd ds (b : Int) x else 0) (L := L) (R := (List.range ds.length).map fun j : Nat => (j : Int)) hn (fun x hx => List.mem_map.2 ⟨x.toNat, List.mem_range.2 (by have := hl x hx; omega), by have := hl x hx; omega⟩) (fun x hx => by
  obtain ⟨j, hj, rfl⟩ := List.mem_map.1 hx
  have hj := List.mem_range.1 hj
  have := wbwd hf hb (x := (j : Int)) (by omega)
  split <;> omega)
 rw [wjh] at h4
 have h5 : wak (List.range ds.length) (fun j => if decide (w ((j : Nat) : Int).toNat = b) = true then kd ds (b : Int) ((j : Nat) : Int) else 0) = wak (List.range ds.length) fun j => if w j = b then at2 ds j b else 0 := wbj fun j _ => by
  unfold kd at2
  simp only [Int.toNat_natCast, decide_eq_true_eq]
 have h6 := (hf.cost b hb).1
 unfold cK aK own0
 rw [h5] at h4
 split <;> omega
theorem waau (hf : Fld o ds) {O : List Nat} (hO : O.Nodup) (hOn : ∀ b ∈ O, b < o.length) {w : Nat → Nat} (hw : ∀ j, j < ds.length → w j ∈ O) : ∀ (m : Nat) {S L : List Int}, L.length ≤ m → m ≤ 7 → ris o.length S → Cl ds.length L → L.Nodup →
  420 * wjg o ds m S L ≤ wak O fun b => aK o ds w b * harm (weo w (toN L) b) := by
 have hA : ∀ b ∈ O, 0 ≤ aK o ds w b := fun b hb => by
  have h1 := (hf.cost b (hOn b hb)).1
  have h2 : 0 ≤ wak (List.range ds.length) fun j => if w j = b then at2 ds j b else 0 := wbr fun j hj => by
   have := hf.at2 (List.mem_range.1 hj) (hOn b hb)
   split <;> omega
  unfold aK
  omega
 have hharm : ∀ n, 0 ≤ harm n := fun n => by
  have := wpn n 0
  rw [Nat.zero_add] at this
  exact this
 have hnn : ∀ L : List Int, 0 ≤ wak O fun b => aK o ds w b * harm (weo w (toN L) b) := fun L => wbr fun b hb => Int.mul_nonneg (hA b hb) (hharm _)
 intro m
 induction m with
 | zero =>
  intro S L _ _ _ _ _
  have := hnn L
  simp only [wjg]
  omega
 | succ m ih =>
  intro S L hm h7 hS hl hn
  by_cases hL : L = []
  ·have := hnn L
   rw [wjg, if_pos hL]
   omega
  ·obtain ⟨a, c, k, e, q1, q2, q3, q4, q5, hg, g1, g2, g3, g4⟩ := whc hf hS hl hn hL
   have hcost : wjg o ds (m + 1) S L = c + wjg o ds m (wbt o ds S L).1 (wbt o ds S L).2 := by rw [wjg, if_neg hL, e]
   have ih' := ih (S := (wbt o ds S L).1) (L := (wbt o ds S L).2) (by omega) (by omega) g1 g2 g3
   have hTn : ((war ds (a : Int) L).take k).Nodup := ((wcs ds (a : Int) L).2.nodup_iff.2 hn).sublist (List.take_sublist _ _)
   have hsp := wlh hn hTn fun x hx => (wcs ds (a : Int) L).2.mem_iff.1 (List.mem_of_mem_take hx)
   have hTl : ((war ds (a : Int) L).take k).length = k := by rw [List.length_take, wcj]; omega
   have hcc := (waar (S := S) hf hl (by omega) q1 k).1
   rw [← q4] at hcc
   have hstep := wark (O := O) hO (w := w) (L := toN L) (T := toN ((war ds (a : Int) L).take k)) (L' := toN (wbt o ds S L).2) (fun h => by
     have := congrArg List.length h
     unfold toN at this
     rw [List.length_map, hTl] at this
     simp at this
     omega)
    (fun j hj => by
     obtain ⟨x, hx, rfl⟩ := List.mem_map.1 hj
     have := wars (a := a) (m := k) hl x hx
     exact hw _ (by omega))
    (fun b _ => by
     have h1 : weo w (toN L) b = weo w (toN ((L.filter fun x => !((war ds (a : Int) L).take k).contains x) ++ (war ds (a : Int) L).take k)) b := by
      unfold weo toN
      exact (hsp.map Int.toNat).countP_eq _
     rw [h1, hg]
     unfold weo toN
     rw [List.map_append, List.countP_append])
    (fun b _ => by
     have : weo w (toN L) b ≤ (toN L).length := List.countP_le_length
     unfold toN at this
     rw [List.length_map] at this
     unfold toN
     omega)
    (A := aK o ds w) hA (c := c) hcc (fun b hb h0 => by
     have h1 : weo w (toN L) b ≤ (toN L).length := List.countP_le_length
     have h2 : (toN L).length = L.length := by unfold toN; rw [List.length_map]
     have h3 := q5 b (weo w (toN L) b) (hOn b hb) h0 (by omega)
     have h4 := wcgq (S := S) hf hl hn w (hOn b hb)
     have h5 : ((toN ((war ds (a : Int) L).take k)).length : Int) = (k : Int) := by unfold toN; rw [List.length_map, hTl]
     rw [h5]
     exact Int.le_trans h3 (Int.mul_le_mul_of_nonneg_right h4 (by omega)))
   rw [hcost]
   omega
def waw (m : Nat) : List Int := (List.range m).map fun j : Nat => (j : Int)
theorem wfd (m : Nat) : Cl m (waw m) ∧ (waw m).Nodup ∧ (waw m).length = m ∧ toN (waw m) = List.range m := by
 refine ⟨fun x hx => ?_, ?_, by simp [waw], ?_⟩
 ·obtain ⟨j, hj, rfl⟩ := List.mem_map.1 hx
  have := List.mem_range.1 hj
  omega
 ·unfold waw
  exact (List.pairwise_map.2 (List.nodup_range.imp fun h e => h (by omega)))
 ·unfold toN waw
  rw [List.map_map]
  have : ((Int.toNat ∘ fun j : Nat => (j : Int)) : Nat → Nat) = id := by funext j; simp
  rw [this, List.map_id]
theorem wxj (hf : Fld o ds) (hd : ds ≠ []) {O : List Int} (hO : ris o.length O) (hO0 : O ≠ []) :
  ris o.length (wib o ds ds.length [] (waw ds.length)) ∧ wib o ds ds.length [] (waw ds.length) ≠ [] ∧ 420 * wco o ds (wib o ds ds.length [] (waw ds.length)) ≤ harm ds.length * wco o ds O := by
 obtain ⟨r1, r2, r3, r4⟩ := wfd ds.length
 have h7 := hf.clients
 have hnil : ris o.length [] := ⟨fun x hx => (by cases hx), List.Pairwise.nil⟩
 obtain ⟨t1, _, t3, t4⟩ := wqz hf ds.length (S := []) (L := waw ds.length) (by omega) hnil r1 r2
 have hne : waw ds.length ≠ [] := fun h => hd (List.eq_nil_of_length_eq_zero (by rw [← r3, h]; rfl))
 refine ⟨t1, t3 hne, ?_⟩
 have hpl := hO.places hf.len
 have hpos := List.length_pos_iff.2 hO0
 have hON : (toN O).Nodup := by
  unfold toN
  refine List.pairwise_map.2 (hO.2.imp_of_mem fun {x y} hx hy h e => ?_)
  have h1 := hO.1 x hx
  have h2 := hO.1 y hy
  omega
 have hw : ∀ j, j < ds.length → srv ds j O ∈ toN O := fun j _ => by
  obtain ⟨k, hk, e⟩ := wafr ds j hpos
  rw [e]
  unfold pl toN
  exact List.mem_map_of_mem (getD_mem hk)
 have hOn : ∀ b ∈ toN O, b < o.length := fun b hb => by
  obtain ⟨x, hx, rfl⟩ := List.mem_map.1 hb
  have := hO.1 x hx
  omega
 have hb := waau hf hON hOn (w := fun j => srv ds j O) hw ds.length (S := []) (L := waw ds.length) (by omega) h7 hnil r1 r2
 rw [r4] at hb
 have hA : ∀ b ∈ toN O, 0 ≤ aK o ds (fun j => srv ds j O) b := fun b hb => by
  have h1 := (hf.cost b (hOn b hb)).1
  have h2 : 0 ≤ wak (List.range ds.length) fun j => if srv ds j O = b then at2 ds j b else 0 := wbr fun j hj => by
   have := hf.at2 (List.mem_range.1 hj) (hOn b hb)
   split <;> omega
  unfold aK
  dsimp only
  omega
 have h1 : (wak (toN O) fun b => aK o ds (fun j => srv ds j O) b * harm (weo (fun j => srv ds j O) (List.range ds.length) b)) ≤ wak (toN O) fun b => harm ds.length * aK o ds (fun j => srv ds j O) b := wdd fun b hb => by
  rw [Int.mul_comm]
  refine Int.mul_le_mul_of_nonneg_right ?_ (hA b hb)
  have hle : weo (fun j => srv ds j O) (List.range ds.length) b ≤ (List.range ds.length).length := List.countP_le_length
  rw [List.length_range] at hle
  have := wpn (ds.length - weo (fun j => srv ds j O) (List.range ds.length) b) (weo (fun j => srv ds j O) (List.range ds.length) b)
  rwa [show weo (fun j => srv ds j O) (List.range ds.length) b + (ds.length - weo (fun j => srv ds j O) (List.range ds.length) b) = ds.length by omega] at this
 rw [whb] at h1
 have h2 : wak (toN O) (aK o ds fun j => srv ds j O) = wco o ds O := by
  have e1 : wak (toN O) (aK o ds fun j => srv ds j O) = wak (toN O) (fun b => o.getD b 0) + wak (toN O) fun b => wak (List.range ds.length) fun j => if srv ds j O = b then at2 ds j (srv ds j O) else 0 := by
   rw [← wbw]
   refine wbj fun b _ => ?_
   unfold aK
   congr 1
   refine wbj fun j _ => ?_
   by_cases e : srv ds j O = b
   ·rw [if_pos e, if_pos e, e]
   ·rw [if_neg e, if_neg e]
  rw [e1, wde hON (fun j hj => hw j (List.mem_range.1 hj)) (fun j => at2 ds j (srv ds j O))]
  unfold wco
  rw [whd, wfc]
  unfold toN
  rw [wjh]
  rfl
 have h3 : wco o ds (wib o ds ds.length [] (waw ds.length)) ≤ wjg o ds ds.length [] (waw ds.length) := by
  have e1 : wak (waw ds.length) (fun j => near ds (wib o ds ds.length [] (waw ds.length)) j.toNat) = serve ds (wib o ds ds.length [] (waw ds.length)) := by
   rw [wfc]
   unfold waw
   rw [wjh]
   exact wbj fun j _ => by rw [Int.toNat_natCast]
  rw [e1] at t4
  have e2 : pay o [] = 0 := rfl
  unfold wco
  omega
 rw [h2] at h1
 omega
end
end Go.Proofs.YtnagpmhaddfgmaaGreat
