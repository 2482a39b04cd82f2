/-
 The laws of edits of atlases.
-/
import Derived.Test.YtnagpmhaddfgmaaGreatP52
import Derived.Test.YtnagpmhaddfgmaaGreatP7
import Derived.Test.YtnagpmhaddfgmaaGreatPM
namespace Go.Proofs.YtnagpmhaddfgmaaGreat
theorem wavl : waw [] := by unfold waw; simp
theorem waxl : wfw [] := ⟨by simp, fun r h => by simp at h⟩
theorem wbko {o s : List Int} {ds : List (List Int)} {n k a b c : Int} {l : List Int} : ∃ c' b' o' ds' s', doT (doOf o ds s n k a b c l) = (c', (b', (o', (ds', s')))) ∧ waw o' ∧ wfw ds' ∧ waw s' := by
 cases hd : doOf o ds s n k a b c l with
 | none => exact ⟨_, _, _, _, _, rfl, wavl, waxl, wavl⟩
 | some y =>
  have h := wavd hd
  obtain ⟨h1, h2⟩ := wza h.fld
  exact ⟨_, _, _, _, _, rfl, h1, h2, h.set.low h.fld.len⟩
def edOf (o : List Int) (ds : List (List Int)) (s : List Int) (n k a b c : Int) (l : List Int) : Int × Bool × List Int × List (List Int) × List Int :=
 bif wdx o ds s n then doT (doOf o ds s n k a b c l) else (0, false, [], [], [])
theorem wavm (o s : List Int) (ds : List (List Int)) (n k a b c : Int) (l : List Int) : ∃ c' b' o' ds' s', edOf o ds s n k a b c l = (c', (b', (o', (ds', s')))) ∧ waw o' ∧ wfw ds' ∧ waw s' := by
 unfold edOf
 cases wdx o ds s n with
 | false => exact ⟨_, _, _, _, _, rfl, wavl, waxl, wavl⟩
 | true => exact wbko
theorem woc {o s : List Int} {ds : List (List Int)} (ho : waw o) (hd : wfw ds) (hs : waw s) (n k a b c : Int) {l : List Int} (hl : waw l) : waqy o ds s n k a b c l = some (edOf o ds s n k a b c l) := by
 unfold waqy wbdo edOf
 rw [Tr.ev_c, wpg ho hd hs, Option.bind_some, Tr.ev_t]
 cases hb : wdx o ds s n with
 | false => rfl
 | true =>
  rw [Bool.not_true, cond_false, cond_true, Tr.ev_c, wbrv (wsz.1 hb) k a b c hl, Option.bind_some, Tr.ev_l]
theorem wod {o s : List Int} {ds : List (List Int)} (ho : waw o) (hd : wfw ds) (hs : waw s) (n k a b c : Int) {l : List Int} (hl : waw l) : F_zf o ds s n k a b c l = some (edOf o ds s n k a b c l) := by
 cases hb : wdx o ds s n with
 | true =>
  rw [wavk (wsz.1 hb) k a b c hl]
  unfold edOf
  rw [hb]
  rfl
 | false =>
  unfold F_zf T_zf edOf
  rw [Tr.ev_c, wii ho hd hs, hb, Option.bind_some, Tr.ev_t]
  rfl
theorem wio {o : List Int} {ds : List (List Int)} {s : List Int} (ho : waw o) (hd : wfw ds) (hs : waw s) (c : Int) : ∃ m, waku c 1 o ds s = some (m + (s.length : Int), wcj 1 o.length, wbq (1 + (o.length : Int)) ds, wcj m s.length) ∧ m = tot (1 + (o.length : Int)) ds ∧ 1 ≤ m ∧ m ≤ 2199023255553 := by
 have hl := hs
 unfold waw at hl
 obtain ⟨m, e1, e2, e3, e4⟩ := wvl ho hd (k := 1) (by omega) (by omega)
 unfold waku wbhg
 simp (disch := omega) only [EV, e1, wez hs (k := m) (by omega) (by omega)]
 exact ⟨m, rfl, e2, by omega, by omega⟩
theorem wtd {o : List Int} {ds : List (List Int)} {s : List Int} (ho : waw o) (hd : wfw ds) (hs : waw s) (c : Int) {m : Int} (e2 : m = tot (1 + (o.length : Int)) ds) (e3 : 1 ≤ m) (e4 : m ≤ 2199023255553) :
  waky (wcj 1 o.length) (wbq (1 + (o.length : Int)) ds) (wcj m s.length) c 1 = some (m + (s.length : Int)) := by
 have hl := hs
 unfold waw at hl
 have hn : ¬ m < 0 := by omega
 have hn2 : ¬ m + (s.length : Int) < 0 := by omega
 unfold waky wbhv
 simp (disch := omega) only [EV, wvm ho hd (k := 1) (by omega) (by omega), ← e2, hn, wha (n := s.length) hl (k := m) (by omega) (by omega), hn2]
theorem wte (o : List Int) (ds : List (List Int)) (s : List Int) (n k a b c : Int) (l : List Int) (ho : Fit tL o) (hd : Fit tLL ds) (hs : Fit tL s) (_ : Fit tI n) (_ : Fit tI k) (_ : Fit tI a) (_ : Fit tI b) (_ : Fit tI c) (hl : Fit tL l) : wbhy o ds s n k a b c l = some true := by
 unfold wbhy wbhx
 obtain ⟨r, e1, k1, k2⟩ := wafg n (fit1 ho) (fit2 hd) (fit1 hs) (b := 1048576) (by omega) (by omega)
 simp (disch := omega) only [EV, e1]
 by_cases hr : r < 0
 ·simp (disch := omega) only [EV, hr]
 ·obtain ⟨h1, h2, h3⟩ := k2 (by omega)
  obtain ⟨r2, e2, k3, k4⟩ := wic (fit1 hl) (show 0 ≤ r by omega) k1
  by_cases hr2 : r2 < 0
  ·have e3 : wael k a b c l r = some (-1) := by
    unfold wael wapn
    simp (disch := omega) only [EV, e2, hr2]
   simp (disch := omega) only [EV, hr, e3]
   rfl
  ·have e3 : wael k a b c l r = some r2 := by
    unfold wael wapn
    simp (disch := omega) only [EV, e2, hr2]
   have h4 := k4 (by omega)
   have t1 : wxr k a b c l = some (k, (a, (b, (c, l)))) := by
    unfold wxr wazq
    simp (disch := omega) only [EV, wie h4]
   have t2 : wasu k a b c l k a b c l = some true := by
    unfold wasu wbgs
    simp (disch := omega) only [EV, bne_self_eq_false, wif h4, beq_self_eq_true]
   have s1 := woc h1 h2 h3 n k a b c h4
   have s2 := wod h1 h2 h3 n k a b c h4
   obtain ⟨c', b', o', ds', s', e0, g1, g2, g3⟩ := wavm o s ds n k a b c l
   rw [e0] at s1 s2
   obtain ⟨m1, f1, f2, f3, f4⟩ := wio h1 h2 h3 n
   obtain ⟨m2, f5, f6, f7, f8⟩ := wio g1 g2 g3 c'
   have hl1 := h3
   have hl2 := g3
   have hl4 := h4
   unfold waw at hl1 hl2 hl4
   have t3 : wasx k a b c (m1 + (s.length : Int)) l = some (m1 + (s.length : Int) + (l.length : Int), wcj (m1 + (s.length : Int)) l.length) := by
    unfold wasx wbhi
    simp (disch := omega) only [EV, wez h4 (k := m1 + (s.length : Int)) (by omega) (by omega)]
   have hn1 : ¬ m1 + (s.length : Int) + (l.length : Int) < 0 := by omega
   have hn2 : ¬ m2 + (s'.length : Int) < 0 := by omega
   simp (disch := omega) only [EV, hr, e3, hr2, wafi h1 h2 h3, t1, s1, s2, wph g1 g2 g3, wph h1 h2 h3, t2, beq_self_eq_true, bne_self_eq_false, f1, t3, hn1, f5, wtd g1 g2 g3 c' f6 f7 f8, hn2]
end Go.Proofs.YtnagpmhaddfgmaaGreat
