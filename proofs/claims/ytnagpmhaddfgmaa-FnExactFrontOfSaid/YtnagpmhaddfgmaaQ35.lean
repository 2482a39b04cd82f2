/-
 The law of fronts: the program's points are the reference's, and in memory of their own.
-/
import Derived.Test.YtnagpmhaddfgmaaP68
import Derived.Test.YtnagpmhaddfgmaaPM
namespace Go.Proofs.Ytnagpmhaddfgmaa
theorem wws {a b : List (Int × Int)} (ha : a.length ≤ 1000000) : wacb a b = some (a == b) := by
 unfold wacb wazd
 by_cases h : a.length = b.length
 ·have hs := wwb (f := fun v => (wlz (a, b) v).ev) (a := a) (b := b) (0, 0) h (fun i hi => by
   have hi' : i < b.length := by omega
   have e2 : wbff (a.getD i (0, 0)).1 (a.getD i (0, 0)).2 (b.getD i (0, 0)).1 (b.getD i (0, 0)).2 = some (a.getD i (0, 0) == b.getD i (0, 0)) := rfl
   simp (disch := omega) only [EV, wlz, hi, hi', e2]
   cases (a.getD i (0, 0) == b.getD i (0, 0)) <;> rfl) (by simp (disch := omega) only [EV, wlz, Nat.lt_irrefl])
  simp (disch := omega) only [EV, int_ne, h, wagx, hs]
  cases (a == b) <;> rfl
 ·have : (a == b) = false := by
   rw [beq_eq_false_iff_ne]
   exact fun e => h (by rw [e])
  simp (disch := omega) only [EV, int_ne, h, this]
def mk2 (k : Int) (n : Nat) : List (Int × Int) := (List.range n).map fun (i : Nat) => (k + 2 * (i : Int), k + 2 * (i : Int) + 1)
theorem wge (k : Int) (n : Nat) : (mk2 k n).length = n := by simp [mk2]
theorem waqt (k : Int) (n : Nat) : mk2 k (n + 1) = mk2 k n ++ [(k + 2 * (n : Int), k + 2 * (n : Int) + 1)] := by simp [mk2, List.range_succ]
theorem waqu {k : Int} {n i : Nat} (h : i < n) : (mk2 k n).getD i (0, 0) = (k + 2 * (i : Int), k + 2 * (i : Int) + 1) := by
 simp [mk2, List.getD_eq_getElem?_getD, h]
theorem wajp {α : Type} (l : List α) {i : Nat} (h : i < l.length) (y d : α) : (l.set i y).getD i d = y := by
 rw [List.getD_eq_getElem?_getD, List.getElem?_set_self h]; rfl
theorem waqv (l : List (Int × Int)) {i : Nat} (hi : i < l.length) (hl : l.length ≤ 1000000) {k : Int} (h0 : 0 ≤ k) (h1 : k ≤ 4611686018427387904) : wvy (i : Int) (k, ((0 : Int), l)) = some (k + 2, l.set i (k, k + 1)) := by
 have z0 : ((0 : Int) == 0) = true := rfl
 have z1 : ((1 : Int) == 0) = false := rfl
 have z2 : ((1 : Int) == 1) = true := rfl
 have s0 : (wfc (i : Int) (k, ((0 : Int), l))).ev = some (.inl (k + 1, ((1 : Int), l.set i (k, (l.getD i (0, 0)).2)))) := by
  simp (disch := omega) only [EV, wfc, hi, z0, show ((0 : Int) < 2) = True by simp, Int.zero_add]
 have s1 : (wfc (i : Int) (k + 1, ((1 : Int), l.set i (k, (l.getD i (0, 0)).2)))).ev = some (.inl (k + 1 + 1, ((2 : Int), l.set i (k, k + 1)))) := by
  simp (disch := omega) only [EV, wfc, List.length_set, hi, z1, z2, show ((1 : Int) < 2) = True by simp, wajp l hi, List.set_set]
  rfl
 have s2 : (wfc (i : Int) (k + 1 + 1, ((2 : Int), l.set i (k, k + 1)))).ev = some (.inr (k + 1 + 1, l.set i (k, k + 1))) := by
  simp (disch := omega) only [EV, wfc, Int.lt_irrefl]
 unfold wvy
 rw [waa, s0]
 simp only
 rw [waa, s1]
 simp only
 rw [waa, s2, Int.add_assoc]
 rfl
theorem wrg {l : List (Int × Int)} (hl : l.length ≤ 1000000) {k : Int} (h0 : 0 ≤ k) (h1 : k ≤ 1000000) : waoq k l = some (k + 2 * (l.length : Int), mk2 k l.length) := by
 unfold waoq wbaf
 have hs := (wbe (f := fun v => (wme () v).ev) (n := l.length) (mk := fun i (_ : Unit) => (k + 2 * (i : Int), ((i : Int), mk2 k i ++ l.drop i))) (I := fun _ _ => True) (g := fun s _ => s) (fin := fun _ => (k + 2 * (l.length : Int), mk2 k l.length)) (s0 := ()) trivial
  (fun i s hi _ => ⟨by
   have hlen : (mk2 k i ++ l.drop i).length = l.length := by simp [wge]; omega
   have hin := waqv (mk2 k i ++ l.drop i) (i := i) (by omega) (by omega) (k := k + 2 * (i : Int)) (by omega) (by omega)
   have hset : (mk2 k i ++ l.drop i).set i (k + 2 * (i : Int), k + 2 * (i : Int) + 1) = mk2 k (i + 1) ++ l.drop (i + 1) := by
    rw [List.drop_eq_getElem_cons hi, set_mid _ _ _ _ (wge k i).symm, waqt, List.append_assoc]
    rfl
   rw [hset] at hin
   have e1 : k + 2 * (i : Int) + 2 = k + 2 * ((i + 1 : Nat) : Int) := by omega
   rw [e1] at hin
   simp (disch := omega) only [EV, wme, hlen, hi, hin]
   rfl, trivial⟩)
  (fun s _ => by
   have hlen : (mk2 k l.length ++ l.drop l.length).length = l.length := by simp [wge]
   simp (disch := omega) only [EV, wme, wge, Nat.lt_irrefl, List.drop_length, List.append_nil])).1
 have hs' : wahe () (k, ((0 : Int), l)) = some (k + 2 * (l.length : Int), mk2 k l.length) := by
  have e0 : k + 2 * ((0 : Nat) : Int) = k := by omega
  rw [e0] at hs
  exact hs
 simp (disch := omega) only [EV, hs']
theorem waqw (l : List (Int × Int)) {i : Nat} (hi : i < l.length) {k : Int} (h0 : 0 ≤ k) (h1 : k ≤ 4611686018427387904) (hg : l.getD i (0, 0) = (k, k + 1)) : wvz ((i : Int), l) (k, (0 : Int)) = some (.inl (k + 2)) := by
 have z0 : ((0 : Int) == 0) = true := rfl
 have z1 : ((1 : Int) == 0) = false := rfl
 have z2 : ((1 : Int) == 1) = true := rfl
 have s0 : (wfd ((i : Int), l) (k, (0 : Int))).ev = some (.inl (k + 1, (1 : Int))) := by
  simp (disch := omega) only [EV, wfd, hi, z0, hg, bne_self_eq_false, show ((0 : Int) < 2) = True by simp, Int.zero_add]
 have s1 : (wfd ((i : Int), l) (k + 1, (1 : Int))).ev = some (.inl (k + 1 + 1, (2 : Int))) := by
  simp (disch := omega) only [EV, wfd, hi, z1, z2, hg, bne_self_eq_false, show ((1 : Int) < 2) = True by simp]
  rfl
 have s2 : (wfd ((i : Int), l) (k + 1 + 1, (2 : Int))).ev = some (.inr (.inl (k + 1 + 1))) := by
  simp (disch := omega) only [EV, wfd, Int.lt_irrefl]
 unfold wvz
 rw [waa, s0]
 simp only
 rw [waa, s1]
 simp only
 rw [waa, s2, Int.add_assoc]
 rfl
theorem wrh {n : Nat} (hn : n ≤ 1000000) {k : Int} (h0 : 0 ≤ k) (h1 : k ≤ 1000000) : wahg k (mk2 k n) = some (k + 2 * (n : Int), mk2 k n) := by
 unfold wahg wbah
 have hs := (wbe (f := fun v => (wmf (mk2 k n) v).ev) (n := n) (mk := fun i (_ : Unit) => (k + 2 * (i : Int), (i : Int))) (I := fun _ _ => True) (g := fun s _ => s) (fin := fun _ => .inl (k + 2 * (n : Int))) (s0 := ()) trivial
  (fun i s hi _ => ⟨by
   have hin := waqw (mk2 k n) (i := i) (by rw [wge]; exact hi) (k := k + 2 * (i : Int)) (by omega) (by omega) (waqu hi)
   have e1 : k + 2 * (i : Int) + 2 = k + 2 * ((i + 1 : Nat) : Int) := by omega
   rw [e1] at hin
   simp (disch := omega) only [EV, wmf, wge, hi, hin]
   rfl, trivial⟩)
  (fun s _ => by simp (disch := omega) only [EV, wmf, wge, Nat.lt_irrefl])).1
 have hs' : wahf (mk2 k n) (k, (0 : Int)) = some (.inl (k + 2 * (n : Int))) := by
  have e0 : k + 2 * ((0 : Nat) : Int) = k := by omega
  rw [e0] at hs
  exact hs
 simp (disch := omega) only [EV, hs']
theorem wwt (o : List Int) (ds : List (List Int)) (a b : Int) (ho : Fit tL o) (hd : Fit tLL ds) (_ : Fit tI a) (_ : Fit tI b) : wbak o ds a b = some true := by
 unfold wbak wbaj
 obtain ⟨r, e1, _, k2⟩ := wacn (fit1 ho) (fit2 hd) (b := 1048576) (by omega) (by omega)
 simp (disch := omega) only [EV, e1]
 by_cases hr : r < 0
 ·simp (disch := omega) only [EV, hr]
 ·obtain ⟨h1, h2⟩ := k2 (by omega)
  obtain ⟨m, em, _, hm1, _⟩ := wtc h1 h2 (k := 1) (by omega) (by omega)
  have hm : ¬ m < 0 := by omega
  have es := wre h1 h2 a b
  have ei := wrf h1 h2 a b
  have hlen : ((wix o ds a b).map (·.1)).length ≤ 1000000 := by
   have := wact (o := o) (ds := ds) (a := a) (b := b)
   rw [List.length_map]
   omega
  generalize (wix o ds a b).map (·.1) = p at hlen es ei
  have hn : ¬ 1 + 2 * (p.length : Int) < 0 := by omega
  simp (disch := omega) only [EV, hr, waco h1 h2, es, ei, wacp h1 h2, wws hlen, beq_self_eq_true, bne_self_eq_false, em, hm, wrg hlen (k := 1) (by omega) (by omega), wrh hlen (k := 1) (by omega) (by omega), hn]
end Go.Proofs.Ytnagpmhaddfgmaa
