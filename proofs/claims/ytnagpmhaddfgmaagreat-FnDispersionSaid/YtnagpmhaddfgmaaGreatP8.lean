/-
 Plain laws: grounds, metric grounds.
-/
import Derived.Test.YtnagpmhaddfgmaaGreatPM
namespace Go.Proofs.YtnagpmhaddfgmaaGreat
def at2 (x : List (List Int)) (i j : Nat) : Int := (x.getD i []).getD j 0
def wic (x : List (List Int)) (n i : Nat) : Bool := allIn (x.getD i []) 0 99 && (((x.getD i []).length : Int) == (n : Int))
structure Ground (x : List (List Int)) : Prop where
 row : ∀ i, i < x.length → wic x x.length i = true
 diag : ∀ i, i < x.length → at2 x i i = 0
 sym : ∀ i j, i < x.length → j < x.length → at2 x i j = at2 x j i
 len : x.length ≤ 7
def wak (x : List (List Int)) : Bool := ((List.range x.length).all fun i => wic x x.length i && at2 x i i == 0 && (List.range i).all fun j => at2 x i j == at2 x j i) && decide ((x.length : Int) ≤ 7)
theorem wee {x : List (List Int)} {n i : Nat} (h : wic x n i = true) : (x.getD i []).length = n := by
 simp only [wic, Bool.and_eq_true, beq_iff_eq] at h
 omega
theorem waxm {x : List (List Int)} {n i j : Nat} (h : wic x n i = true) (hj : j < n) : 0 ≤ at2 x i j ∧ at2 x i j ≤ 99 := by
 have hl := wee h
 simp only [wic, Bool.and_eq_true] at h
 exact wagg h.1 (by omega)
theorem Ground.in {x : List (List Int)} (h : Ground x) {i j : Nat} (hi : i < x.length) (hj : j < x.length) : 0 ≤ at2 x i j ∧ at2 x i j ≤ 99 := waxm (h.row i hi) hj
theorem Ground.rowLen {x : List (List Int)} (h : Ground x) {i : Nat} (hi : i < x.length) : (x.getD i []).length = x.length := wee (h.row i hi)
theorem wag (x : List (List Int)) : wak x = true ↔ Ground x := by
 unfold wak
 simp only [List.all_eq_true, List.mem_range, Bool.and_eq_true, beq_iff_eq, decide_eq_true_eq]
 constructor
 ·rintro ⟨h, h7⟩
  refine ⟨fun i hi => (h i hi).1.1, fun i hi => (h i hi).1.2, fun i j hi hj => ?_, by omega⟩
  rcases Nat.lt_trichotomy i j with h1 | h1 | h1
  ·exact ((h j hj).2 i h1).symm
  ·rw [h1]
  ·exact (h i hi).2 j h1
 ·rintro ⟨h1, h2, h3, h4⟩
  exact ⟨fun i hi => ⟨⟨h1 i hi, h2 i hi⟩, fun j hj => h3 i j hi (by omega)⟩, by omega⟩
theorem wdb {x : List (List Int)} (hx : wla x) : wux x = some (wak x) := by
 obtain ⟨hl, hr⟩ := hx
 have h2 : ∀ i, i < x.length → (∀ j, j ≤ i → wic x x.length j = true) → waks (x, ((x.length : Int), (i : Int))) 0 = some (bif (List.range i).all fun j => at2 x i j == at2 x j i then .inl () else .inr ()) := fun i hi hrow =>
  war (f := fun v => (wno (x, ((x.length : Int), (i : Int))) v).ev) (n := i) (mk := fun i => (i : Int)) (p := fun j => at2 x i j == at2 x j i) (yes := .inl ()) (no := .inr ()) (fun j hj _ => by
   have h1 := wee (hrow i (Nat.le_refl _))
   have h2 := wee (hrow j (by omega))
   have hj' : j < x.length := by omega
   simp (disch := omega) only [EV, wno, hi, hj, hj', h1, h2, bne]
   unfold at2
   cases ((x.getD i []).getD j 0 == (x.getD j []).getD i 0) <;> rfl) (by simp (disch := omega) only [EV, wno, Nat.lt_irrefl])
 have h0 : wakt (x, (x.length : Int)) 0 = _ := war (f := fun v => (wnp (x, (x.length : Int)) v).ev) (n := x.length) (mk := fun i => (i : Int))
  (p := fun i => wic x x.length i && at2 x i i == 0 && (List.range i).all fun j => at2 x i j == at2 x j i) (yes := .inl ()) (no := .inr ()) (fun i hi hp => by
   simp (disch := omega) only [EV, wnp, hi, waxk (hr _ (getD_mem (d := []) hi))]
   have e : (allIn (x.getD i []) 0 99 && (((x.getD i []).length : Int) == ((x.length : Nat) : Int))) = wic x x.length i := rfl
   rw [e]
   cases hb : wic x x.length i with
   | false => rfl
   | true =>
    have hd : (x.getD i []).getD i 0 = at2 x i i := rfl
    simp (disch := omega) only [EV, wee hb, hi, bne, hd, h2 i hi fun j hj => by
     by_cases e : j = i
     ·rw [e]; exact hb
     ·have := hp j (by omega)
      simp only [Bool.and_eq_true] at this
      exact this.1.1]
    cases (at2 x i i == 0) <;> cases (List.range i).all fun j => at2 x i j == at2 x j i <;> rfl) (by simp (disch := omega) only [EV, wnp, Nat.lt_irrefl])
 unfold wux wbdx
 simp (disch := omega) only [EV, h0]
 unfold wak
 cases (List.range x.length).all fun i => wic x x.length i && at2 x i i == 0 && (List.range i).all fun j => at2 x i j == at2 x j i <;> rfl
theorem wan {x : List (List Int)} (hx : wla x) : F_zj x = some (wak x) := by
 have hl := hx.1
 unfold F_zj T_zj
 by_cases h7 : (7 : Int) < (x.length : Int)
 ·simp (disch := omega) only [EV, h7]
  unfold wak
  rw [show decide ((x.length : Int) ≤ 7) = false by simp; omega, Bool.and_false]
 ·have h0 : wayv (x, (x, ((x.length : Nat) : Int))) 0 = _ := war (f := fun v => (wur (x, (x, ((x.length : Nat) : Int))) v).ev) (n := x.length) (mk := fun i => (i : Int)) (p := fun i => wic x x.length i) (yes := .inl ()) (no := .inr ()) (fun i hi _ => by
   simp (disch := omega) only [EV, wur, hi, wsx (hx.2 _ (getD_mem (d := []) hi)), bne]
   unfold wic
   cases (((x.getD i []).length : Int) == ((x.length : Nat) : Int)) <;> cases allIn (x.getD i []) 0 99 <;> rfl) (by simp (disch := omega) only [EV, wur, Nat.lt_irrefl])
  simp (disch := omega) only [EV, h7, h0]
  cases hr : (List.range x.length).all fun i => wic x x.length i with
  | false =>
   simp only [cond_false, waxh, Tr.ev_l]
   congr 1
   refine Eq.symm (Bool.eq_false_iff.2 fun h => ?_)
   rw [Bool.eq_false_iff] at hr
   exact hr (List.all_eq_true.2 fun i hi => ((wag x).1 h).row i (List.mem_range.1 hi))
  | true =>
   have hrow : ∀ j, j < x.length → wic x x.length j = true := fun j hj => List.all_eq_true.1 hr j (List.mem_range.2 hj)
   have h4 : ∀ i, i < x.length → wayw (x, ((i : Int), (x, (((x.length : Nat) : Int), ((i : Int), ((x.getD i []), (((x.getD i []).length : Nat) : Int))))))) 0 =
     some (bif (List.range x.length).all fun j => (at2 x i j == at2 x j i) && (!(i == j) || at2 x i j == 0) then .inl () else .inr ()) := fun i hi => by
    have h1 := wee (hrow i hi)
    refine war (f := fun v => (wus (x, ((i : Int), (x, (((x.length : Nat) : Int), ((i : Int), ((x.getD i []), (((x.getD i []).length : Nat) : Int))))))) v).ev) (n := x.length) (mk := fun i => (i : Int)) (p := fun j => (at2 x i j == at2 x j i) && (!(i == j) || at2 x i j == 0)) (yes := .inl ()) (no := .inr ()) (fun j hj _ => ?_) ?_
    ·have h2 := wee (hrow j hj)
     have e1 : (x.getD i []).getD j 0 = at2 x i j := rfl
     have e2 : (x.getD j []).getD i 0 = at2 x j i := rfl
     have e3 : ((i : Int) == (j : Int)) = (i == j) := by
      rw [Bool.eq_iff_iff, beq_iff_eq, beq_iff_eq]
      omega
     simp (disch := omega) only [EV, wus, h1, h2, hi, hj, bne, e1, e2, e3]
     cases (at2 x i j == at2 x j i) <;> cases (i == j) <;> cases (at2 x i j == 0) <;> rfl
    ·simp (disch := omega) only [EV, wus, h1, Nat.lt_irrefl]
   have h2 : wayx (x, (x, ((x.length : Nat) : Int))) 0 = _ := war (f := fun v => (wut (x, (x, ((x.length : Nat) : Int))) v).ev) (n := x.length) (mk := fun i => (i : Int))
     (p := fun i => (List.range x.length).all fun j => (at2 x i j == at2 x j i) && (!(i == j) || at2 x i j == 0)) (yes := .inl ()) (no := .inr ()) (fun i hi _ => by
    simp (disch := omega) only [EV, wut, hi, h4 i hi]
    cases (List.range x.length).all fun j => (at2 x i j == at2 x j i) && (!(i == j) || at2 x i j == 0) <;> rfl) (by simp (disch := omega) only [EV, wut, Nat.lt_irrefl])
   simp (disch := omega) only [EV, h2]
   rw [show wak x = (List.range x.length).all fun i => (List.range x.length).all fun j => (at2 x i j == at2 x j i) && (!(i == j) || at2 x i j == 0) from ?_]
   ·cases (List.range x.length).all fun i => (List.range x.length).all fun j => (at2 x i j == at2 x j i) && (!(i == j) || at2 x i j == 0) <;> rfl
   ·rw [Bool.eq_iff_iff, wag]
    simp only [List.all_eq_true, List.mem_range, Bool.and_eq_true, Bool.or_eq_true, Bool.not_eq_true', beq_iff_eq, beq_eq_false_iff_ne]
    constructor
    ·rintro ⟨h1, h2, h3, _⟩ i hi j hj
     refine ⟨h3 i j hi hj, ?_⟩
     by_cases e : i = j
     ·subst e; exact .inr (h2 i hi)
     ·exact .inl e
    ·intro h
     exact ⟨hrow, fun i hi => ((h i hi i hi).2).resolve_left fun h => h rfl, fun i j hi hj => (h i hi j hj).1, by omega⟩
def wfk (x : List (List Int)) : Bool := (List.range x.length).all fun i => (List.range x.length).all fun j => (List.range x.length).all fun k => decide (at2 x i j ≤ at2 x i k + at2 x k j)
theorem wvp {x : List (List Int)} (hx : Ground x) : waus x = some (wfk x) := by
 have hl := hx.len
 have h4 : ∀ i j, i < x.length → j < x.length → walp (x, ((i : Int), (j : Int))) 0 = some (bif (List.range x.length).all fun k => decide (at2 x i j ≤ at2 x i k + at2 x k j) then .inl () else .inr ()) := fun i j hi hj =>
  war (f := fun v => (wnx (x, ((i : Int), (j : Int))) v).ev) (n := x.length) (mk := fun i => (i : Int)) (p := fun k => decide (at2 x i j ≤ at2 x i k + at2 x k j)) (yes := .inl ()) (no := .inr ()) (fun k hk _ => by
   have e1 : (x.getD i []).getD j 0 = at2 x i j := rfl
   have e2 : (x.getD i []).getD k 0 = at2 x i k := rfl
   have e3 : (x.getD k []).getD j 0 = at2 x k j := rfl
   have b1 := hx.in hi hk
   have b2 := hx.in hk hj
   simp (disch := omega) only [EV, wnx, hx.rowLen hi, hx.rowLen hk, hi, hj, hk, e1, e2, e3]
   by_cases h : at2 x i j ≤ at2 x i k + at2 x k j
   ·rw [if_neg (by omega), if_pos h]; rfl
   ·rw [if_pos (by omega), if_neg h]) (by simp (disch := omega) only [EV, wnx, Nat.lt_irrefl])
 have h2 : ∀ i, i < x.length → walq (x, (i : Int)) 0 = some (bif (List.range x.length).all fun j => (List.range x.length).all fun k => decide (at2 x i j ≤ at2 x i k + at2 x k j) then .inl () else .inr ()) := fun i hi =>
  war (f := fun v => (wny (x, (i : Int)) v).ev) (n := x.length) (mk := fun i => (i : Int)) (p := fun j => (List.range x.length).all fun k => decide (at2 x i j ≤ at2 x i k + at2 x k j)) (yes := .inl ()) (no := .inr ()) (fun j hj _ => by
   simp (disch := omega) only [EV, wny, hj, h4 i j hi hj]
   cases (List.range x.length).all fun k => decide (at2 x i j ≤ at2 x i k + at2 x k j) <;> rfl) (by simp (disch := omega) only [EV, wny, Nat.lt_irrefl])
 have h0 : walr x 0 = _ := war (f := fun v => (wnz x v).ev) (n := x.length) (mk := fun i => (i : Int)) (p := fun i => (List.range x.length).all fun j => (List.range x.length).all fun k => decide (at2 x i j ≤ at2 x i k + at2 x k j)) (yes := .inl ()) (no := .inr ()) (fun i hi _ => by
   simp (disch := omega) only [EV, wnz, hi, h2 i hi]
   cases (List.range x.length).all fun j => (List.range x.length).all fun k => decide (at2 x i j ≤ at2 x i k + at2 x k j) <;> rfl) (by simp (disch := omega) only [EV, wnz, Nat.lt_irrefl])
 unfold waus wbfc
 simp (disch := omega) only [EV, h0]
 unfold wfk
 cases (List.range x.length).all fun i => (List.range x.length).all fun j => (List.range x.length).all fun k => decide (at2 x i j ≤ at2 x i k + at2 x k j) <;> rfl
theorem whe {x : List (List Int)} (hx : wla x) : waut x = some (wak x && wfk x, wak x) := by
 unfold waut wbfe
 simp (disch := omega) only [EV, wdb hx]
 cases h : wak x with
 | false => rfl
 | true => simp (disch := omega) only [EV, wvp ((wag x).1 h)]
theorem whf {x : List (List Int)} (hx : wla x) : F_zk x = some (wak x && wfk x, wak x) := by
 unfold F_zk T_zk
 simp (disch := omega) only [EV, wan hx]
 cases h : wak x with
 | false => rfl
 | true =>
 have hg := (wag x).1 h
 have hl := hg.len
 have h4 : ∀ i j, i < x.length → j < x.length → wazh (x, ((i : Int), ((j : Int), (((x.length : Nat) : Int), ((i : Int), (((x.length : Nat) : Int), ((j : Int), ((x.length : Nat) : Int)))))))) 0 = some (bif (List.range x.length).all fun k => decide (at2 x i j ≤ at2 x i k + at2 x k j) then .inl () else .inr ()) := fun i j hi hj =>
  war (f := fun v => (wva (x, ((i : Int), ((j : Int), (((x.length : Nat) : Int), ((i : Int), (((x.length : Nat) : Int), ((j : Int), ((x.length : Nat) : Int)))))))) v).ev) (n := x.length) (mk := fun i => (i : Int)) (p := fun k => decide (at2 x i j ≤ at2 x i k + at2 x k j)) (yes := .inl ()) (no := .inr ()) (fun k hk _ => by
   have e1 : (x.getD i []).getD j 0 = at2 x i j := rfl
   have e2 : (x.getD i []).getD k 0 = at2 x i k := rfl
   have e3 : (x.getD k []).getD j 0 = at2 x k j := rfl
   have b1 := hg.in hi hk
   have b2 := hg.in hk hj
   simp (disch := omega) only [EV, wva, hg.rowLen hi, hg.rowLen hk, hi, hj, hk, e1, e2, e3]
   by_cases h : at2 x i j ≤ at2 x i k + at2 x k j
   ·rw [if_neg (by omega), if_pos h]; rfl
   ·rw [if_pos (by omega), if_neg h]) (by simp (disch := omega) only [EV, wva, Nat.lt_irrefl])
 have h2 : ∀ i, i < x.length → wazi (x, ((i : Int), (((x.length : Nat) : Int), ((i : Int), ((x.length : Nat) : Int))))) 0 = some (bif (List.range x.length).all fun j => (List.range x.length).all fun k => decide (at2 x i j ≤ at2 x i k + at2 x k j) then .inl () else .inr ()) := fun i hi =>
  war (f := fun v => (wvb (x, ((i : Int), (((x.length : Nat) : Int), ((i : Int), ((x.length : Nat) : Int))))) v).ev) (n := x.length) (mk := fun i => (i : Int)) (p := fun j => (List.range x.length).all fun k => decide (at2 x i j ≤ at2 x i k + at2 x k j)) (yes := .inl ()) (no := .inr ()) (fun j hj _ => by
   simp (disch := omega) only [EV, wvb, hj, h4 i j hi hj]
   cases (List.range x.length).all fun k => decide (at2 x i j ≤ at2 x i k + at2 x k j) <;> rfl) (by simp (disch := omega) only [EV, wvb, Nat.lt_irrefl])
 have h0 : wazj (x, ((x.length : Nat) : Int)) 0 = _ := war (f := fun v => (wvc (x, ((x.length : Nat) : Int)) v).ev) (n := x.length) (mk := fun i => (i : Int)) (p := fun i => (List.range x.length).all fun j => (List.range x.length).all fun k => decide (at2 x i j ≤ at2 x i k + at2 x k j)) (yes := .inl ()) (no := .inr ()) (fun i hi _ => by
   simp (disch := omega) only [EV, wvc, hi, h2 i hi]
   cases (List.range x.length).all fun j => (List.range x.length).all fun k => decide (at2 x i j ≤ at2 x i k + at2 x k j) <;> rfl) (by simp (disch := omega) only [EV, wvc, Nat.lt_irrefl])
 simp (disch := omega) only [EV, h0]
 unfold wfk
 cases (List.range x.length).all fun i => (List.range x.length).all fun j => (List.range x.length).all fun k => decide (at2 x i j ≤ at2 x i k + at2 x k j) <;> rfl
end Go.Proofs.YtnagpmhaddfgmaaGreat
/-
 Plain laws: rising lists, dispersion, allocations, the cost of hubs.
-/
namespace Go.Proofs.YtnagpmhaddfgmaaGreat
def wbm (l : List Int) (lo hi : Int) : Bool := (List.range l.length).all fun i => wfa (l.getD i 0) lo hi && (i == 0 || decide (l.getD (i - 1) 0 < l.getD i 0))
theorem wef {l : List Int} {lo hi : Int} : wbm l lo hi = true ↔ (∀ x ∈ l, lo ≤ x ∧ x ≤ hi) ∧ l.Pairwise (· < ·) := by
 unfold wbm
 simp only [List.all_eq_true, List.mem_range, Bool.and_eq_true, Bool.or_eq_true, beq_iff_eq, decide_eq_true_eq, wcg]
 constructor
 ·intro h
  refine ⟨fun x hx => ?_, ?_⟩
  ·obtain ⟨i, hi, e⟩ := List.getElem_of_mem hx
   have := (h i hi).1
   rw [List.getD_eq_getElem?_getD, List.getElem?_eq_getElem hi] at this
   rw [← e]; exact this
  ·rw [List.pairwise_iff_getElem]
   have key : ∀ d i, i + d + 1 < l.length → l.getD i 0 < l.getD (i + d + 1) 0 := by
    intro d
    induction d with
    | zero =>
     intro i hi
     have := (h (i + 1) hi).2
     rcases this with h0 | h0
     ·omega
     ·simpa using h0
    | succ d ih =>
     intro i hi
     have h1 := ih i (by omega)
     have := (h (i + (d + 1) + 1) hi).2
     rcases this with h0 | h0
     ·omega
     ·have e : i + (d + 1) + 1 - 1 = i + d + 1 := by omega
      rw [e] at h0
      omega
   intro i j hi hj hij
   have := key (j - i - 1) i (by omega)
   rw [show i + (j - i - 1) + 1 = j by omega, List.getD_eq_getElem?_getD, List.getD_eq_getElem?_getD, List.getElem?_eq_getElem hi, List.getElem?_eq_getElem hj] at this
   exact this
 ·rintro ⟨h1, h2⟩ i hi
  refine ⟨h1 _ (getD_mem hi), ?_⟩
  by_cases e : i = 0
  ·exact .inl e
  ·right
   have := List.pairwise_iff_getElem.1 h2 (i - 1) i (by omega) hi (by omega)
   rw [List.getD_eq_getElem?_getD, List.getD_eq_getElem?_getD, List.getElem?_eq_getElem hi, List.getElem?_eq_getElem (by omega)]
   exact this
theorem wagh {l : List Int} {lo hi : Int} (h : wbm l lo hi = true) {i : Nat} (hi' : i < l.length) : lo ≤ l.getD i 0 ∧ l.getD i 0 ≤ hi := (wef.1 h).1 _ (getD_mem hi')
theorem wyw {l : List Int} (hl : wew l) (lo hi : Int) : wauy l lo hi = some (wbm l lo hi) := by
 unfold wew at hl
 have h0 : walx (l, (lo, hi)) 0 = _ := war (f := fun v => (wkl (l, (lo, hi)) v).ev) (n := l.length) (mk := fun i => (i : Int)) (p := fun i => wfa (l.getD i 0) lo hi && (i == 0 || decide (l.getD (i - 1) 0 < l.getD i 0))) (yes := .inl ()) (no := .inr ()) (fun i hi' _ => by
   cases i with
   | zero =>
    simp (disch := omega) only [EV, wkl, hi', wep]
    cases wfa (l.getD 0 0) lo hi <;> rfl
   | succ i =>
    have h1 : i < l.length := by omega
    have e0 : (0 : Int) < ((i + 1 : Nat) : Int) := by omega
    have e1 : ((i + 1 : Nat) : Int) - 1 = (i : Int) := by omega
    have e2 : (i + 1 == 0) = false := rfl
    simp (disch := omega) only [EV, wkl, hi', wep, e0, e1, h1, e2, Bool.false_or, Nat.add_sub_cancel]
    cases wfa (l.getD (i + 1) 0) lo hi with
    | false => rfl
    | true =>
     by_cases h : l.getD (i + 1) 0 ≤ l.getD i 0
     ·simp only [Bool.not_true, cond_false, if_pos h, Bool.true_and, show ¬ l.getD i 0 < l.getD (i + 1) 0 by omega, decide_false]
     ·simp only [Bool.not_true, cond_false, if_neg h, Bool.true_and, show l.getD i 0 < l.getD (i + 1) 0 by omega, decide_true]
      rfl) (by simp (disch := omega) only [EV, wkl, Nat.lt_irrefl])
 unfold wauy wbfq
 simp (disch := omega) only [EV, h0]
 unfold wbm
 cases (List.range l.length).all fun i => wfa (l.getD i 0) lo hi && (i == 0 || decide (l.getD (i - 1) 0 < l.getD i 0)) <;> rfl
theorem wol {l : List Int} (hl : wew l) {n : Int} (h0 : 0 ≤ n) (h1 : n ≤ 1048576) : F_zz l n = some (wbm l 0 (n - 1)) := by
 unfold wew at hl
 have h0 : wazl (l, (n, (l, ((l.length : Nat) : Int)))) 0 = _ := war (f := fun v => (wpp (l, (n, (l, ((l.length : Nat) : Int)))) v).ev) (n := l.length) (mk := fun i => (i : Int)) (p := fun i => wfa (l.getD i 0) 0 (n - 1) && (i == 0 || decide (l.getD (i - 1) 0 < l.getD i 0))) (yes := .inl ()) (no := .inr ()) (fun i hi' _ => by
   cases i with
   | zero =>
    simp (disch := omega) only [EV, wpp, hi', wbr]
    cases wfa (l.getD 0 0) 0 (n - 1) <;> rfl
   | succ i =>
    have h1 : i < l.length := by omega
    have e0 : (0 : Int) < ((i + 1 : Nat) : Int) := by omega
    have e1 : ((i + 1 : Nat) : Int) - 1 = (i : Int) := by omega
    have e2 : (i + 1 == 0) = false := rfl
    simp (disch := omega) only [EV, wpp, hi', wbr, e0, e1, h1, e2, Bool.false_or, Nat.add_sub_cancel]
    cases wfa (l.getD (i + 1) 0) 0 (n - 1) with
    | false => rfl
    | true =>
     by_cases h : l.getD (i + 1) 0 ≤ l.getD i 0
     ·simp only [Bool.not_true, cond_false, if_pos h, Bool.true_and, show ¬ l.getD i 0 < l.getD (i + 1) 0 by omega, decide_false]
     ·simp only [Bool.not_true, cond_false, if_neg h, Bool.true_and, show l.getD i 0 < l.getD (i + 1) 0 by omega, decide_true]
      rfl) (by simp (disch := omega) only [EV, wpp, Nat.lt_irrefl])
 unfold F_zz T_zz
 simp (disch := omega) only [EV, h0]
 unfold wbm
 cases (List.range l.length).all fun i => wfa (l.getD i 0) 0 (n - 1) && (i == 0 || decide (l.getD (i - 1) 0 < l.getD i 0)) <;> rfl
def pl (s : List Int) (i : Nat) : Nat := (s.getD i 0).toNat
def wcj (x : List (List Int)) (s : List Int) (b : Int) : Int := (List.range s.length).foldl (fun b i => (List.range i).foldl (fun b j => min b (at2 x (pl s i) (pl s j))) b) b
theorem wvq {α : Type} (g : Int → α → Int) (hg : ∀ a b i, g (min a b) i = min a (g b i)) (l : List α) (a b : Int) : l.foldl g (min a b) = min a (l.foldl g b) := by
 induction l generalizing b with
 | nil => rfl
 | cons i l ih => rw [List.foldl_cons, List.foldl_cons, hg, ih]
theorem waxn (x : List (List Int)) (s : List Int) (a b : Int) : wcj x s (min a b) = min a (wcj x s b) :=
 wvq (fun b i => (List.range i).foldl (fun b j => min b (at2 x (pl s i) (pl s j))) b) (fun a b i => wvq (fun b j => min b (at2 x (pl s i) (pl s j))) (fun a b j => by omega) _ a b) _ a b
theorem wdc {α : Type} (g : Int → α → Int) (hg : ∀ a i, g a i ≤ a) (l : List α) (b : Int) : l.foldl g b ≤ b := by
 induction l generalizing b with
 | nil => exact Int.le_refl _
 | cons i l ih => exact Int.le_trans (ih _) (hg b i)
theorem wfl {α : Type} (g : Int → α → Int) (hg : ∀ a i, g a i ≤ a) {l : List α} {i : α} (hi : i ∈ l) {c : Int} (hc : ∀ a, g a i ≤ c) (b : Int) : l.foldl g b ≤ c := by
 induction l generalizing b with
 | nil => cases hi
 | cons k l ih =>
  rw [List.foldl_cons]
  rcases List.mem_cons.1 hi with rfl | hi
  ·exact Int.le_trans (wdc g hg l _) (hc b)
  ·exact ih hi _
theorem wyx (x : List (List Int)) (s : List Int) (b : Int) {i j : Nat} (hi : i < s.length) (hj : j < i) : wcj x s b ≤ at2 x (pl s i) (pl s j) :=
 wfl _ (fun a i => wdc _ (fun a j => by omega) _ a) (List.mem_range.2 hi) (fun a => wfl _ (fun a j => by omega) (List.mem_range.2 hj) (fun a => by omega) a) b
theorem wagi {x : List (List Int)} {s : List Int} {i j : Nat} (hi : i < s.length) (hj : j < i) {b : Int} (hb : at2 x (pl s i) (pl s j) ≤ b) : wcj x s (at2 x (pl s i) (pl s j)) = wcj x s b := by
 have := waxn x s (at2 x (pl s i) (pl s j)) b
 rw [Int.min_eq_left hb] at this
 rw [this, Int.min_eq_right (wyx x s b hi hj)]
structure Places (s : List Int) (n : Nat) : Prop where
 low : (s.length : Int) ≤ 1048576
 mem : ∀ i, i < s.length → 0 ≤ s.getD i 0 ∧ s.getD i 0 < n
theorem Places.pl {s : List Int} {n : Nat} (h : Places s n) {i : Nat} (hi : i < s.length) : s.getD i 0 = (pl s i : Int) ∧ Go.Proofs.YtnagpmhaddfgmaaGreat.pl s i < n := by
 have := h.mem i hi
 unfold Go.Proofs.YtnagpmhaddfgmaaGreat.pl
 omega
theorem Places.of {s : List Int} {n : Nat} (hs : wew s) (h : wbm s 0 ((n : Int) - 1) = true) : Places s n := ⟨hs, fun i hi => by have := wagh h hi; omega⟩
theorem wdf {x : List (List Int)} (hx : Ground x) {s : List Int} (hs : Places s x.length) (h2 : 2 ≤ s.length) : wafu x s = some (wcj x s 100) := by
 have hl := hx.len
 have hlow := hs.low
 have l2 : ∀ i b, i < s.length → wakx (x, (s, (i : Int))) (b, 0) = some ((List.range i).foldl (fun b j => min b (at2 x (pl s i) (pl s j))) b) := fun i b hi =>
  (waq (f := fun v => (wnq (x, (s, (i : Int))) v).ev) (n := i) (mk := fun j b => (b, (j : Int))) (I := fun _ _ => True) (g := fun b j => min b (at2 x (pl s i) (pl s j))) (fin := fun b => b) (s0 := b) trivial (fun j b hj _ => by
   have hj' : j < s.length := by omega
   obtain ⟨e1, h1⟩ := hs.pl hi
   obtain ⟨e2, h2⟩ := hs.pl hj'
   have e3 : (x.getD (pl s i) []).getD (pl s j) 0 = at2 x (pl s i) (pl s j) := rfl
   simp (disch := omega) only [EV, wnq, hi, hj, hj', e1, e2, hx.rowLen h1, h1, h2, wgz, e3]
   exact ⟨rfl, trivial⟩) (fun b _ => by simp (disch := omega) only [EV, wnq, Nat.lt_irrefl])).1
 have l0 : ∀ b, waky (x, s) (b, 0) = some (wcj x s b) := fun b =>
  (waq (f := fun v => (wnr (x, s) v).ev) (n := s.length) (mk := fun j b => (b, (j : Int))) (I := fun _ _ => True) (g := fun b i => (List.range i).foldl (fun b j => min b (at2 x (pl s i) (pl s j))) b) (fin := fun b => b) (s0 := b) trivial (fun i b hi _ => by
   simp (disch := omega) only [EV, wnr, hi, l2 i b hi]
   exact ⟨rfl, trivial⟩) (fun b _ => by simp (disch := omega) only [EV, wnr, Nat.lt_irrefl])).1
 obtain ⟨e0, h0⟩ := hs.pl (show 0 < s.length by omega)
 obtain ⟨e1, h1⟩ := hs.pl (show 1 < s.length by omega)
 unfold wafu wbef
 have z0 : Int.toNat 0 = 0 := rfl
 have z1 : Int.toNat 1 = 1 := rfl
 have e3 : (x.getD (pl s 0) []).getD (pl s 1) 0 = at2 x (pl s 0) (pl s 1) := rfl
 simp (disch := omega) only [EV, z0, z1, e0, e1, h0, h1, hx.rowLen h0, e3, l0]
 rw [hx.sym _ _ h0 h1, wagi (i := 1) (j := 0) (by omega) (by omega) (b := 100)]
 have := hx.in h1 h0
 omega
theorem wfm {x : List (List Int)} (hx : Ground x) {s : List Int} (hs : Places s x.length) : F_zv x s = some (wcj x s 100) := by
 have hl := hx.len
 have hlow := hs.low
 have l2 : ∀ i b, i < s.length → wazb (x, (s, ((pl s i : Int), (s, ((s.length : Int), ((i : Int), ((s.take i), ((i : Nat) : Int)))))))) (b, 0) = some ((List.range i).foldl (fun b j => min b (at2 x (pl s i) (pl s j))) b) := fun i b hi =>
  (waq (f := fun v => (wuu (x, (s, ((pl s i : Int), (s, ((s.length : Int), ((i : Int), ((s.take i), ((i : Nat) : Int)))))))) v).ev) (n := i) (mk := fun j b => (b, (j : Int))) (I := fun _ _ => True) (g := fun b j => min b (at2 x (pl s i) (pl s j))) (fin := fun b => b) (s0 := b) trivial (fun j b hj _ => by
   have hj' : j < s.length := by omega
   obtain ⟨e1, h1⟩ := hs.pl hi
   obtain ⟨e2, h2⟩ := hs.pl hj'
   have e4 : (s.take i).length = i := by simp; omega
   have e5 : (s.take i).getD j 0 = s.getD j 0 := by simp [List.getElem?_take, hj]
   have e3 : (x.getD (pl s i) []).getD (pl s j) 0 = at2 x (pl s i) (pl s j) := rfl
   simp (disch := omega) only [EV, wuu, hi, hj, hj', e2, e4, e5, hx.rowLen h1, h1, h2, e3]
   refine ⟨?_, trivial⟩
   by_cases h : at2 x (pl s i) (pl s j) < b
   ·rw [if_pos h, Int.min_eq_right (by omega)]; rfl
   ·rw [if_neg h, Int.min_eq_left (by omega)]; rfl) (fun b _ => by simp (disch := omega) only [EV, wuu, Nat.lt_irrefl])).1
 have l0 : ∀ b, wazc (x, (s, (s, (s.length : Int)))) (b, 0) = some (wcj x s b) := fun b =>
  (waq (f := fun v => (wuv (x, (s, (s, (s.length : Int)))) v).ev) (n := s.length) (mk := fun j b => (b, (j : Int))) (I := fun _ _ => True) (g := fun b i => (List.range i).foldl (fun b j => min b (at2 x (pl s i) (pl s j))) b) (fin := fun b => b) (s0 := b) trivial (fun i b hi _ => by
   have e1 := (hs.pl hi).1
   have e4 : (s.take i).length = i := by simp; omega
   have h1 : (0 : Int) ≤ (i : Int) := by omega
   have h2 : (i : Int) ≤ (s.length : Int) := by omega
   simp (disch := omega) only [EV, wuv, hi, List.drop_zero, e4, e1, h1, h2, l2 i b hi]
   exact ⟨rfl, trivial⟩) (fun b _ => by simp (disch := omega) only [EV, wuv, Nat.lt_irrefl])).1
 unfold F_zv T_zv
 simp (disch := omega) only [EV, l0]
def whm (x : List (List Int)) (s : List Int) : Int × Bool := bif wak x && (wbm s 0 ((x.length : Int) - 1) && decide (2 ≤ s.length)) then (wcj x s 100, true) else (0, false)
theorem wjj {x : List (List Int)} (hx : wla x) {s : List Int} (hs : wew s) : wyi x s = some (whm x s) := by
 unfold wyi wbfu whm
 have hl := hx.1
 simp (disch := omega) only [EV, wdb hx, wyw hs]
 cases h : wak x with
 | false => rfl
 | true =>
  by_cases h2 : (s.length : Int) < 2
  ·simp (disch := omega) only [EV, h2, show ¬ 2 ≤ s.length by omega]
  ·simp (disch := omega) only [EV, h2, show 2 ≤ s.length by omega]
   cases hr : wbm s 0 ((x.length : Int) - 1) with
   | false => rfl
   | true => simp (disch := omega) only [EV, wdf ((wag x).1 h) (Places.of hs hr) (show 2 ≤ s.length by omega)]
theorem wbt {x : List (List Int)} (hx : wla x) {s : List Int} (hs : wew s) : F_zg x s = some (whm x s) := by
 unfold F_zg T_zg whm
 have hl := hx.1
 simp (disch := omega) only [EV, wan hx, wol hs (show (0 : Int) ≤ (x.length : Int) by omega) hl]
 cases h : wak x with
 | false => rfl
 | true =>
  cases hr : wbm s 0 ((x.length : Int) - 1) with
  | false => rfl
  | true =>
   by_cases h2 : (s.length : Int) < 2
   ·simp (disch := omega) only [EV, h2, show ¬ 2 ≤ s.length by omega]
   ·simp (disch := omega) only [EV, h2, show 2 ≤ s.length by omega, wfm ((wag x).1 h) (Places.of hs hr)]
end Go.Proofs.YtnagpmhaddfgmaaGreat
/-
 Plain laws: fields, atlases.
-/
namespace Go.Proofs.YtnagpmhaddfgmaaGreat
structure Fld (o : List Int) (ds : List (List Int)) : Prop where
 pos : 1 ≤ o.length
 len : o.length ≤ 7
 cost : ∀ i, i < o.length → 0 ≤ o.getD i 0 ∧ o.getD i 0 ≤ 99
 clients : ds.length ≤ 7
 rowLen : ∀ j, j < ds.length → (ds.getD j []).length = o.length
 dist : ∀ j i, j < ds.length → i < o.length → 0 ≤ (ds.getD j []).getD i 0 ∧ (ds.getD j []).getD i 0 ≤ 99
end Go.Proofs.YtnagpmhaddfgmaaGreat
/-
 Plain laws: what a set of sites serves: lengths, service, payment, total, reach; values of objectives.
-/
namespace Go.Proofs.YtnagpmhaddfgmaaGreat
theorem Fld.at2 {o : List Int} {ds : List (List Int)} (h : Fld o ds) {j i : Nat} (hj : j < ds.length) (hi : i < o.length) : 0 ≤ at2 ds j i ∧ at2 ds j i ≤ 99 := h.dist j i hj hi
def wblx (ds : List (List Int)) (j : Nat) (s : List Int) (b k : Nat) : Nat := if at2 ds j (pl s k) < at2 ds j b then pl s k else b
def srv (ds : List (List Int)) (j : Nat) (s : List Int) : Nat := (List.range s.length).foldl (wblx ds j s) (pl s 0)
def near (ds : List (List Int)) (s : List Int) (j : Nat) : Int := at2 ds j (srv ds j s)
def far (ds : List (List Int)) (s : List Int) : Int := (List.range ds.length).foldl (fun a j => max a (near ds s j)) 0
end Go.Proofs.YtnagpmhaddfgmaaGreat
