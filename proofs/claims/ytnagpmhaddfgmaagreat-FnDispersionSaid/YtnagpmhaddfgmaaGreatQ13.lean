/-
 The law of near groups.
-/
import Derived.Test.YtnagpmhaddfgmaaGreatP8
import Derived.Test.YtnagpmhaddfgmaaGreatP7
import Derived.Test.YtnagpmhaddfgmaaGreatPM
namespace Go.Proofs.YtnagpmhaddfgmaaGreat
def wkr (m : List (List Int)) (d : Int) (x : Nat) (g : List Int) : Bool := g.all fun b => decide (at2 m x b.toNat < d)
def wfo (o : Option Nat) (out : List (List Int)) (x : Nat) : List (List Int) := match o with
 | none => out ++ [[(x : Int)]]
 | some k => out.set k (out.getD k [] ++ [(x : Int)])
def wcp (m : List (List Int)) (d : Int) (out : List (List Int)) (x : Nat) : List (List Int) := wfo (out.findIdx? (wkr m d x)) out x
def wdq (m : List (List Int)) (d : Int) : List (List Int) := (List.range m.length).foldl (wcp m d) []
def GI (x : Nat) (out : List (List Int)) : Prop := out.length ≤ x ∧ ∀ g ∈ out, g.length ≤ x ∧ ∀ b ∈ g, 0 ≤ b ∧ b < (x : Int)
theorem GI.step {x : Nat} {out : List (List Int)} (h : GI x out) (o : Option Nat) : GI (x + 1) (wfo o out x) := by
 obtain ⟨h1, h2⟩ := h
 have h3 : ∀ g ∈ out, g.length ≤ x + 1 ∧ ∀ b ∈ g, 0 ≤ b ∧ b < ((x + 1 : Nat) : Int) := fun g hg => ⟨by have := (h2 g hg).1; omega, fun b hb => by have := (h2 g hg).2 b hb; omega⟩
 cases o with
 | none =>
  refine ⟨by simp [wfo]; omega, fun g hg => ?_⟩
  simp only [wfo, List.mem_append, List.mem_singleton] at hg
  rcases hg with hg | rfl
  ·exact h3 g hg
  ·refine ⟨by simp, fun b hb => ?_⟩
   simp only [List.mem_singleton] at hb
   omega
 | some k =>
  refine ⟨by simp [wfo]; omega, fun g hg => ?_⟩
  rcases List.mem_or_eq_of_mem_set hg with hg | rfl
  ·exact h3 g hg
  ·by_cases hk : k < out.length
   ·have h4 := h2 _ (getD_mem (d := []) hk)
    refine ⟨by rw [List.length_append, List.length_singleton]; omega, fun b hb => ?_⟩
    rw [List.mem_append] at hb
    rcases hb with hb | hb
    ·have := h4.2 b hb; omega
    ·simp only [List.mem_singleton] at hb
     omega
   ·have e : out.getD k [] = [] := by rw [List.getD_eq_getElem?_getD, List.getElem?_eq_none (by omega)]; rfl
    rw [e]
    refine ⟨by simp, fun b hb => ?_⟩
    simp only [List.nil_append, List.mem_singleton] at hb
    omega
theorem wvx {α : Type} (p : α → Bool) : ∀ (l : List α) (b : Bool), l.foldl (fun s x => s && p x) b = (b && l.all p)
 | [], b => by simp
 | x :: l, b => by simp only [List.foldl_cons, wvx p l, List.all_cons, Bool.and_assoc]
theorem wvy {α : Type} (l : List α) (d : α) (p : α → Bool) : ∀ j, j ≤ l.length → (List.range j).foldl (fun (s : Int) i => if p (l.getD (l.length - 1 - i) d) then ((l.length - 1 - i : Nat) : Int) else s) (l.length : Int) =
  ((l.drop (l.length - j)).findIdx? p).elim (l.length : Int) (fun k => ((k + (l.length - j) : Nat) : Int))
 | 0, _ => by simp
 | j + 1, h => by
  rw [wau, wvy l d p j (by omega)]
  have e : l.length - (j + 1) = l.length - 1 - j := by omega
  have hlt : l.length - 1 - j < l.length := by omega
  have e2 : l.drop (l.length - (j + 1)) = l.getD (l.length - 1 - j) d :: l.drop (l.length - j) := by
   rw [e, List.drop_eq_getElem_cons hlt, List.getD_eq_getElem?_getD, List.getElem?_eq_getElem hlt, show l.length - 1 - j + 1 = l.length - j by omega]
   rfl
  rw [e2, List.findIdx?_cons]
  cases p (l.getD (l.length - 1 - j) d) with
  | true =>
   simp only [if_true, Option.elim_some]
   omega
  | false =>
   simp only [Bool.false_eq_true, if_false]
   cases (l.drop (l.length - j)).findIdx? p with
   | none => rfl
   | some k =>
    simp only [Option.map_some, Option.elim_some]
    omega
theorem GI.groups (m : List (List Int)) (d : Int) : GI m.length (wdq m d) := by
 have key : ∀ n, GI n ((List.range n).foldl (wcp m d) []) := by
  intro n
  induction n with
  | zero => exact ⟨by simp, fun g hg => by simp at hg⟩
  | succ n ih =>
   rw [wau]
   exact ih.step _
 exact key _
theorem GI.low {m : List (List Int)} (hm : Ground m) (d : Int) : wla (wdq m d) := by
 obtain ⟨h1, h2⟩ := GI.groups m d
 have := hm.len
 refine ⟨by omega, fun r hr => ?_⟩
 have := (h2 r hr).1
 unfold wew
 omega
theorem wpu {α : Type} {l : List α} {p : α → Bool} {k : Nat} (h : l.findIdx? p = some k) : k < l.length := by
 obtain ⟨h1, _⟩ := List.findIdx?_eq_some_iff_getElem.1 h
 exact h1
theorem waph {m : List (List Int)} (hm : Ground m) (d : Int) {x : Nat} (hx : x < m.length) {g : List Int} (hg : g.length ≤ x ∧ ∀ b ∈ g, 0 ≤ b ∧ b < (x : Int)) : F_zw m (x : Int) g d = some (wkr m d x g) := by
 have := hm.len
 unfold F_zw T_zw
 rw [Tr.ev_c, wch (by omega) (q := fun b => !(decide (at2 m x b.toNat < d))) fun b hb => by
  obtain ⟨h0, h1⟩ := hg.2 b hb
  obtain ⟨k, rfl⟩ := Int.eq_ofNat_of_zero_le h0
  have hk : k < m.length := by omega
  have e1 : (m.getD x []).getD k 0 = at2 m x k := rfl
  unfold F_zx T_zx
  simp (disch := omega) only [EV, hx, hm.rowLen hx, hk, e1]
  by_cases h : at2 m x k < d
  ·rw [decide_eq_true h, decide_eq_false (by omega)]; rfl
  ·rw [decide_eq_false h, decide_eq_true (by omega)]; rfl]
 simp (disch := omega) only [EV]
 unfold wkr
 rw [List.any_eq_not_all_not]
 simp
theorem wapi {m : List (List Int)} (hm : Ground m) (d : Int) : wazo ((m.length : Int), (m, d)) ((0 : Int), []) = some (wdq m d) := by
 have hl := hm.len
 have := (waq (f := fun v => (wvi ((m.length : Int), (m, d)) v).ev) (n := m.length) (mk := fun i s => ((i : Int), s)) (I := GI) (g := wcp m d) (fin := fun s => s) (s0 := []) ⟨by simp, fun g hg => by simp at hg⟩
  (fun x out hx hI => ⟨by
   have h1 := hI.1
   have hi := whk (l := out) (by omega) (p := fun h8_ => Option.bind (F_zm h8_.1 m (x : Int) d) fun y9_ => some y9_) (q := wkr m d x) fun g hg => by
    unfold F_zm T_zm
    simp (disch := omega) only [EV, waph hm d hx (hI.2 g hg)]
   simp (disch := omega) only [EV, wvi, hx, hi]
   unfold wcp
   cases hf : out.findIdx? (wkr m d x) with
   | none =>
    have hm1 : (-1 : Int) < 0 := by omega
    have hg : (out.length + 1) * 24 ≤ 140737488355328 := by omega
    simp (disch := omega) only [EV, Option.elim_none, hm1, hg]
    simp [wfo]
   | some k =>
    have hk := wpu hf
    have h2 := (hI.2 _ (getD_mem (d := []) hk)).1
    have hm1 : ¬ (k : Int) < 0 := by omega
    have hg : ((out.getD k []).length + 1) * 8 ≤ 140737488355328 := by omega
    simp (disch := omega) only [EV, Option.elim_some, hm1, hk, List.length_singleton, hg]
    rfl, hI.step _⟩)
  (fun s _ => by simp (disch := omega) only [EV, wvi, Nat.lt_irrefl])).1
 exact this
theorem wll {m : List (List Int)} (hm : wla m) (d : Int) : F_zl m d = some (bif wak m && wfa d 1 100 then (true, wdq m d) else (false, [])) := by
 unfold F_zl T_zl
 simp (disch := omega) only [EV, wan hm, wbr]
 cases h : wak m with
 | false => rfl
 | true =>
  simp (disch := omega) only [EV, wapi ((wag m).1 h)]
  cases wfa d 1 100 <;> rfl
theorem wbmf {m : List (List Int)} (hm : Ground m) (d : Int) {x : Nat} (hx : x < m.length) (at_ : Int) {out : List (List Int)} (hI : GI x out) {i : Nat} (hi : i < out.length) :
  wyj (m, (d, ((x : Int), (at_, ((i : Int), out))))) (true, (0 : Int)) = some (wkr m d x (out.getD i [])) := by
 have hl := hm.len
 obtain ⟨h1, h2⟩ := hI.2 _ (getD_mem (d := []) hi)
 have := (wgy (f := fun v => (wob (m, (d, ((x : Int), (at_, ((i : Int), out))))) v).ev) (out.getD i []) 0 (mk := fun i s => (s, (i : Int))) (I := fun _ _ => True) (g := fun s b => s && decide (at2 m x b.toNat < d)) (fin := fun s => s) (s0 := true) trivial
  (fun j s hj _ => ⟨by
   obtain ⟨h0, h1⟩ := h2 _ (getD_mem (d := 0) hj)
   simp (disch := omega) only [EV, wob, hi, hj]
   generalize (out.getD i []).getD j 0 = b at h0 h1 ⊢
   obtain ⟨k, rfl⟩ := Int.eq_ofNat_of_zero_le h0
   have hk : k < m.length := by omega
   have e1 : (m.getD k []).getD x 0 = at2 m x k := hm.sym k x hk hx
   simp (disch := omega) only [EV, hk, hm.rowLen hk, hx, e1]
   cases s <;> rfl, trivial⟩)
  (fun s _ => by simp (disch := omega) only [EV, wob, hi, Nat.lt_irrefl])).1
 unfold wyj wkr
 rw [wvx, Bool.true_and] at this
 exact this
theorem wapj {m : List (List Int)} (hm : Ground m) (d : Int) : wama (m, d) ((0 : Int), []) = some (wdq m d) := by
 have hl := hm.len
 have := (waq (f := fun v => (wod (m, d) v).ev) (n := m.length) (mk := fun i s => ((i : Int), s)) (I := GI) (g := wcp m d) (fin := fun s => s) (s0 := []) ⟨by simp, fun g hg => by simp at hg⟩
  (fun x out hx hI => ⟨by
   have h1 := hI.1
   have hn := (waq (f := fun v => (woc (m, (d, ((x : Int), out))) v).ev) (n := out.length) (mk := fun j s => (s, (out.length : Int) - 1 - (j : Int))) (I := fun _ _ => True)
    (g := fun (s : Int) i => if wkr m d x (out.getD (out.length - 1 - i) []) then ((out.length - 1 - i : Nat) : Int) else s) (fin := fun s => s) (s0 := (out.length : Int)) trivial
    (fun j s hj _ => ⟨by
     have e : (out.length : Int) - 1 - (j : Int) = ((out.length - 1 - j : Nat) : Int) := by omega
     have hlt : out.length - 1 - j < out.length := by omega
     have hge : (0 : Int) ≤ ((out.length - 1 - j : Nat) : Int) := by omega
     rw [e]
     simp (disch := omega) only [EV, woc, hge, wbmf hm d hx s hI hlt]
     have e2 : ((out.length - 1 - j : Nat) : Int) - 1 = (out.length : Int) - 1 - ((j + 1 : Nat) : Int) := by omega
     rw [e2]
     cases wkr m d x (out.getD (out.length - 1 - j) []) <;> rfl, trivial⟩)
    (fun s _ => by
     have hge : ¬ (0 : Int) ≤ (out.length : Int) - 1 - (out.length : Int) := by omega
     simp (disch := omega) only [EV, woc, hge])).1
   rw [wvy out [] (wkr m d x) _ (Nat.le_refl _), Nat.sub_self, List.drop_zero] at hn
   have hw : (out.length : Int) - 1 = (out.length : Int) - 1 - ((0 : Nat) : Int) := by omega
   have hn2 : walz (m, (d, ((x : Int), out))) ((out.length : Int), (out.length : Int) - 1) = some ((out.findIdx? (wkr m d x)).elim (out.length : Int) fun k => ((k + 0 : Nat) : Int)) := by
    rw [hw]
    exact hn
   simp (disch := omega) only [EV, wod, hx, hn2]
   unfold wcp
   cases hf : out.findIdx? (wkr m d x) with
   | none =>
    have hs : (out ++ [[]]).set out.length ([] : List Int) = out ++ [[]] := by simp
    have hg : (out ++ [[]]).getD out.length ([] : List Int) = [] := by simp
    have hlt : out.length < (out ++ [([] : List Int)]).length := by simp
    have hlen : (out ++ [([] : List Int)]).length = out.length + 1 := by simp
    have hgd : (out.length + 1) * 24 ≤ 140737488355328 := by omega
    simp (disch := omega) only [EV, Option.elim_none, beq_self_eq_true, hgd, hs, hg, hlen, List.length_singleton, List.length_nil, Nat.lt_succ_self]
    simp [wfo]
   | some k =>
    have hk := wpu hf
    have h2 := (hI.2 _ (getD_mem (d := []) hk)).1
    have hne : ((k : Int) == (out.length : Int)) = false := by rw [beq_eq_false_iff_ne]; omega
    have hgd : ((out.getD k []).length + 1) * 8 ≤ 140737488355328 := by omega
    simp (disch := omega) only [EV, Option.elim_some, Nat.add_zero, hne, hk, List.length_singleton, hgd]
    rfl, hI.step _⟩)
  (fun s _ => by simp (disch := omega) only [EV, wod, Nat.lt_irrefl])).1
 exact this
theorem wfr {m : List (List Int)} (hm : wla m) (d : Int) : wro m d = some (bif wak m && wfa d 1 100 then (true, wdq m d) else (false, [])) := by
 unfold wro wbfy waly wavb
 simp (disch := omega) only [EV, wdb hm, wep]
 cases h : wak m with
 | false => rfl
 | true =>
  simp (disch := omega) only [EV, wapj ((wag m).1 h)]
  cases wfa d 1 100 <;> rfl
end Go.Proofs.YtnagpmhaddfgmaaGreat
