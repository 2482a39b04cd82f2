/-
 The law of groups that prove a distance.
-/
import Derived.Test.YtnagpmhaddfgmaaGreatP8
import Derived.Test.YtnagpmhaddfgmaaGreatP10
import Derived.Test.YtnagpmhaddfgmaaGreatP7
import Derived.Test.YtnagpmhaddfgmaaGreatPM
namespace Go.Proofs.YtnagpmhaddfgmaaGreat
theorem waea (x : Int) : ∀ l : List Int, (ins x l).Perm (x :: l)
 | [] => .refl _
 | a :: l => by
  simp only [ins]
  split
  ·exact ((waea x l).cons a).trans (.swap x a l)
  ·exact .refl _
theorem whb (l : List Int) : (waz l).Perm l := by
 have key : ∀ (l acc : List Int), (l.foldl (fun acc x => ins x acc) acc).Perm (acc ++ l) := by
  intro l
  induction l with
  | nil => intro acc; simp
  | cons x l ih =>
   intro acc
   rw [List.foldl_cons]
   refine (ih (ins x acc)).trans ?_
   refine ((waea x acc).append_right l).trans ?_
   rw [List.cons_append]
   exact List.perm_middle.symm
 have := key l []
 simpa [waz] using this
theorem wii {l : List Int} {lo hi : Int} : wbm (waz l) lo hi = true ↔ (∀ x ∈ l, lo ≤ x ∧ x ≤ hi) ∧ l.Nodup := by
 obtain ⟨h1, _, h3⟩ := wez l
 rw [wef]
 constructor
 ·rintro ⟨a, b⟩
  refine ⟨fun x hx => a x ((h3 x).2 hx), (whb l).nodup_iff.1 ?_⟩
  exact b.imp fun {x y} h => by omega
 ·rintro ⟨a, b⟩
  refine ⟨fun x hx => a x ((h3 x).1 hx), ?_⟩
  have hn : (waz l).Nodup := (whb l).nodup_iff.2 b
  have h4 : (waz l).Pairwise fun x y => x ≤ y ∧ x ≠ y := h1.and hn
  exact h4.imp fun {x y} h => by omega
theorem wij {α : Type} {l : List α} {x : α} : (l ++ [x]).Nodup ↔ l.Nodup ∧ x ∉ l := by
 rw [List.nodup_append]
 constructor
 ·rintro ⟨h1, _, h3⟩
  exact ⟨h1, fun hx => h3 x hx x (by simp) rfl⟩
 ·rintro ⟨h1, h2⟩
  exact ⟨h1, by simp, fun a ha b hb => by rw [List.mem_singleton.1 hb]; exact fun e => h2 (e ▸ ha)⟩
structure PA (m groups : List (List Int)) (d : Int) : Prop where
 rng : ∀ g ∈ groups, ∀ x ∈ g, 0 ≤ x ∧ x < (m.length : Int)
 nodup : groups.flatten.Nodup
 ne : ∀ g ∈ groups, g ≠ []
 near : ∀ g ∈ groups, ∀ x ∈ g, ∀ y ∈ g, at2 m x.toNat y.toNat < d
 len : groups.flatten.length = m.length
def elB (m : List (List Int)) (d : Int) (seen g : List Int) (k : Nat) : Bool :=
 wfa (g.getD k 0) 0 ((m.length : Int) - 1) && (!(seen ++ g.take k).contains (g.getD k 0) && (List.range k).all fun j => decide (at2 m (g.getD k 0).toNat (g.getD j 0).toNat < d))
def grB (m : List (List Int)) (d : Int) (seen g : List Int) : Bool := (List.range g.length).all (elB m d seen g)
def alB (m groups : List (List Int)) (d : Int) : Bool := (List.range groups.length).all fun i => grB m d (groups.take i).flatten (groups.getD i []) && !((groups.getD i []).length == 0)
theorem wzb {m : List (List Int)} (hm : Ground m) {d : Int} (hd : 1 ≤ d) {seen g : List Int} (hs : seen.Nodup) : grB m d seen g = true ↔ (∀ x ∈ g, 0 ≤ x ∧ x < (m.length : Int)) ∧ (seen ++ g).Nodup ∧ ∀ x ∈ g, ∀ y ∈ g, at2 m x.toNat y.toNat < d := by
 unfold grB elB
 simp only [List.all_eq_true, List.mem_range, Bool.and_eq_true, wcg, Bool.not_eq_true', decide_eq_true_eq]
 have hat : ∀ {k : Nat} (hk : k < g.length), g.getD k 0 = g[k] := fun hk => by rw [List.getD_eq_getElem?_getD, List.getElem?_eq_getElem hk]; rfl
 constructor
 ·intro h
  have hr : ∀ x ∈ g, 0 ≤ x ∧ x < (m.length : Int) := fun x hx => by
   obtain ⟨k, hk, rfl⟩ := List.getElem_of_mem hx
   have := (h k hk).1
   rw [hat hk] at this
   omega
  have hn : ∀ k, k ≤ g.length → (seen ++ g.take k).Nodup := by
   intro k
   induction k with
   | zero => intro _; simpa using hs
   | succ k ih =>
    intro hk
    rw [List.take_succ_eq_append_getElem (by omega), ← List.append_assoc, wij]
    refine ⟨ih (by omega), fun hx => ?_⟩
    have := (h k (by omega)).2.1
    rw [hat (by omega), Bool.eq_false_iff] at this
    exact this (List.contains_iff_mem.2 hx)
  refine ⟨hr, by have := hn g.length (Nat.le_refl _); rwa [List.take_length] at this, fun x hx y hy => ?_⟩
  obtain ⟨a, ha, rfl⟩ := List.getElem_of_mem hx
  obtain ⟨b, hb, rfl⟩ := List.getElem_of_mem hy
  have h1 := hr _ hx
  have h2 := hr _ hy
  rcases Nat.lt_trichotomy a b with h3 | h3 | h3
  ·have := (h b hb).2.2 a h3
   rw [hat hb, hat ha] at this
   rw [hm.sym _ _ (by omega) (by omega)]
   exact this
  ·subst h3
   rw [hm.diag _ (by omega)]
   omega
  ·have := (h a ha).2.2 b h3
   rw [hat hb, hat ha] at this
   exact this
 ·rintro ⟨hr, hn, hp⟩ k hk
  have hx := List.getElem_mem hk
  rw [hat hk]
  refine ⟨by have := hr _ hx; omega, ?_, fun j hj => ?_⟩
  ·rw [Bool.eq_false_iff]
   intro hc
   have hc := List.contains_iff_mem.1 hc
   have e : seen ++ g = (seen ++ g.take k ++ [g[k]]) ++ g.drop (k + 1) := by
    rw [List.append_assoc seen, ← List.take_succ_eq_append_getElem hk, List.append_assoc, List.take_append_drop]
   rw [e, List.nodup_append, wij] at hn
   exact hn.1.2 hc
  ·rw [hat (show j < g.length by omega)]
   exact hp _ hx _ (List.getElem_mem _)
theorem weg {groups : List (List Int)} {i : Nat} (hi : i < groups.length) : (groups.take (i + 1)).flatten = (groups.take i).flatten ++ groups.getD i [] := by
 rw [List.take_succ_eq_append_getElem hi, List.flatten_append, List.getD_eq_getElem?_getD, List.getElem?_eq_getElem hi]
 simp
theorem wzc {m : List (List Int)} (hm : Ground m) {d : Int} (hd : 1 ≤ d) {groups : List (List Int)} : (alB m groups d = true ∧ groups.flatten.length = m.length) ↔ PA m groups d := by
 unfold alB
 simp only [List.all_eq_true, List.mem_range, Bool.and_eq_true, Bool.not_eq_true', beq_eq_false_iff_ne]
 have hat : ∀ {k : Nat} (hk : k < groups.length), groups.getD k [] = groups[k] := fun hk => by rw [List.getD_eq_getElem?_getD, List.getElem?_eq_getElem hk]; rfl
 constructor
 ·rintro ⟨h, hl⟩
  have hn : ∀ i, i ≤ groups.length → (groups.take i).flatten.Nodup := by
   intro i
   induction i with
   | zero => intro _; simp
   | succ i ih =>
    intro hi
    rw [weg (by omega)]
    exact ((wzb hm hd (ih (by omega))).1 (h i (by omega)).1).2.1
  have hg : ∀ g ∈ groups, (∀ x ∈ g, 0 ≤ x ∧ x < (m.length : Int)) ∧ g ≠ [] ∧ ∀ x ∈ g, ∀ y ∈ g, at2 m x.toNat y.toNat < d := fun g hg => by
   obtain ⟨i, hi, rfl⟩ := List.getElem_of_mem hg
   obtain ⟨h1, h2⟩ := h i hi
   rw [hat hi] at h1 h2
   obtain ⟨a, _, c⟩ := (wzb hm hd (hn i (by omega))).1 h1
   exact ⟨a, fun e => h2 (by rw [e]; rfl), c⟩
  refine ⟨fun g hg' => (hg g hg').1, ?_, fun g hg' => (hg g hg').2.1, fun g hg' => (hg g hg').2.2, hl⟩
  have := hn groups.length (Nat.le_refl _)
  rwa [List.take_length] at this
 ·intro h
  refine ⟨fun i hi => ?_, h.len⟩
  have hgm : groups.getD i [] ∈ groups := getD_mem hi
  have e : groups.flatten = (groups.take (i + 1)).flatten ++ (groups.drop (i + 1)).flatten := by rw [← List.flatten_append, List.take_append_drop]
  have hn := h.nodup
  rw [e, List.nodup_append, weg hi] at hn
  have hn1 := hn.1
  have hs := (List.nodup_append.1 hn1).1
  exact ⟨(wzb hm hd hs).2 ⟨h.rng _ hgm, hn1, h.near _ hgm⟩, fun e => h.ne _ hgm (List.eq_nil_of_length_eq_zero e)⟩
theorem waxx {l : List Int} (hl : (l.length : Int) < 9223372036854775807) (x : Int) : wyf l x = some (l.contains x) := by
 have hs : wye (l, x) 0 = _ := wex (f := fun v => (wgl (l, x) v).ev) (l := l) 0 (fun y => y == x) (mk := fun i => (i : Int)) (yes := fun _ => .inr ()) (no := .inl ()) (fun i hi => by
  simp (disch := omega) only [EV, wgl, hi]
  cases (l.getD i 0 == x) <;> rfl) (by simp (disch := omega) only [EV, wgl, Nat.lt_irrefl])
 unfold wyf waun
 simp (disch := omega) only [EV, hs]
 have e : l.contains x = l.any fun y => y == x := by
  rw [List.contains_eq_any_beq]
  congr 1
  funext y
  exact Bool.beq_comm
 rw [e]
 have h2 := wed (l := l) (q := fun y => y == x)
 cases h : l.findIdx? fun y => y == x with
 | none =>
  rw [h] at h2
  have h3 : (l.any fun y => y == x) = false := by
   rw [Bool.eq_false_iff]
   exact fun h4 => by have := h2.1 h4; simp at this
  rw [h3]
  rfl
 | some i =>
  rw [h] at h2
  rw [h2.2 rfl]
  rfl
theorem wbtp {m groups : List (List Int)} (hm : Ground m) (d : Int) {i k : Nat} (hi : i < groups.length) (hk : k < (groups.getD i []).length) (hr : ∀ j, j ≤ k → 0 ≤ (groups.getD i []).getD j 0 ∧ (groups.getD i []).getD j 0 < (m.length : Int)) (hl : ((groups.getD i []).length : Int) ≤ 1048576) (hgl : (groups.length : Int) ≤ 1048576) (seen : List Int) :
  wane (m, (groups, (d, ((i : Int), ((k : Int), seen))))) (0 : Int) = some (bif (List.range k).all fun j => decide (at2 m ((groups.getD i []).getD k 0).toNat ((groups.getD i []).getD j 0).toNat < d) then .inl () else .inr ()) := by
 have h7 := hm.len
 exact war (f := fun v => (wkm (m, (groups, (d, ((i : Int), ((k : Int), seen))))) v).ev) (n := k) (mk := fun j => (j : Int)) (p := fun j => decide (at2 m ((groups.getD i []).getD k 0).toNat ((groups.getD i []).getD j 0).toNat < d)) (yes := .inl ()) (no := .inr ())
  (fun j hj _ => by
   obtain ⟨a, ea⟩ : ∃ a : Nat, (groups.getD i []).getD k 0 = (a : Int) := ⟨((groups.getD i []).getD k 0).toNat, by have := (hr k (Nat.le_refl _)).1; omega⟩
   obtain ⟨b, eb⟩ : ∃ b : Nat, (groups.getD i []).getD j 0 = (b : Int) := ⟨((groups.getD i []).getD j 0).toNat, by have := (hr j (by omega)).1; omega⟩
   have ha : a < m.length := by have := (hr k (Nat.le_refl _)).2; omega
   have hb : b < m.length := by have := (hr j (by omega)).2; omega
   have hjl : j < (groups.getD i []).length := by omega
   have e3 : (m.getD a []).getD b 0 = at2 m a b := rfl
   by_cases hlt : at2 m a b < d
   ·have hle : ¬ d ≤ at2 m a b := by omega
    simp (disch := omega) only [EV, wkm, hj, hi, hk, hjl, ea, eb, ha, hb, hm.rowLen ha, e3, Int.toNat_natCast, hle, hlt]
    try rfl
   ·have hle : d ≤ at2 m a b := by omega
    simp (disch := omega) only [EV, wkm, hj, hi, hk, hjl, ea, eb, ha, hb, hm.rowLen ha, e3, Int.toNat_natCast, hle, hlt])
  (by simp (disch := omega) only [EV, wkm, Int.lt_irrefl])
theorem wbtq {m groups : List (List Int)} (hm : Ground m) (d : Int) {i : Nat} (hi : i < groups.length) (hl : ((groups.getD i []).length : Int) ≤ 1048576) (hgl : (groups.length : Int) ≤ 1048576) (seen : List Int) (hs : seen.length ≤ 1099511627776) :
  wanf (m, (groups, (d, (i : Int)))) ((0 : Int), seen) = some (bif grB m d seen (groups.getD i []) then .inl (seen ++ groups.getD i []) else .inr ()) := by
 have h7 := hm.len
 have h := war (f := fun v => (wgo (m, (groups, (d, (i : Int)))) v).ev) (n := (groups.getD i []).length) (mk := fun k => ((k : Int), seen ++ (groups.getD i []).take k)) (p := elB m d seen (groups.getD i [])) (yes := .inl (seen ++ groups.getD i [])) (no := .inr ())
  (fun k hk hp => by
   have hr : ∀ j, j < k → 0 ≤ (groups.getD i []).getD j 0 ∧ (groups.getD i []).getD j 0 < (m.length : Int) := fun j hj => by
    have := hp j hj
    unfold elB at this
    rw [Bool.and_eq_true, wcg] at this
    have := this.1
    omega
   have hlk : (seen ++ (groups.getD i []).take k).length ≤ 1099512676352 := by rw [List.length_append, List.length_take]; omega
   have r1 : ((seen ++ (groups.getD i []).take k).length + List.length ([(groups.getD i []).getD k 0] : List Int)) * 8 ≤ 140737488355328 := by rw [List.length_singleton]; omega
   have hsn : (seen ++ (groups.getD i []).take k) ++ [(groups.getD i []).getD k 0] = seen ++ (groups.getD i []).take (k + 1) := by
    rw [List.append_assoc, List.take_succ_eq_append_getElem hk, List.getD_eq_getElem?_getD (l := groups.getD i []), List.getElem?_eq_getElem hk]
    rfl
   have hh := waxx (l := seen ++ (groups.getD i []).take k) (by omega) ((groups.getD i []).getD k 0)
   cases h1 : wfa ((groups.getD i []).getD k 0) 0 ((m.length : Int) - 1) with
   | false =>
    have e : elB m d seen (groups.getD i []) k = false := by unfold elB; rw [h1]; rfl
    simp (disch := omega) only [EV, wgo, hi, hk, wep, h1, e]
   | true =>
    cases h2 : (seen ++ (groups.getD i []).take k).contains ((groups.getD i []).getD k 0) with
    | true =>
     have e : elB m d seen (groups.getD i []) k = false := by unfold elB; rw [h1, h2]; rfl
     rw [h2] at hh
     simp (disch := omega) only [EV, wgo, hi, hk, wep, h1, e, hh]
    | false =>
     rw [h2] at hh
     have h3 := wbtp hm d hi hk (fun j hj => by
      by_cases e : j = k
      ·subst e
       have := wcg.1 h1
       omega
      ·exact hr j (by omega)) hl hgl (seen ++ (groups.getD i []).take (k + 1))
     cases h4 : (List.range k).all fun j => decide (at2 m ((groups.getD i []).getD k 0).toNat ((groups.getD i []).getD j 0).toNat < d) with
     | true =>
      have e : elB m d seen (groups.getD i []) k = true := by unfold elB; rw [h1, h2, h4]; rfl
      rw [h4] at h3
      simp (disch := omega) only [EV, wgo, hi, hk, wep, h1, e, hh, r1, hsn, h3]
      try rfl
     | false =>
      have e : elB m d seen (groups.getD i []) k = false := by unfold elB; rw [h1, h2, h4]; rfl
      rw [h4] at h3
      simp (disch := omega) only [EV, wgo, hi, hk, wep, h1, e, hh, r1, hsn, h3])
  (by simp (disch := omega) only [EV, wgo, hi, Nat.lt_irrefl, List.take_length])
 have e : ((((0 : Nat) : Int)), seen ++ (groups.getD i []).take 0) = ((0 : Int), seen) := by simp
 rw [e] at h
 exact h
theorem wik {groups : List (List Int)} (hg : wla groups) (i : Nat) : (groups.take i).flatten.length ≤ 1099511627776 := by
 obtain ⟨h1, h2⟩ := hg
 have key : ∀ l : List (List Int), (∀ r ∈ l, r.length ≤ 1048576) → l.flatten.length ≤ l.length * 1048576 := by
  intro l
  induction l with
  | nil => intro _; simp
  | cons x l ih =>
   intro h
   have := h x List.mem_cons_self
   have := ih fun r hr => h r (List.mem_cons_of_mem _ hr)
   simp only [List.flatten_cons, List.length_append, List.length_cons]
   omega
 have := key (groups.take i) fun r hr => by have := h2 r (List.mem_of_mem_take hr); unfold wew at this; omega
 have h3 : (groups.take i).length ≤ 1048576 := by rw [List.length_take]; omega
 have := Nat.mul_le_mul_right 1048576 h3
 omega
theorem wko {m groups : List (List Int)} (hm : wla m) (hg : wla groups) (d : Int) : wvg m groups d = some (bif wak m && wfa d 1 100 then (alB m groups d && decide (groups.flatten.length = m.length), true) else (false, false)) := by
 unfold wvg wbhz waly wavb
 simp (disch := omega) only [EV, wdb hm, wep]
 cases h1 : wak m with
 | false => rfl
 | true =>
  cases h2 : wfa d 1 100 with
  | false => rfl
  | true =>
   have hG := (wag m).1 h1
   have hgl := hg.1
   have h := war (f := fun v => (wia (m, (groups, d)) v).ev) (n := groups.length) (mk := fun i => ((i : Int), (groups.take i).flatten)) (p := fun i => grB m d (groups.take i).flatten (groups.getD i []) && !((groups.getD i []).length == 0)) (yes := .inl groups.flatten) (no := .inr ())
    (fun i hi _ => by
     have hrl : wew (groups.getD i []) := hg.2 _ (getD_mem hi)
     unfold wew at hrl
     have e := wbtq hG d hi hrl hgl (groups.take i).flatten (wik hg i)
     have hz : ((((groups.getD i []).length : Nat) : Int) == 0) = ((groups.getD i []).length == 0) := by
      rw [Bool.eq_iff_iff, beq_iff_eq, beq_iff_eq]
      omega
     have hf := weg hi
     cases hb : grB m d (groups.take i).flatten (groups.getD i []) with
     | false =>
      rw [hb] at e
      simp (disch := omega) only [EV, wia, hi, e]
      try rfl
     | true =>
      rw [hb] at e
      cases hq : ((groups.getD i []).length == 0) with
      | true =>
       rw [hq] at hz
       simp (disch := omega) only [EV, wia, hi, e, hz]
       try rfl
      | false =>
       rw [hq] at hz
       simp (disch := omega) only [EV, wia, hi, e, hz]
       rw [← hf]
       rfl)
    (by simp (disch := omega) only [EV, wia, Nat.lt_irrefl, List.take_length])
   have h0 : wang (m, (groups, d)) ((0 : Int), ([] : List Int)) = some (bif alB m groups d then .inl groups.flatten else .inr ()) := h
   cases hb : alB m groups d with
   | false =>
    rw [hb] at h0
    simp (disch := omega) only [EV, h0]
    try rfl
   | true =>
    rw [hb] at h0
    simp (disch := omega) only [EV, h0]
    try rw [int_eq]
    try rfl
theorem woo {groups : List (List Int)} (hg : wla groups) : wavf groups = some groups.flatten := by
 have hgl := hg.1
 have hfl := wik hg
 have hf : (groups.take groups.length).flatten = groups.flatten := by rw [List.take_length]
 have h0 := (waq (f := fun v => (woe (groups, (groups, ((groups.length : Nat) : Int))) v).ev) (n := groups.length) (mk := fun i (a : Int) => (a, (i : Int))) (I := fun i a => a = (((groups.take i).flatten.length : Nat) : Int)) (g := fun a i => a + (((groups.getD i []).length : Nat) : Int)) (fin := fun a => a) (s0 := 0) (by simp)
  (fun i a hi ha => by
   have h1 := hfl i
   have h2 := hfl (i + 1)
   rw [weg hi, List.length_append] at h2
   have hn : ¬ a + (((groups.getD i []).length : Nat) : Int) < 0 := by omega
   refine ⟨?_, by rw [weg hi, List.length_append]; omega⟩
   simp (disch := omega) only [EV, woe, hi, hn]
   try rfl)
  (fun a _ => by simp (disch := omega) only [EV, woe, Nat.lt_irrefl]))
 have k0 : wame (groups, (groups, ((groups.length : Nat) : Int))) (0, 0) = _ := h0.1
 rw [h0.2, hf] at k0
 have h1 := (waq (f := fun v => (wof (groups, ((groups.length : Nat) : Int)) v).ev) (n := groups.length) (mk := fun i (a : List Int) => ((i : Int), a)) (I := fun i a => a = (groups.take i).flatten) (g := fun a i => a ++ groups.getD i []) (fin := fun a => a) (s0 := []) (by simp)
  (fun i a hi ha => by
   have h2 := hfl (i + 1)
   rw [weg hi, List.length_append] at h2
   have r1 : (a.length + (groups.getD i []).length) * 8 ≤ 140737488355328 := by rw [ha]; omega
   refine ⟨?_, by rw [weg hi, ha]⟩
   simp (disch := omega) only [EV, wof, hi, r1]
   try rfl)
  (fun a _ => by simp (disch := omega) only [EV, wof, Nat.lt_irrefl]))
 have k1 : wamf (groups, ((groups.length : Nat) : Int)) (0, []) = _ := h1.1
 rw [h1.2, hf] at k1
 have hq := hfl groups.length
 rw [hf] at hq
 generalize groups.flatten = fl at k0 k1 hq
 have e : wave ((fl.length : Nat) : Int) = some [] := by
  unfold wave wbgb
  have z : IntKind.wrap .i64 ((0 : Int) - 0) = 0 := rfl
  have w1 : IntKind.wrap .i64 (((fl.length : Nat) : Int) - 0) = ((fl.length : Nat) : Int) := by rw [Int.sub_zero]; exact wrap64 (by omega) (by omega)
  have n0 : decide (((fl.length : Nat) : Int) < 0) = false := decide_eq_false (by omega)
  rw [Tr.ev_t, n0, cond_false, Tr.ev_t, z, w1]
  by_cases hp : 0 < fl.length
  ·have p1 : decide ((0 : Int) < ((fl.length : Nat) : Int)) = true := decide_eq_true (by omega)
   have p2 : decide (((fl.length : Nat) : Int) * ((8 : Nat) : Int) ≤ 281474976710656) = true := decide_eq_true (by omega)
   have p3 : (decide ((0 : Int) ≤ (0 : Int)) && decide ((0 : Int) ≤ ((0 : Nat) : Int))) = true := rfl
   have p4 : (decide ((0 : Int) ≤ (0 : Int)) && decide ((0 : Int) ≤ ((List.length (List.replicate (Int.toNat ((fl.length : Nat) : Int)) (0 : Int)) : Nat) : Int))) = true := by
    rw [decide_eq_true (Int.le_refl _), decide_eq_true (by omega)]
    rfl
   rw [p1, cond_true, Tr.ev_g, p3, cond_true, Tr.ev_g, p2, Bool.and_self, cond_true, Tr.ev_g, p4, cond_true, Tr.ev_l]
   rfl
  ·have p1 : decide ((0 : Int) < ((fl.length : Nat) : Int)) = false := decide_eq_false (by omega)
   rw [p1, cond_false]
   rfl
 unfold wavf wbgd
 simp (disch := omega) only [EV, k0, e, k1]
theorem wagp {l : List Int} {n : Nat} (hn : n ≤ 12) (hl : l.length ≤ 1099511627776) : F_zy l (n : Int) = some (decide (l.length = n) && wbm (waz l) 0 ((n : Int) - 1)) := by
 unfold F_zy T_zy wbhw wbhv wbnx wbnz
 by_cases h : l.length = n
 ·have e : (((l.length : Nat) : Int) == (n : Int)) = true := beq_iff_eq.2 (by omega)
  have hc : wgw l = some l := by unfold wgw; rw [if_pos (by omega)]
  have hsl : (waz l).length = l.length := (wez l).2.1
  have hs : wew (waz l) := by unfold wew; omega
  simp (disch := omega) only [EV, e, hc, wta (l := l) (by omega), wol hs (n := (n : Int)) (by omega) (by omega), h]
  rw [beq_self_eq_true]
  rfl
 ·have e : (((l.length : Nat) : Int) == (n : Int)) = false := beq_eq_false_iff_ne.2 (by omega)
  simp (disch := omega) only [EV, e, h]
theorem wbme {m : List (List Int)} (hm : Ground m) (d : Int) {a : Int} (ha : 0 ≤ a ∧ a < (m.length : Int)) {g : List Int} (hg : ∀ x ∈ g, 0 ≤ x ∧ x < (m.length : Int)) (hl : (g.length : Int) < 9223372036854775807) :
  F_zw m a g d = some (g.all fun b => decide (at2 m a.toNat b.toNat < d)) := by
 have h7 := hm.len
 obtain ⟨x, rfl⟩ : ∃ x : Nat, a = (x : Int) := ⟨a.toNat, by omega⟩
 have hx : x < m.length := by omega
 unfold F_zw T_zw
 rw [Tr.ev_c, wch hl (q := fun b => !decide (at2 m x b.toNat < d)) fun b hb => by
  have h1 := hg b hb
  obtain ⟨y, rfl⟩ : ∃ y : Nat, b = (y : Int) := ⟨b.toNat, by omega⟩
  have hy : y < m.length := by omega
  have e3 : (m.getD x []).getD y 0 = at2 m x y := rfl
  show Option.bind (F_zx (y : Int) m (x : Int) d) _ = _
  unfold F_zx T_zx
  by_cases hlt : at2 m x y < d
  ·have hle : ¬ d ≤ at2 m x y := by omega
   simp (disch := omega) only [EV, hx, hm.rowLen hx, hy, e3, Int.toNat_natCast, hle, hlt]
  ·have hle : d ≤ at2 m x y := by omega
   simp (disch := omega) only [EV, hx, hm.rowLen hx, hy, e3, Int.toNat_natCast, hle, hlt]]
 rw [Option.bind_some, Tr.ev_l, List.any_eq_not_all_not]
 simp
theorem wkp {m groups : List (List Int)} (hm : wla m) (hg : wla groups) (d : Int) : ∃ b, F_zn m groups d = some (bif wak m && wfa d 1 100 then (b, true) else (false, false)) ∧ (wak m = true → wfa d 1 100 = true → (b = true ↔ PA m groups d)) := by
 unfold F_zn T_zn
 cases h1 : wak m with
 | false => exact ⟨false, by simp (disch := omega) only [EV, wan hm, h1], fun h => by cases h⟩
 | true =>
  cases h2 : wfa d 1 100 with
  | false => exact ⟨false, by simp (disch := omega) only [EV, wan hm, h1, wbr, h2], fun _ h => by cases h⟩
  | true =>
   have hG := (wag m).1 h1
   have h7 := hG.len
   have hgl := hg.1
   have hd := wcg.1 h2
   have hfl := wik hg groups.length
   rw [List.take_length] at hfl
   have eo := wagp (l := groups.flatten) (n := m.length) (by omega) hfl
   cases ho : (decide (groups.flatten.length = m.length) && wbm (waz groups.flatten) 0 ((m.length : Int) - 1)) with
   | false =>
    rw [ho] at eo
    refine ⟨false, by simp (disch := omega) only [EV, wan hm, h1, wbr, h2, woo hg, eo], fun _ _ => ⟨fun h => (by cases h), fun h => ?_⟩⟩
    have : (decide (groups.flatten.length = m.length) && wbm (waz groups.flatten) 0 ((m.length : Int) - 1)) = true := by
     rw [decide_eq_true h.len, Bool.true_and, wii]
     refine ⟨fun x hx => ?_, h.nodup⟩
     obtain ⟨g, hg', hxg⟩ := List.mem_flatten.1 hx
     have := h.rng g hg' x hxg
     omega
    rw [this] at ho
    cases ho
   | true =>
    rw [ho] at eo
    rw [Bool.and_eq_true, decide_eq_true_eq, wii] at ho
    obtain ⟨hlen, hrng, hnd⟩ := ho
    have hr : ∀ g ∈ groups, ∀ x ∈ g, 0 ≤ x ∧ x < (m.length : Int) := fun g hg' x hx => by
     have := hrng x (List.mem_flatten.2 ⟨g, hg', hx⟩)
     omega
    have hs := war (f := fun v => (woi (groups, (((groups.length : Nat) : Int), (m, d))) v).ev) (n := groups.length) (mk := fun i => (i : Int)) (p := fun i => !((groups.getD i []).length == 0) && (groups.getD i []).all fun a => (groups.getD i []).all fun b => decide (at2 m a.toNat b.toNat < d)) (yes := .inl ()) (no := .inr ())
     (fun i hi _ => by
      have hgm : groups.getD i [] ∈ groups := getD_mem hi
      have hrl : wew (groups.getD i []) := hg.2 _ hgm
      unfold wew at hrl
      have hz : ((((groups.getD i []).length : Nat) : Int) == 0) = ((groups.getD i []).length == 0) := by
       rw [Bool.eq_iff_iff, beq_iff_eq, beq_iff_eq]
       omega
      have hc := wch (l := groups.getD i []) (by omega) (p := fun h10_ => Option.bind (F_zo h10_.1 m (groups.getD i []) d) fun y11_ => some y11_) (q := fun a => !((groups.getD i []).all fun b => decide (at2 m a.toNat b.toNat < d))) fun a ha => by
       show Option.bind (F_zo a m (groups.getD i []) d) _ = _
       unfold F_zo T_zo
       simp (disch := omega) only [EV, wbme hG d (hr _ hgm a ha) (hr _ hgm) (by omega)]
      have ha : ((groups.getD i []).any fun a => !((groups.getD i []).all fun b => decide (at2 m a.toNat b.toNat < d))) = !((groups.getD i []).all fun a => (groups.getD i []).all fun b => decide (at2 m a.toNat b.toNat < d)) := by
       rw [List.any_eq_not_all_not]
       simp
      rw [ha] at hc
      cases hq : ((groups.getD i []).length == 0) with
      | true =>
       rw [hq] at hz
       simp (disch := omega) only [EV, woi, hi, hz]
       try rfl
      | false =>
       rw [hq] at hz
       cases hb : (groups.getD i []).all fun a => (groups.getD i []).all fun b => decide (at2 m a.toNat b.toNat < d) with
       | false =>
        rw [hb] at hc
        simp (disch := omega) only [EV, woi, hi, hz, hc]
        try rfl
       | true =>
        rw [hb] at hc
        simp (disch := omega) only [EV, woi, hi, hz, hc]
        try rfl)
     (by simp (disch := omega) only [EV, woi, Nat.lt_irrefl])
    have h0 : wazn (groups, (((groups.length : Nat) : Int), (m, d))) 0 = _ := hs
    have hiff : ((List.range groups.length).all fun i => !((groups.getD i []).length == 0) && (groups.getD i []).all fun a => (groups.getD i []).all fun b => decide (at2 m a.toNat b.toNat < d)) = true ↔ PA m groups d := by
     simp only [List.all_eq_true, List.mem_range, Bool.and_eq_true, Bool.not_eq_true', beq_eq_false_iff_ne, decide_eq_true_eq]
     constructor
     ·intro h
      refine ⟨hr, hnd, fun g hg' e => ?_, fun g hg' x hx y hy => ?_, hlen⟩
      ·obtain ⟨i, hi, rfl⟩ := List.getElem_of_mem hg'
       have := (h i hi).1
       rw [List.getD_eq_getElem?_getD, List.getElem?_eq_getElem hi, Option.getD_some, e] at this
       exact this rfl
      ·obtain ⟨i, hi, rfl⟩ := List.getElem_of_mem hg'
       have := (h i hi).2
       rw [List.getD_eq_getElem?_getD, List.getElem?_eq_getElem hi, Option.getD_some] at this
       exact this x hx y hy
     ·intro h i hi
      have hgm : groups.getD i [] ∈ groups := getD_mem hi
      exact ⟨fun e => h.ne _ hgm (List.eq_nil_of_length_eq_zero e), fun x hx y hy => h.near _ hgm x hx y hy⟩
    cases hb : ((List.range groups.length).all fun i => !((groups.getD i []).length == 0) && (groups.getD i []).all fun a => (groups.getD i []).all fun b => decide (at2 m a.toNat b.toNat < d)) with
    | false =>
     rw [hb] at h0 hiff
     exact ⟨false, by simp (disch := omega) only [EV, wan hm, h1, wbr, h2, woo hg, eo, h0]; try rfl, fun _ _ => hiff⟩
    | true =>
     rw [hb] at h0 hiff
     exact ⟨true, by simp (disch := omega) only [EV, wan hm, h1, wbr, h2, woo hg, eo, h0]; try rfl, fun _ _ => hiff⟩
def paB (m groups : List (List Int)) (d : Int) : Bool × Bool := bif wak m && wfa d 1 100 then (alB m groups d && decide (groups.flatten.length = m.length), true) else (false, false)
theorem waeb {m groups : List (List Int)} (hm : wla m) (hg : wla groups) (d : Int) : F_zn m groups d = some (paB m groups d) := by
 obtain ⟨b, e1, e2⟩ := wkp hm hg d
 rw [e1]
 unfold paB
 cases h1 : wak m with
 | false => rfl
 | true =>
  cases h2 : wfa d 1 100 with
  | false => rfl
  | true =>
   have hG := (wag m).1 h1
   have hd := wcg.1 h2
   have h3 := e2 h1 h2
   have h4 := wzc hG hd.1 (groups := groups)
   have : b = (alB m groups d && decide (groups.flatten.length = m.length)) := by
    rw [Bool.eq_iff_iff, h3, ← h4, Bool.and_eq_true, decide_eq_true_eq]
   rw [this]
end Go.Proofs.YtnagpmhaddfgmaaGreat
