/-
  Plain laws: the drawing of grounds, flows and hubs comes to an end.
-/
import Derived.Test.YtlemejhffpkbkaaPC
import Derived.Test.YtlemejhffpkbkaaPM
namespace Go.Proofs.Ytlemejhffpkbkaa
theorem g_ev {L : Type} {b : Bool} {x : Tr L} (h : b = true) : (Tr.g b x).ev = x.ev := by rw [Tr.ev_g, h, cond_true]
structure Sq (n : Nat) (d : List (List Int)) : Prop where
  len : d.length = n
  row : ∀ r ∈ d, r.length = n
theorem Sq.at {n : Nat} {d : List (List Int)} (h : Sq n d) {i : Nat} (hi : i < n) : (d.getD i []).length = n := h.row _ (getD_mem (by rw [h.len]; exact hi))
theorem Sq.set {n : Nat} {d : List (List Int)} (h : Sq n d) {i : Nat} (hi : i < n) (a : Nat) (x : Int) : Sq n (d.set i ((d.getD i []).set a x)) := by
  refine ⟨by rw [List.length_set, h.len], fun r hr => ?_⟩
  rcases List.mem_or_eq_of_mem_set hr with h1 | rfl
  · exact h.row r h1
  · rw [List.length_set, h.at hi]
theorem rounds_cntE {V R : Type} {f : V → Option (V ⊕ R)} {n : Nat} (P : Nat → V → Prop) (Q : R → Prop) (hs : ∀ k v, k < n → P k v → (∃ v', f v = some (.inl v') ∧ P (k + 1) v') ∨ ∃ r, f v = some (.inr r) ∧ Q r) (he : ∀ v, P n v → ∃ r, f v = some (.inr r) ∧ Q r) {v : V} (h0 : P 0 v) : ∃ r, iter f v = some r ∧ Q r := by
  have key : ∀ m k v, k + m = n → P k v → ∃ r, iter f v = some r ∧ Q r := by
    intro m
    induction m with
    | zero =>
      intro k v hk hp
      have : k = n := by omega
      subst this
      obtain ⟨r, h1, h2⟩ := he v hp
      exact ⟨r, by rw [iter_eq, h1], h2⟩
    | succ m ih =>
      intro k v hk hp
      rcases hs k v (by omega) hp with ⟨v', h1, h2⟩ | ⟨r, h1, h2⟩
      · obtain ⟨r, h3, h4⟩ := ih (k + 1) v' (by omega) h2
        exact ⟨r, by rw [iter_eq, h1]; exact h3, h4⟩
      · exact ⟨r, by rw [iter_eq, h1], h2⟩
  exact key n 0 v (by omega) h0
theorem ground4_ok {B : Int} {l : List Int} {at_ : Int} {n : Nat} (hn : n ≤ 7) (line : Bool) {i : Nat} (hi : i < n) {pl_ : List Int} (hp : pl_.length = n) (c : Int) {d : List (List Int)} (hd : Sq n d) (h : CK B l at_) (hB : B ≤ 800000) :
    ∃ a' c' d', L_sp_l1Cur_ground_4 ((n : Int), (line, ((i : Int), pl_))) ((0 : Int), (l, (at_, (c, d)))) = some (l, (a', (c', d'))) ∧ Sq n d' ∧ CK (B + 14) l a' := by
  obtain ⟨r, h1, a', c', d', rfl, h2⟩ := iter_cnt (f := fun v => (S_sp_l1Cur_ground_4 ((n : Int), (line, ((i : Int), pl_))) v).ev) (n := i)
    (fun j v => ∃ a c d, v = ((j : Int), (l, (a, (c, d)))) ∧ Sq n d ∧ CK (B + 2 * j) l a)
    (fun r => ∃ a c d, r = (l, (a, (c, d))) ∧ Sq n d ∧ CK (B + 14) l a)
    (fun j v hj hv => by
      obtain ⟨a, c, d, rfl, hd, hc⟩ := hv
      obtain ⟨x, a1, c1, e1, _, _, h1⟩ := pick_ok 12 c hc (by omega) (by omega)
      have hjn : j < n := by omega
      have i1 : inR (i : Int) n = true := inR_int (by omega) (by omega)
      have j1 : inR (j : Int) n = true := inR_int (by omega) (by omega)
      have jl : decide ((j : Int) < (i : Int)) = true := decide_eq_true (by omega)
      have l0 := hd.len
      have l1 := hd.at hi
      have s1 := fun y => (hd.set hi j y).len
      have s2 := fun y => (hd.set hi j y).at hjn
      have ej : IntKind.wrap .i64 ((j : Int) + 1) = ((j + 1 : Nat) : Int) := by rw [wrap64 (by omega) (by omega)]; omega
      have fin : ∀ y : Int, (Tr.g (L := ((Int) × ((List (Int)) × ((Int) × ((Int) × (List (List (Int))))))) ⊕ ((List (Int)) × ((Int) × ((Int) × (List (List (Int))))))) (inR (i : Int) d.length) <|
          .g (decide (i < d.length)) <| .g (inR (j : Int) (d.getD i []).length) <| .g (decide (j < (d.getD i []).length)) <| .g (inR (j : Int) (d.set i ((d.getD i []).set j y)).length) <| .g (decide (j < (d.set i ((d.getD i []).set j y)).length)) <|
          .g (inR (i : Int) ((d.set i ((d.getD i []).set j y)).getD j []).length) <| .g (decide (i < ((d.set i ((d.getD i []).set j y)).getD j []).length)) <|
          .l (.inl (IntKind.wrap .i64 ((j : Int) + 1), (l, (a1, (c1, (d.set i ((d.getD i []).set j y)).set j (((d.set i ((d.getD i []).set j y)).getD j []).set i y))))))).ev =
          some (.inl (((j + 1 : Nat) : Int), (l, (a1, (c1, (d.set i ((d.getD i []).set j y)).set j (((d.set i ((d.getD i []).set j y)).getD j []).set i y)))))) := fun y => by
        refine (g_ev (by rw [l0]; exact i1)).trans ?_
        refine (g_ev (decide_eq_true (by rw [l0]; exact hi))).trans ?_
        refine (g_ev (by rw [l1]; exact j1)).trans ?_
        refine (g_ev (decide_eq_true (by rw [l1]; exact hjn))).trans ?_
        refine (g_ev (by rw [s1 y]; exact j1)).trans ?_
        refine (g_ev (decide_eq_true (by rw [s1 y]; exact hjn))).trans ?_
        refine (g_ev (by rw [s2 y]; exact i1)).trans ?_
        refine (g_ev (decide_eq_true (by rw [s2 y]; exact hi))).trans ?_
        rw [Tr.ev_l, ej]
      unfold S_sp_l1Cur_ground_4
      have p1 : inR (i : Int) pl_.length = true := by rw [hp]; exact i1
      have p2 : decide (i < pl_.length) = true := decide_eq_true (by rw [hp]; exact hi)
      have p3 : inR (j : Int) pl_.length = true := by rw [hp]; exact j1
      have p4 : decide (j < pl_.length) = true := decide_eq_true (by rw [hp]; exact hjn)
      cases line with
      | true =>
        refine ⟨_, ?_, a1, c1, _, rfl, ((hd.set hi j (max (IntKind.wrap .i64 (pl_.getD i 0 - pl_.getD j 0)) (IntKind.wrap .i64 (pl_.getD j 0 - pl_.getD i 0)))).set hjn i (max (IntKind.wrap .i64 (pl_.getD i 0 - pl_.getD j 0)) (IntKind.wrap .i64 (pl_.getD j 0 - pl_.getD i 0)))), h1.mono (by omega)⟩
        dsimp only
        rw [Tr.ev_t, jl, cond_true, Tr.ev_c, e1, Option.bind_some, Tr.ev_t, cond_true]
        refine (g_ev p1).trans ?_
        refine (g_ev p2).trans ?_
        refine (g_ev p3).trans ?_
        refine (g_ev p4).trans ?_
        refine (g_ev p3).trans ?_
        refine (g_ev p4).trans ?_
        refine (g_ev p1).trans ?_
        refine (g_ev p2).trans ?_
        rw [Tr.ev_c, l1Most_eq, Option.bind_some]
        exact fin (max (IntKind.wrap .i64 (pl_.getD i 0 - pl_.getD j 0)) (IntKind.wrap .i64 (pl_.getD j 0 - pl_.getD i 0)))
      | false =>
        refine ⟨_, ?_, a1, c1, _, rfl, ((hd.set hi j x).set hjn i x), h1.mono (by omega)⟩
        dsimp only
        rw [Tr.ev_t, jl, cond_true, Tr.ev_c, e1, Option.bind_some, Tr.ev_t, cond_false]
        exact fin x)
    (fun v hv => by
      obtain ⟨a, c, d, rfl, hd, hc⟩ := hv
      have hq : decide ((i : Int) < (i : Int)) = false := decide_eq_false (Int.lt_irrefl _)
      refine ⟨(l, (a, (c, d))), ?_, a, c, d, rfl, hd, hc.mono (by omega)⟩
      unfold S_sp_l1Cur_ground_4
      dsimp only
      rw [Tr.ev_t, hq, cond_false, Tr.ev_l])
    (v := ((0 : Int), (l, (at_, (c, d))))) ⟨at_, c, d, rfl, hd, h.mono (by omega)⟩
  exact ⟨a', c', d', h1, h2⟩
theorem ground2_ok {B : Int} {l : List Int} {at_ : Int} {n : Nat} (hn : n ≤ 7) (line : Bool) {pl_ : List Int} (hp : pl_.length = n) (c : Int) {d : List (List Int)} (hd : Sq n d) (h : CK B l at_) (hB : B ≤ 700000) :
    ∃ a' c' d', L_sp_l1Cur_ground_2 ((n : Int), (line, pl_)) ((0 : Int), (l, (at_, (c, d)))) = some (l, (a', (c', d'))) ∧ Sq n d' ∧ CK (B + 98) l a' := by
  obtain ⟨r, h1, a', c', d', rfl, h2⟩ := iter_cnt (f := fun v => (S_sp_l1Cur_ground_2 ((n : Int), (line, pl_)) v).ev) (n := n)
    (fun j v => ∃ a c d, v = ((j : Int), (l, (a, (c, d)))) ∧ Sq n d ∧ CK (B + 14 * j) l a)
    (fun r => ∃ a c d, r = (l, (a, (c, d))) ∧ Sq n d ∧ CK (B + 98) l a)
    (fun j v hj hv => by
      obtain ⟨a, c, d, rfl, hd, hc⟩ := hv
      obtain ⟨a1, c1, d1, e1, hd1, h1⟩ := ground4_ok hn line hj hp c hd hc (by omega)
      have jl : decide ((j : Int) < (n : Int)) = true := decide_eq_true (by omega)
      have ej : IntKind.wrap .i64 ((j : Int) + 1) = ((j + 1 : Nat) : Int) := by rw [wrap64 (by omega) (by omega)]; omega
      refine ⟨_, ?_, a1, c1, d1, rfl, hd1, h1.mono (by omega)⟩
      simp only [S_sp_l1Cur_ground_2, Tr.ev_t, Tr.ev_c, Tr.ev_l, jl, cond_true, e1, Option.bind_some, ej])
    (fun v hv => by
      obtain ⟨a, c, d, rfl, hd, hc⟩ := hv
      exact ⟨_, by simp (disch := omega) only [EV, S_sp_l1Cur_ground_2, Int.lt_irrefl], a, c, d, rfl, hd, hc.mono (by omega)⟩)
    (v := ((0 : Int), (l, (at_, (c, d))))) ⟨at_, c, d, rfl, hd, h.mono (by omega)⟩
  exact ⟨a', c', d', h1, h2⟩
theorem ground12_ok {n : Nat} (hn : n ≤ 7) (line : Bool) (rd : Int) {i j : Nat} (hi : i < n) (hj : j < n) (rest : (List (Int)) × ((Int) × (Int))) {d : List (List Int)} (hd : Sq n d) :
    ∃ d', L_sp_l1Cur_ground_12 ((n : Int), (line, (rd, ((i : Int), ((j : Int), rest))))) ((0 : Int), d) = some d' ∧ Sq n d' :=
  iter_cnt (f := fun v => (S_sp_l1Cur_ground_12 ((n : Int), (line, (rd, ((i : Int), ((j : Int), rest))))) v).ev) (n := n) (fun k v => ∃ d, v = ((k : Int), d) ∧ Sq n d) (fun r => Sq n r)
    (fun k v hk hv => by
      obtain ⟨d, rfl, hd⟩ := hv
      have i1 : inR (i : Int) n = true := inR_int (by omega) (by omega)
      have j1 : inR (j : Int) n = true := inR_int (by omega) (by omega)
      have k1 : inR (k : Int) n = true := inR_int (by omega) (by omega)
      have kl : decide ((k : Int) < (n : Int)) = true := decide_eq_true (by omega)
      have l0 := hd.len
      have l1 := hd.at hi
      have l2 := hd.at hk
      have ek : IntKind.wrap .i64 ((k : Int) + 1) = ((k + 1 : Nat) : Int) := by rw [wrap64 (by omega) (by omega)]; omega
      refine ⟨_, ?_, _, rfl, hd.set hi j (min ((d.getD i []).getD j 0) (IntKind.wrap .i64 ((d.getD i []).getD k 0 + (d.getD k []).getD j 0)))⟩
      unfold S_sp_l1Cur_ground_12
      have q1 : inR (i : Int) d.length = true := by rw [l0]; exact i1
      have q2 : decide (i < d.length) = true := decide_eq_true (by rw [l0]; exact hi)
      have q3 : inR (j : Int) (d.getD i []).length = true := by rw [l1]; exact j1
      have q4 : decide (j < (d.getD i []).length) = true := decide_eq_true (by rw [l1]; exact hj)
      have q5 : inR (k : Int) (d.getD i []).length = true := by rw [l1]; exact k1
      have q6 : decide (k < (d.getD i []).length) = true := decide_eq_true (by rw [l1]; exact hk)
      have q7 : inR (k : Int) d.length = true := by rw [l0]; exact k1
      have q8 : decide (k < d.length) = true := decide_eq_true (by rw [l0]; exact hk)
      have q9 : inR (j : Int) (d.getD k []).length = true := by rw [l2]; exact j1
      have q10 : decide (j < (d.getD k []).length) = true := decide_eq_true (by rw [l2]; exact hj)
      dsimp only
      rw [Tr.ev_t, kl, cond_true]
      refine (g_ev q1).trans ?_
      refine (g_ev q2).trans ?_
      refine (g_ev q1).trans ?_
      refine (g_ev q2).trans ?_
      refine (g_ev q3).trans ?_
      refine (g_ev q4).trans ?_
      refine (g_ev q1).trans ?_
      refine (g_ev q2).trans ?_
      refine (g_ev q5).trans ?_
      refine (g_ev q6).trans ?_
      refine (g_ev q7).trans ?_
      refine (g_ev q8).trans ?_
      refine (g_ev q9).trans ?_
      refine (g_ev q10).trans ?_
      rw [Tr.ev_c, l1Least_eq, Option.bind_some]
      refine (g_ev q3).trans ?_
      refine (g_ev q4).trans ?_
      rw [Tr.ev_l, ek]
      rfl)
    (fun v hv => by
      obtain ⟨d, rfl, hd⟩ := hv
      have hq : decide ((n : Int) < (n : Int)) = false := decide_eq_false (Int.lt_irrefl _)
      refine ⟨d, ?_, hd⟩
      unfold S_sp_l1Cur_ground_12
      dsimp only
      rw [Tr.ev_t, hq, cond_false, Tr.ev_l])
    (v := ((0 : Int), d)) ⟨d, rfl, hd⟩
theorem ground10_ok {n : Nat} (hn : n ≤ 7) (line : Bool) (rd : Int) {i : Nat} (hi : i < n) (rest : (List (Int)) × ((Int) × (Int))) {d : List (List Int)} (hd : Sq n d) :
    ∃ d', L_sp_l1Cur_ground_10 ((n : Int), (line, (rd, ((i : Int), rest)))) ((0 : Int), d) = some d' ∧ Sq n d' :=
  iter_cnt (f := fun v => (S_sp_l1Cur_ground_10 ((n : Int), (line, (rd, ((i : Int), rest)))) v).ev) (n := n) (fun k v => ∃ d, v = ((k : Int), d) ∧ Sq n d) (fun r => Sq n r)
    (fun k v hk hv => by
      obtain ⟨d, rfl, hd⟩ := hv
      obtain ⟨d1, e1, hd1⟩ := ground12_ok hn line rd hi hk rest hd
      have kl : decide ((k : Int) < (n : Int)) = true := decide_eq_true (by omega)
      have ek : IntKind.wrap .i64 ((k : Int) + 1) = ((k + 1 : Nat) : Int) := by rw [wrap64 (by omega) (by omega)]; omega
      refine ⟨_, ?_, _, rfl, hd1⟩
      simp only [S_sp_l1Cur_ground_10, Tr.ev_t, Tr.ev_c, Tr.ev_l, kl, cond_true, e1, Option.bind_some, ek])
    (fun v hv => by
      obtain ⟨d, rfl, hd⟩ := hv
      exact ⟨d, by simp (disch := omega) only [EV, S_sp_l1Cur_ground_10, Int.lt_irrefl], hd⟩)
    (v := ((0 : Int), d)) ⟨d, rfl, hd⟩
theorem ground8_ok {n : Nat} (hn : n ≤ 7) (line : Bool) (rd : Int) (rest : (List (Int)) × ((Int) × (Int))) {d : List (List Int)} (hd : Sq n d) :
    ∃ d', L_sp_l1Cur_ground_8 ((n : Int), (line, (rd, rest))) ((0 : Int), d) = some d' ∧ Sq n d' :=
  iter_cnt (f := fun v => (S_sp_l1Cur_ground_8 ((n : Int), (line, (rd, rest))) v).ev) (n := n) (fun k v => ∃ d, v = ((k : Int), d) ∧ Sq n d) (fun r => Sq n r)
    (fun k v hk hv => by
      obtain ⟨d, rfl, hd⟩ := hv
      obtain ⟨d1, e1, hd1⟩ := ground10_ok hn line rd hk rest hd
      have kl : decide ((k : Int) < (n : Int)) = true := decide_eq_true (by omega)
      have ek : IntKind.wrap .i64 ((k : Int) + 1) = ((k + 1 : Nat) : Int) := by rw [wrap64 (by omega) (by omega)]; omega
      refine ⟨_, ?_, _, rfl, hd1⟩
      simp only [S_sp_l1Cur_ground_8, Tr.ev_t, Tr.ev_c, Tr.ev_l, kl, cond_true, e1, Option.bind_some, ek])
    (fun v hv => by
      obtain ⟨d, rfl, hd⟩ := hv
      exact ⟨d, by simp (disch := omega) only [EV, S_sp_l1Cur_ground_8, Int.lt_irrefl], hd⟩)
    (v := ((0 : Int), d)) ⟨d, rfl, hd⟩
theorem ground6_ok {B : Int} {l : List Int} {at_ : Int} {n : Nat} (hn : n ≤ 7) (line : Bool) (c : Int) {d : List (List Int)} (hd : Sq n d) (h : CK B l at_) (hB : B ≤ 700000) :
    ∃ a' c' d', L_sp_l1Cur_ground_6 ((n : Int), line) ((0 : Int), (l, (at_, (c, d)))) = some (l, (a', (c', d'))) ∧ Sq n d' ∧ CK (B + 16) l a' := by
  obtain ⟨r, h1, a', c', d', rfl, h2⟩ := rounds_cntE (f := fun v => (S_sp_l1Cur_ground_6 ((n : Int), line) v).ev) (n := n)
    (fun j v => ∃ a c d, v = ((j : Int), (l, (a, (c, d)))) ∧ Sq n d ∧ CK (B + 2 * j) l a)
    (fun r => ∃ a c d, r = (l, (a, (c, d))) ∧ Sq n d ∧ CK (B + 16) l a)
    (fun j v hj hv => by
      obtain ⟨a, c, d, rfl, hd, hc⟩ := hv
      have jl : decide ((j : Int) < (n : Int)) = true := decide_eq_true (by omega)
      have ej : IntKind.wrap .i64 ((j : Int) + 1) = ((j + 1 : Nat) : Int) := by rw [wrap64 (by omega) (by omega)]; omega
      cases line with
      | true => exact .inr ⟨_, by simp only [S_sp_l1Cur_ground_6, Tr.ev_t, Tr.ev_l, jl, cond_true, cond_false, Bool.not_true], a, c, d, rfl, hd, hc.mono (by omega)⟩
      | false =>
        obtain ⟨b, a1, c1, e1, h1⟩ := one_ok 2 c hc (by omega) (by omega)
        cases b with
        | true =>
          obtain ⟨d1, e2, hd1⟩ := ground8_ok hn false (j : Int) (l, (a1, c1)) hd
          refine .inl ⟨_, ?_, a1, c1, d1, rfl, hd1, h1.mono (by omega)⟩
          simp only [S_sp_l1Cur_ground_6, Tr.ev_t, Tr.ev_c, Tr.ev_l, jl, cond_true, Bool.not_false, e1, e2, Option.bind_some, ej]
        | false =>
          refine .inr ⟨_, ?_, a1, c1, d, rfl, hd, h1.mono (by omega)⟩
          simp only [S_sp_l1Cur_ground_6, Tr.ev_t, Tr.ev_c, Tr.ev_l, jl, cond_true, cond_false, Bool.not_false, e1, Option.bind_some])
    (fun v hv => by
      obtain ⟨a, c, d, rfl, hd, hc⟩ := hv
      exact ⟨_, by simp (disch := omega) only [EV, S_sp_l1Cur_ground_6, Int.lt_irrefl], a, c, d, rfl, hd, hc.mono (by omega)⟩)
    (v := ((0 : Int), (l, (at_, (c, d))))) ⟨at_, c, d, rfl, hd, h.mono (by omega)⟩
  exact ⟨a', c', d', h1, h2⟩
theorem ground0_ok {B : Int} {l : List Int} {at_ : Int} {n : Nat} (hn : n ≤ 7) (line : Bool) (c : Int) (h : CK B l at_) (hB : B ≤ 700000) :
    ∃ a' c' p d', L_sp_l1Cur_ground_0 ((n : Int), line) ((0 : Int), (l, (at_, (c, (([] : List Int), ([] : List (List Int))))))) = some (l, (a', (c', (p, d')))) ∧ (p.length = n ∧ Sq n d') ∧ CK (B + 14) l a' := by
  obtain ⟨r, h1, a', c', p, d', rfl, h2⟩ := iter_cnt (f := fun v => (S_sp_l1Cur_ground_0 ((n : Int), line) v).ev) (n := n)
    (fun j v => ∃ a c p d, v = ((j : Int), (l, (a, (c, (p, d))))) ∧ (p.length = j ∧ d.length = j ∧ ∀ r ∈ d, r.length = n) ∧ CK (B + 2 * j) l a)
    (fun r => ∃ a c p d, r = (l, (a, (c, (p, d)))) ∧ (p.length = n ∧ Sq n d) ∧ CK (B + 14) l a)
    (fun j v hj hv => by
      obtain ⟨a, c, p, d, rfl, ⟨k1, k2, k3⟩, hc⟩ := hv
      obtain ⟨x, a1, c1, e1, _, _, h1⟩ := pick_ok 30 c hc (by omega) (by omega)
      have r1 := room8 p x (by omega)
      have r2 := room24 d (by omega)
      have jl : decide ((j : Int) < (n : Int)) = true := decide_eq_true (by omega)
      have ej : IntKind.wrap .i64 ((j : Int) + 1) = ((j + 1 : Nat) : Int) := by rw [wrap64 (by omega) (by omega)]; omega
      have g1 : (0 : Int) ≤ (n : Int) := by omega
      have g2 : ((8 : Nat) : Int) * (n : Int) ≤ 281474976710656 := by omega
      refine ⟨_, ?_, a1, c1, p ++ [x], d ++ [List.replicate n 0], rfl, ⟨by simp [k1], by simp [k2], fun r hr => ?_⟩, h1.mono (by omega)⟩
      · simp only [S_sp_l1Cur_ground_0, Tr.ev_t, Tr.ev_g, Tr.ev_c, Tr.ev_l, jl, cond_true, e1, Option.bind_some, r1, r2, g1, g2, Int.le_refl, decide_true, Bool.and_self, Int.toNat_natCast, set_end, ej]
      · rcases List.mem_append.1 hr with h | h
        · exact k3 r h
        · rw [List.mem_singleton.1 h, List.length_replicate])
    (fun v hv => by
      obtain ⟨a, c, p, d, rfl, ⟨k1, k2, k3⟩, hc⟩ := hv
      exact ⟨_, by simp (disch := omega) only [EV, S_sp_l1Cur_ground_0, Int.lt_irrefl], a, c, p, d, rfl, ⟨k1, k2, k3⟩, hc.mono (by omega)⟩)
    (v := ((0 : Int), (l, (at_, (c, (([] : List Int), ([] : List (List Int)))))))) ⟨at_, c, [], [], rfl, ⟨rfl, rfl, fun r hr => by cases hr⟩, h.mono (by omega)⟩
  exact ⟨a', c', p, d', h1, h2⟩
structure DrG (d : List (List Int)) : Prop where
  len : d.length ≤ 7
  row : ∀ r ∈ d, r.length ≤ 8
theorem DrG.low {d : List (List Int)} (h : DrG d) : Low2 d := ⟨by have := h.len; omega, fun r hr => by have := h.row r hr; unfold Low1; omega⟩
theorem Sq.drg {n : Nat} (hn : n ≤ 7) {d : List (List Int)} (h : Sq n d) : DrG d := ⟨by rw [h.len]; exact hn, fun r hr => by rw [h.row r hr]; omega⟩
theorem DrG.set {d : List (List Int)} (h : DrG d) (i : Nat) {r : List Int} (hr : r.length ≤ 8) : DrG (d.set i r) := by
  refine ⟨by rw [List.length_set]; exact h.len, fun q hq => ?_⟩
  rcases List.mem_or_eq_of_mem_set hq with h1 | rfl
  · exact h.row q h1
  · exact hr
theorem ground_ok {B : Int} {l : List Int} {at_ : Int} {most : Int} (hm : 0 ≤ most) (c : Int) (h : CK B l at_) (hB : B ≤ 500000) :
    ∃ d a' c', F_sp_l1Cur_ground most l at_ c = some (d, (l, (a', c'))) ∧ DrG d ∧ CK (B + 200) l a' := by
  obtain ⟨x, a1, c1, e1, hx, h1⟩ := among_ok [(4 : Int), (5 : Int), (3 : Int), (6 : Int), (7 : Int), (2 : Int), (1 : Int), (0 : Int)] c h (by omega) (by decide)
  have hx7 : 0 ≤ x ∧ x ≤ 7 := by
    simp only [List.mem_cons, List.not_mem_nil, or_false] at hx
    omega
  obtain ⟨n, en, hn⟩ : ∃ n : Nat, min x most = (n : Int) ∧ n ≤ 7 := ⟨(min x most).toNat, by omega, by omega⟩
  obtain ⟨b, a2, c2, e2, h2⟩ := one_ok 2 c1 h1 (by omega) (by omega)
  obtain ⟨a3, c3, p, d3, e3, ⟨hp, hd3⟩, h3⟩ := ground0_ok hn b c2 h2 (by omega)
  obtain ⟨a4, c4, d4, e4, hd4, h4⟩ := ground2_ok hn b hp c3 hd3 h3 (by omega)
  obtain ⟨a5, c5, d5, e5, hd5, h5⟩ := ground6_ok hn b c4 hd4 h4 (by omega)
  have hD := hd5.drg hn
  unfold F_sp_l1Cur_ground T_sp_l1Cur_ground
  rw [Tr.ev_c, e1, Option.bind_some, Tr.ev_c, l1Least_eq, en, Option.bind_some, Tr.ev_c]
  simp only
  rw [e2, Option.bind_some, Tr.ev_c]
  simp only
  rw [e3, Option.bind_some, Tr.ev_c]
  simp only
  rw [e4, Option.bind_some, Tr.ev_c]
  simp only
  rw [e5, Option.bind_some, Tr.ev_t]
  by_cases h1n : 1 < n
  · have q1 : decide ((1 : Int) < (n : Int)) = true := decide_eq_true (by omega)
    obtain ⟨y, a6, c6, e6, _, _, h6⟩ := pick_ok 40 c5 h5 (by omega) (by omega)
    rw [q1, cond_true, Tr.ev_c]
    simp only
    rw [e6, Option.bind_some, Tr.ev_t]
    dsimp only
    have l0 := hd5.len
    have i0 : inR (0 : Int) n = true := inR_int (by omega) (by omega)
    have i1 : inR (1 : Int) n = true := inR_int (by omega) (by omega)
    have z0 : Int.toNat 0 = 0 := rfl
    have z1 : Int.toNat 1 = 1 := rfl
    have m0 : 0 < n := by omega
    have r0 := hd5.at m0
    have r1 := hd5.at h1n
    cases k0 : (y == (0 : Int)) with
    | true =>
      obtain ⟨w, a7, c7, e7, _, h7⟩ := among_ok [(-1 : Int), (99 : Int), (100 : Int)] c6 h6 (by omega) (by decide)
      rw [cond_true]
      refine ⟨_, a7, c7, ?_, hD.set 0 (r := (d5.getD 0 []).set 1 w) (by rw [List.length_set, r0]; omega), h7.mono (by omega)⟩
      simp only [Tr.ev_g, Tr.ev_c, Tr.ev_l, cond_true, l0, i0, i1, z0, z1, m0, decide_true, e7, Option.bind_some, r0, h1n]
    | false =>
      rw [cond_false, Tr.ev_t]
      cases k1 : (y == (1 : Int)) with
      | true =>
        have en1 : IntKind.wrap .i64 ((n : Int) - 1) = ((n - 1 : Nat) : Int) := by rw [wrap64 (by omega) (by omega)]; omega
        have in1 : inR ((n - 1 : Nat) : Int) n = true := inR_int (by omega) (by omega)
        have mn : n - 1 < n := by omega
        have rn := hd5.at mn
        have q2 : (n + List.length [(0 : Int)]) * 8 ≤ 140737488355328 := by simp; omega
        rw [cond_true]
        refine ⟨_, a6, c6, ?_, hD.set (n - 1) (r := d5.getD (n - 1) [] ++ [0]) (by rw [List.length_append, rn]; simp; omega), h6.mono (by omega)⟩
        simp only [Tr.ev_g, Tr.ev_l, cond_true, l0, en1, in1, mn, Int.toNat_natCast, decide_true, rn, q2, Bool.and_self]
      | false =>
        rw [cond_false, Tr.ev_t]
        cases k2 : (y == (2 : Int)) with
        | true =>
          rw [cond_true]
          refine ⟨_, a6, c6, ?_, hD.set 1 (r := (d5.getD 1 []).set 1 1) (by rw [List.length_set, r1]; omega), h6.mono (by omega)⟩
          simp only [Tr.ev_g, Tr.ev_l, cond_true, l0, i1, z1, h1n, decide_true, r1]
        | false =>
          rw [cond_false]
          exact ⟨_, a6, c6, rfl, hD, h6.mono (by omega)⟩
  · have q1 : decide ((1 : Int) < (n : Int)) = false := decide_eq_false (by omega)
    rw [q1, cond_false]
    exact ⟨_, _, _, rfl, hD, h5.mono (by omega)⟩
theorem flows2_ok {B : Int} {l : List Int} {at_ : Int} {m : List (List Int)} (hm : m.length ≤ 7) (kr : (Int) × (List (List (Int)))) (c : Int) (h : CK B l at_) (hB : B ≤ 700000) :
    ∃ a' c' r, L_sp_l1Cur_flows_2 (m, kr) ((0 : Int), (l, (at_, (c, ([] : List Int))))) = some (l, (a', (c', r))) ∧ r.length = m.length ∧ CK (B + 14) l a' := by
  obtain ⟨r, h1, a', c', p, rfl, h2⟩ := iter_cnt (f := fun v => (S_sp_l1Cur_flows_2 (m, kr) v).ev) (n := m.length)
    (fun j v => ∃ a c p, v = ((j : Int), (l, (a, (c, p)))) ∧ p.length = j ∧ CK (B + 2 * j) l a)
    (fun r => ∃ a c p, r = (l, (a, (c, p))) ∧ p.length = m.length ∧ CK (B + 14) l a)
    (fun j v hj hv => by
      obtain ⟨a, c, p, rfl, k1, hc⟩ := hv
      obtain ⟨x, a1, c1, e1, _, h1⟩ := among_ok [(0 : Int), (1 : Int), (2 : Int), (5 : Int), (1 : Int), (0 : Int), (9 : Int)] c hc (by omega) (by decide)
      have r1 := room8 p x (by omega)
      refine ⟨(((j + 1 : Nat) : Int), (l, (a1, (c1, p ++ [x])))), ?_, a1, c1, p ++ [x], rfl, by simp [k1], h1.mono (by omega)⟩
      simp (disch := omega) only [EV, S_sp_l1Cur_flows_2, hj, e1, r1]
      rfl)
    (fun v hv => by
      obtain ⟨a, c, p, rfl, k1, hc⟩ := hv
      exact ⟨_, by simp (disch := omega) only [EV, S_sp_l1Cur_flows_2, Nat.lt_irrefl], a, c, p, rfl, k1, hc.mono (by omega)⟩)
    (v := ((0 : Int), (l, (at_, (c, ([] : List Int)))))) ⟨at_, c, [], rfl, rfl, h.mono (by omega)⟩
  exact ⟨a', c', p, h1, h2⟩
theorem flows0_ok {B : Int} {l : List Int} {at_ : Int} {m : List (List Int)} (hm : m.length ≤ 7) (c : Int) (h : CK B l at_) (hB : B ≤ 600000) :
    ∃ a' c' d, L_sp_l1Cur_flows_0 m ((0 : Int), (l, (at_, (c, ([] : List (List Int)))))) = some (l, (a', (c', d))) ∧ (d.length = m.length ∧ ∀ r ∈ d, r.length = m.length) ∧ CK (B + 98) l a' := by
  obtain ⟨r, h1, a', c', p, rfl, h2⟩ := iter_cnt (f := fun v => (S_sp_l1Cur_flows_0 m v).ev) (n := m.length)
    (fun j v => ∃ a c d, v = ((j : Int), (l, (a, (c, d)))) ∧ (d.length = j ∧ ∀ r ∈ d, r.length = m.length) ∧ CK (B + 14 * j) l a)
    (fun r => ∃ a c d, r = (l, (a, (c, d))) ∧ (d.length = m.length ∧ ∀ r ∈ d, r.length = m.length) ∧ CK (B + 98) l a)
    (fun j v hj hv => by
      obtain ⟨a, c, d, rfl, ⟨k1, k2⟩, hc⟩ := hv
      obtain ⟨a1, c1, r, e1, hr, h1⟩ := flows2_ok hm ((j : Int), d) c hc (by omega)
      have r1 := room24 d (by omega)
      refine ⟨(((j + 1 : Nat) : Int), (l, (a1, (c1, d ++ [r])))), ?_, a1, c1, d ++ [r], rfl, ⟨by simp [k1], fun q hq => ?_⟩, h1.mono (by omega)⟩
      · simp (disch := omega) only [EV, S_sp_l1Cur_flows_0, hj, e1, r1, set_end]
        rfl
      · rcases List.mem_append.1 hq with h | h
        · exact k2 q h
        · rw [List.mem_singleton.1 h, hr])
    (fun v hv => by
      obtain ⟨a, c, d, rfl, k1, hc⟩ := hv
      exact ⟨_, by simp (disch := omega) only [EV, S_sp_l1Cur_flows_0, Nat.lt_irrefl], a, c, d, rfl, k1, hc.mono (by omega)⟩)
    (v := ((0 : Int), (l, (at_, (c, ([] : List (List Int))))))) ⟨at_, c, [], rfl, ⟨rfl, fun r hr => by cases hr⟩, h.mono (by omega)⟩
  exact ⟨a', c', p, h1, h2⟩
theorem flows_ok {B : Int} {l : List Int} {at_ : Int} {m : List (List Int)} (hm : m.length ≤ 7) (c : Int) (h : CK B l at_) (hB : B ≤ 500000) :
    ∃ d a' c', F_sp_l1Cur_flows m l at_ c = some (d, (l, (a', c'))) ∧ DrG d ∧ CK (B + 110) l a' := by
  obtain ⟨a1, c1, d, e1, ⟨k1, k2⟩, h1⟩ := flows0_ok hm c h (by omega)
  have hD : DrG d := ⟨by omega, fun r hr => by rw [k2 r hr]; omega⟩
  unfold F_sp_l1Cur_flows T_sp_l1Cur_flows
  rw [Tr.ev_c, e1, Option.bind_some, Tr.ev_t]
  simp only
  by_cases h0 : 0 < d.length
  · have q1 : decide ((0 : Int) < ((d.length : Nat) : Int)) = true := decide_eq_true (by omega)
    obtain ⟨y, a6, c6, e6, _, _, h6⟩ := pick_ok 30 c1 h1 (by omega) (by omega)
    rw [q1, cond_true, Tr.ev_c, e6, Option.bind_some, Tr.ev_t]
    dsimp only
    have i0 : inR (0 : Int) d.length = true := inR_int (by omega) (by omega)
    have z0 : Int.toNat 0 = 0 := rfl
    have z1 : Int.toNat 1 = 1 := rfl
    have r0 : (d.getD 0 []).length = m.length := k2 _ (getD_mem h0)
    have i1 : inR (0 : Int) m.length = true := inR_int (by omega) (by omega)
    have m0 : 0 < m.length := by omega
    cases kk : (y == (0 : Int)) with
    | true =>
      obtain ⟨w, a7, c7, e7, _, h7⟩ := among_ok [(-1 : Int), (99 : Int), (100 : Int)] c6 h6 (by omega) (by decide)
      rw [cond_true]
      refine ⟨_, a7, c7, ?_, hD.set 0 (r := (d.getD 0 []).set 0 w) (by rw [List.length_set, r0]; omega), h7.mono (by omega)⟩
      simp only [Tr.ev_g, Tr.ev_c, Tr.ev_l, cond_true, i0, i1, z0, h0, decide_true, e7, Option.bind_some, r0, m0]
    | false =>
      rw [cond_false, Tr.ev_t]
      cases k9 : (y == (1 : Int)) with
      | true =>
        have q2 : (0 : Int) ≤ 1 := by omega
        have q3 : (1 : Int) ≤ ((d.length : Nat) : Int) := by omega
        rw [cond_true]
        refine ⟨(d.take d.length).drop 1, a6, c6, ?_, ⟨by simp; omega, fun r hr => hD.row r (List.mem_of_mem_take (List.mem_of_mem_drop hr))⟩, h6.mono (by omega)⟩
        simp only [Tr.ev_g, Tr.ev_l, q2, q3, decide_true, Bool.and_self, cond_true, z1]
      | false =>
        rw [cond_false]
        exact ⟨_, a6, c6, rfl, hD, h6.mono (by omega)⟩
  · have q1 : decide ((0 : Int) < ((d.length : Nat) : Int)) = false := decide_eq_false (by omega)
    rw [q1, cond_false]
    exact ⟨_, _, _, rfl, hD, h1.mono (by omega)⟩
theorem hubs0_ok {m : List (List Int)} (hm : m.length ≤ 7) (kr : (List (Int)) × ((Int) × (Int))) : ∃ o, L_sp_l1Cur_hubs_0 (m, kr) ((0 : Int), ([] : List Int)) = some o ∧ o.length = m.length :=
  iter_cnt (f := fun v => (S_sp_l1Cur_hubs_0 (m, kr) v).ev) (n := m.length) (fun k v => ∃ o : List Int, v = ((k : Int), o) ∧ o.length = k) (fun r => r.length = m.length)
    (fun k v hk hv => by
      obtain ⟨o, rfl, ho⟩ := hv
      have r1 := room8 o (k : Int) (by omega)
      refine ⟨(((k + 1 : Nat) : Int), o ++ [(k : Int)]), ?_, _, rfl, by simp [ho]⟩
      simp (disch := omega) only [EV, S_sp_l1Cur_hubs_0, hk, r1]
      rfl)
    (fun v hv => by
      obtain ⟨o, rfl, ho⟩ := hv
      exact ⟨o, by simp (disch := omega) only [EV, S_sp_l1Cur_hubs_0, Nat.lt_irrefl], ho⟩)
    (v := ((0 : Int), ([] : List Int))) ⟨[], rfl, rfl⟩
theorem hubs4_ok {o : List Int} (hm : o.length ≤ 7) (i x : Int) (l : List Int) (a c : Int) : ∃ b, L_sp_l1Cur_hubs_4 (i, (x, (l, (a, (c, o))))) (true, (0 : Int)) = some b := by
  obtain ⟨b, h, _⟩ := iter_cnt (f := fun v => (S_sp_l1Cur_hubs_4 (i, (x, (l, (a, (c, o))))) v).ev) (n := o.length) (fun k v => ∃ b : Bool, v = (b, (k : Int))) (fun _ => True)
    (fun k v hk hv => by
      obtain ⟨b, rfl⟩ := hv
      cases b with
      | true =>
        cases hq : ((k : Int) == i) with
        | true => exact ⟨(true, ((k + 1 : Nat) : Int)), by simp (disch := omega) only [EV, S_sp_l1Cur_hubs_4, hk, hq]; rfl, true, rfl⟩
        | false => exact ⟨((o.getD k 0 != i), ((k + 1 : Nat) : Int)), by simp (disch := omega) only [EV, S_sp_l1Cur_hubs_4, hk, hq]; rfl, _, rfl⟩
      | false => exact ⟨(false, ((k + 1 : Nat) : Int)), by simp (disch := omega) only [EV, S_sp_l1Cur_hubs_4, hk]; rfl, false, rfl⟩)
    (fun v hv => by
      obtain ⟨b, rfl⟩ := hv
      exact ⟨b, by simp (disch := omega) only [EV, S_sp_l1Cur_hubs_4, Nat.lt_irrefl], trivial⟩)
    (v := (true, (0 : Int))) ⟨true, rfl⟩
  exact ⟨b, h⟩
theorem hubs2_ok {B : Int} {l : List Int} {at_ : Int} {o : List Int} (hm : o.length ≤ 7) (c : Int) (h : CK B l at_) (hB : B ≤ 700000) :
    ∃ a' c' o', L_sp_l1Cur_hubs_2 () ((0 : Int), (l, (at_, (c, o)))) = some (l, (a', (c', o'))) ∧ o'.length = o.length ∧ CK (B + 14) l a' := by
  obtain ⟨r, h1, a', c', p, rfl, h2⟩ := iter_cnt (f := fun v => (S_sp_l1Cur_hubs_2 () v).ev) (n := o.length)
    (fun j v => ∃ a c p, v = ((j : Int), (l, (a, (c, p)))) ∧ p.length = o.length ∧ CK (B + 2 * j) l a)
    (fun r => ∃ a c p, r = (l, (a, (c, p))) ∧ p.length = o.length ∧ CK (B + 14) l a)
    (fun j v hj hv => by
      obtain ⟨a, c, p, rfl, k1, hc⟩ := hv
      obtain ⟨x, a1, c1, e1, x0, x1, h1⟩ := pick_ok ((p.length : Nat) : Int) c hc (by omega) (by omega)
      obtain ⟨y, rfl⟩ : ∃ y : Nat, x = (y : Int) := ⟨x.toNat, by omega⟩
      have hy : y < p.length := by omega
      have hj' : j < p.length := by omega
      obtain ⟨b, e2⟩ := hubs4_ok (o := p) (by omega) (j : Int) (y : Int) l a1 c1
      cases b with
      | true =>
        cases hq : (p.getD y 0 == (y : Int)) with
        | true =>
          refine ⟨(((j + 1 : Nat) : Int), (l, (a1, (c1, p.set j (y : Int))))), ?_, a1, c1, _, rfl, by simp [k1], h1.mono (by omega)⟩
          simp (disch := omega) only [EV, S_sp_l1Cur_hubs_2, hj', e1, e2, hy, hq]
          rfl
        | false =>
          refine ⟨(((j + 1 : Nat) : Int), (l, (a1, (c1, p)))), ?_, a1, c1, _, rfl, k1, h1.mono (by omega)⟩
          simp (disch := omega) only [EV, S_sp_l1Cur_hubs_2, hj', e1, e2, hy, hq]
          rfl
      | false =>
        refine ⟨(((j + 1 : Nat) : Int), (l, (a1, (c1, p)))), ?_, a1, c1, _, rfl, k1, h1.mono (by omega)⟩
        simp (disch := omega) only [EV, S_sp_l1Cur_hubs_2, hj', e1, e2]
        rfl)
    (fun v hv => by
      obtain ⟨a, c, p, rfl, k1, hc⟩ := hv
      have hq : ¬ o.length < p.length := by omega
      exact ⟨_, by simp (disch := omega) only [EV, S_sp_l1Cur_hubs_2, hq], a, c, p, rfl, k1, hc.mono (by omega)⟩)
    (v := ((0 : Int), (l, (at_, (c, o))))) ⟨at_, c, o, rfl, rfl, h.mono (by omega)⟩
  exact ⟨a', c', p, h1, h2⟩
theorem hubs_ok {B : Int} {l : List Int} {at_ : Int} {m : List (List Int)} (hm : m.length ≤ 7) (c : Int) (h : CK B l at_) (hB : B ≤ 500000) :
    ∃ o a' c', F_sp_l1Cur_hubs m l at_ c = some (o, (l, (a', c'))) ∧ o.length = m.length ∧ CK (B + 30) l a' := by
  obtain ⟨o1, e1, k1⟩ := hubs0_ok hm (l, (at_, c))
  obtain ⟨a2, c2, o2, e2, k2, h2⟩ := hubs2_ok (o := o1) (by omega) c h (by omega)
  obtain ⟨b, a3, c3, e3, h3⟩ := one_ok 16 c2 h2 (by omega) (by omega)
  unfold F_sp_l1Cur_hubs T_sp_l1Cur_hubs
  rw [Tr.ev_c, e1, Option.bind_some, Tr.ev_c, e2, Option.bind_some, Tr.ev_c]
  simp only
  rw [e3, Option.bind_some]
  cases b with
  | true =>
    by_cases h0 : 0 < o2.length
    · have q1 : (0 : Int) < ((o2.length : Nat) : Int) := by omega
      obtain ⟨x, a4, c4, e4, x0, x1, h4⟩ := pick_ok ((o2.length : Nat) : Int) c3 h3 (by omega) (by omega)
      obtain ⟨y, rfl⟩ : ∃ y : Nat, x = (y : Int) := ⟨x.toNat, by omega⟩
      have hy : y < o2.length := by omega
      obtain ⟨z, a5, c5, e5, _, _, h5⟩ := pick_ok 7 c4 h4 (by omega) (by omega)
      refine ⟨o2.set y (z - 1), a5, c5, ?_, by simp; omega, h5.mono (by omega)⟩
      simp (disch := omega) only [EV, q1, e4, e5, hy]
    · have q1 : ¬ (0 : Int) < ((o2.length : Nat) : Int) := by omega
      refine ⟨o2, a3, c3, ?_, by omega, h3.mono (by omega)⟩
      simp (disch := omega) only [EV, q1]
  | false => exact ⟨_, _, _, rfl, by omega, h3.mono (by omega)⟩
theorem discount_ok {B : Int} {l : List Int} {at_ : Int} (c : Int) (h : CK B l at_) (hB : B ≤ 500000) : ∃ x a' c', F_sp_l1Cur_discount l at_ c = some (x, (l, (a', c'))) ∧ CK (B + 2) l a' := by
  obtain ⟨x, a1, c1, e1, _, h1⟩ := among_ok [(5 : Int), (7 : Int), (0 : Int), (10 : Int), (3 : Int), (8 : Int), (11 : Int), (-1 : Int)] c h (by omega) (by decide)
  unfold F_sp_l1Cur_discount T_sp_l1Cur_discount
  simp (disch := omega) only [EV, e1]
  exact ⟨_, _, _, rfl, h1⟩
end Go.Proofs.Ytlemejhffpkbkaa
