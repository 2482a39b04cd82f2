/-
 Plain laws: the drawing of grounds, flows and hubs comes to an end.
-/
import Derived.Test.YtnagpmhaddfgmaaGreatPC
import Derived.Test.YtnagpmhaddfgmaaGreatPM
namespace Go.Proofs.YtnagpmhaddfgmaaGreat
theorem whn {L : Type} {b : Bool} {x : Tr L} (h : b = true) : (Tr.g b x).ev = x.ev := by rw [Tr.ev_g, h, cond_true]
structure Sq (n : Nat) (d : List (List Int)) : Prop where
 len : d.length = n
 row : ∀ r ∈ d, r.length = n
theorem Sq.at {n : Nat} {d : List (List Int)} (h : Sq n d) {i : Nat} (hi : i < n) : (d.getD i []).length = n := h.row _ (getD_mem (by rw [h.len]; exact hi))
theorem Sq.set {n : Nat} {d : List (List Int)} (h : Sq n d) {i : Nat} (hi : i < n) (a : Nat) (x : Int) : Sq n (d.set i ((d.getD i []).set a x)) := by
 refine ⟨by rw [List.length_set, h.len], fun r hr => ?_⟩
 rcases List.mem_or_eq_of_mem_set hr with h1 | rfl
 ·exact h.row r h1
 ·rw [List.length_set, h.at hi]
theorem wzf {V R : Type} {f : V → Option (V ⊕ R)} {n : Nat} (P : Nat → V → Prop) (Q : R → Prop) (hs : ∀ k v, k < n → P k v → (∃ v', f v = some (.inl v') ∧ P (k + 1) v') ∨ ∃ r, f v = some (.inr r) ∧ Q r) (he : ∀ v, P n v → ∃ r, f v = some (.inr r) ∧ Q r) {v : V} (h0 : P 0 v) : ∃ r, iter f v = some r ∧ Q r := by
 have key : ∀ m k v, k + m = n → P k v → ∃ r, iter f v = some r ∧ Q r := by
  intro m
  induction m with
  | zero =>
   intro k v hk hp
   have : k = n := by omega
   subst this
   obtain ⟨r, h1, h2⟩ := he v hp
   exact ⟨r, by rw [wcn, h1], h2⟩
  | succ m ih =>
   intro k v hk hp
   rcases hs k v (by omega) hp with ⟨v', h1, h2⟩ | ⟨r, h1, h2⟩
   ·obtain ⟨r, h3, h4⟩ := ih (k + 1) v' (by omega) h2
    exact ⟨r, by rw [wcn, h1]; exact h3, h4⟩
   ·exact ⟨r, by rw [wcn, h1], h2⟩
 exact key n 0 v (by omega) h0
theorem wagr {B : Int} {l : List Int} {at_ : Int} {n : Nat} (hn : n ≤ 7) (line : Bool) {i : Nat} (hi : i < n) {pl_ : List Int} (hp : pl_.length = n) (c : Int) {d : List (List Int)} (hd : Sq n d) (h : CK B l at_) (hB : B ≤ 800000) :
  ∃ a' c' d', wajo ((n : Int), (line, ((i : Int), pl_))) ((0 : Int), (l, (at_, (c, d)))) = some (l, (a', (c', d'))) ∧ Sq n d' ∧ CK (B + 14) l a' := by
 obtain ⟨r, h1, a', c', d', rfl, h2⟩ := wcz (f := fun v => (wng ((n : Int), (line, ((i : Int), pl_))) v).ev) (n := i)
  (fun j v => ∃ a c d, v = ((j : Int), (l, (a, (c, d)))) ∧ Sq n d ∧ CK (B + 2 * j) l a)
  (fun r => ∃ a c d, r = (l, (a, (c, d))) ∧ Sq n d ∧ CK (B + 14) l a)
  (fun j v hj hv => by
   obtain ⟨a, c, d, rfl, hd, hc⟩ := hv
   obtain ⟨x, a1, c1, e1, _, _, h1⟩ := wfp 12 c hc (by omega) (by omega)
   have hjn : j < n := by omega
   have i1 : inR (i : Int) n = true := wcu (by omega) (by omega)
   have j1 : inR (j : Int) n = true := wcu (by omega) (by omega)
   have jl : decide ((j : Int) < (i : Int)) = true := decide_eq_true (by omega)
   have l0 := hd.len
   have l1 := hd.at hi
   have s1 := fun y => (hd.set hi j y).len
   have s2 := fun y => (hd.set hi j y).at hjn
   have ej : IntKind.wrap .i64 ((j : Int) + 1) = ((j + 1 : Nat) : Int) := by rw [wrap64 (by omega) (by omega)]; omega
   have fin : ∀ y : Int, (Tr.g (L := ((Int) × ((List (Int)) × ((Int) × ((Int) × (List (List (Int))))))) ⊕ ((List (Int)) × ((Int) × ((Int) × (List (List (Int))))))) (inR (i : Int) d.length) <|
     .g (decide (i < d.length)) <| .g (inR (j : Int) (d.getD i []).length) <| .g (decide (j < (d.getD i []).length)) <| .g (inR (j : Int) (d.set i ((d.getD i []).set j y)).length) <| .g (decide (j < (d.set i ((d.getD i []).set j y)).length)) <|
     .g (inR (i : Int) ((d.set i ((d.getD i []).set j y)).getD j []).length) <| .g (decide (i < ((d.set i ((d.getD i []).set j y)).getD j []).length)) <|
     .l (.inl (IntKind.wrap .i64 ((j : Int) + 1), (l, (a1, (c1, (d.set i ((d.getD i []).set j y)).set j (((d.set i ((d.getD i []).set j y)).getD j []).set i y))))))).ev =
     some (.inl (((j + 1 : Nat) : Int), (l, (a1, (c1, (d.set i ((d.getD i []).set j y)).set j (((d.set i ((d.getD i []).set j y)).getD j []).set i y)))))) := fun y => by
    refine (whn (by rw [l0]; exact i1)).trans ?_
    refine (whn (decide_eq_true (by rw [l0]; exact hi))).trans ?_
    refine (whn (by rw [l1]; exact j1)).trans ?_
    refine (whn (decide_eq_true (by rw [l1]; exact hjn))).trans ?_
    refine (whn (by rw [s1 y]; exact j1)).trans ?_
    refine (whn (decide_eq_true (by rw [s1 y]; exact hjn))).trans ?_
    refine (whn (by rw [s2 y]; exact i1)).trans ?_
    refine (whn (decide_eq_true (by rw [s2 y]; exact hi))).trans ?_
    rw [Tr.ev_l, ej]
   unfold wng
   have p1 : inR (i : Int) pl_.length = true := by rw [hp]; exact i1
   have p2 : decide (i < pl_.length) = true := decide_eq_true (by rw [hp]; exact hi)
   have p3 : inR (j : Int) pl_.length = true := by rw [hp]; exact j1
   have p4 : decide (j < pl_.length) = true := decide_eq_true (by rw [hp]; exact hjn)
   cases line with
   | true =>
    refine ⟨_, ?_, a1, c1, _, rfl, ((hd.set hi j (max (IntKind.wrap .i64 (pl_.getD i 0 - pl_.getD j 0)) (IntKind.wrap .i64 (pl_.getD j 0 - pl_.getD i 0)))).set hjn i (max (IntKind.wrap .i64 (pl_.getD i 0 - pl_.getD j 0)) (IntKind.wrap .i64 (pl_.getD j 0 - pl_.getD i 0)))), h1.mono (by omega)⟩
    dsimp only
    rw [Tr.ev_t, jl, cond_true, Tr.ev_c, e1, Option.bind_some, Tr.ev_t, cond_true]
    refine (whn p1).trans ?_
    refine (whn p2).trans ?_
    refine (whn p3).trans ?_
    refine (whn p4).trans ?_
    refine (whn p3).trans ?_
    refine (whn p4).trans ?_
    refine (whn p1).trans ?_
    refine (whn p2).trans ?_
    rw [Tr.ev_c, waow, Option.bind_some]
    exact fin (max (IntKind.wrap .i64 (pl_.getD i 0 - pl_.getD j 0)) (IntKind.wrap .i64 (pl_.getD j 0 - pl_.getD i 0)))
   | false =>
    refine ⟨_, ?_, a1, c1, _, rfl, ((hd.set hi j x).set hjn i x), h1.mono (by omega)⟩
    dsimp only
    rw [Tr.ev_t, jl, cond_true, Tr.ev_c, e1, Option.bind_some, Tr.ev_t, cond_false]
    exact fin x)
  (fun v hv => by
   obtain ⟨a, c, d, rfl, hd, hc⟩ := hv
   have hq : decide ((i : Int) < (i : Int)) = false := decide_eq_false (Int.lt_irrefl _)
   refine ⟨(l, (a, (c, d))), ?_, a, c, d, rfl, hd, hc.mono (by omega)⟩
   unfold wng
   dsimp only
   rw [Tr.ev_t, hq, cond_false, Tr.ev_l])
  (v := ((0 : Int), (l, (at_, (c, d))))) ⟨at_, c, d, rfl, hd, h.mono (by omega)⟩
 exact ⟨a', c', d', h1, h2⟩
theorem wags {B : Int} {l : List Int} {at_ : Int} {n : Nat} (hn : n ≤ 7) (line : Bool) {pl_ : List Int} (hp : pl_.length = n) (c : Int) {d : List (List Int)} (hd : Sq n d) (h : CK B l at_) (hB : B ≤ 700000) :
  ∃ a' c' d', wajp ((n : Int), (line, pl_)) ((0 : Int), (l, (at_, (c, d)))) = some (l, (a', (c', d'))) ∧ Sq n d' ∧ CK (B + 98) l a' := by
 obtain ⟨r, h1, a', c', d', rfl, h2⟩ := wcz (f := fun v => (wnh ((n : Int), (line, pl_)) v).ev) (n := n)
  (fun j v => ∃ a c d, v = ((j : Int), (l, (a, (c, d)))) ∧ Sq n d ∧ CK (B + 14 * j) l a)
  (fun r => ∃ a c d, r = (l, (a, (c, d))) ∧ Sq n d ∧ CK (B + 98) l a)
  (fun j v hj hv => by
   obtain ⟨a, c, d, rfl, hd, hc⟩ := hv
   obtain ⟨a1, c1, d1, e1, hd1, h1⟩ := wagr hn line hj hp c hd hc (by omega)
   have jl : decide ((j : Int) < (n : Int)) = true := decide_eq_true (by omega)
   have ej : IntKind.wrap .i64 ((j : Int) + 1) = ((j + 1 : Nat) : Int) := by rw [wrap64 (by omega) (by omega)]; omega
   refine ⟨_, ?_, a1, c1, d1, rfl, hd1, h1.mono (by omega)⟩
   simp only [wnh, Tr.ev_t, Tr.ev_c, Tr.ev_l, jl, cond_true, e1, Option.bind_some, ej])
  (fun v hv => by
   obtain ⟨a, c, d, rfl, hd, hc⟩ := hv
   exact ⟨_, by simp (disch := omega) only [EV, wnh, Int.lt_irrefl], a, c, d, rfl, hd, hc.mono (by omega)⟩)
  (v := ((0 : Int), (l, (at_, (c, d))))) ⟨at_, c, d, rfl, hd, h.mono (by omega)⟩
 exact ⟨a', c', d', h1, h2⟩
theorem wzg {n : Nat} (hn : n ≤ 7) (line : Bool) (rd : Int) {i j : Nat} (hi : i < n) (hj : j < n) (rest : (List (Int)) × ((Int) × (Int))) {d : List (List Int)} (hd : Sq n d) :
  ∃ d', waat ((n : Int), (line, (rd, ((i : Int), ((j : Int), rest))))) ((0 : Int), d) = some d' ∧ Sq n d' :=
 wcz (f := fun v => (wjh ((n : Int), (line, (rd, ((i : Int), ((j : Int), rest))))) v).ev) (n := n) (fun k v => ∃ d, v = ((k : Int), d) ∧ Sq n d) (fun r => Sq n r)
  (fun k v hk hv => by
   obtain ⟨d, rfl, hd⟩ := hv
   have i1 : inR (i : Int) n = true := wcu (by omega) (by omega)
   have j1 : inR (j : Int) n = true := wcu (by omega) (by omega)
   have k1 : inR (k : Int) n = true := wcu (by omega) (by omega)
   have kl : decide ((k : Int) < (n : Int)) = true := decide_eq_true (by omega)
   have l0 := hd.len
   have l1 := hd.at hi
   have l2 := hd.at hk
   have ek : IntKind.wrap .i64 ((k : Int) + 1) = ((k + 1 : Nat) : Int) := by rw [wrap64 (by omega) (by omega)]; omega
   refine ⟨_, ?_, _, rfl, hd.set hi j (min ((d.getD i []).getD j 0) (IntKind.wrap .i64 ((d.getD i []).getD k 0 + (d.getD k []).getD j 0)))⟩
   unfold wjh
   have q1 : inR (i : Int) d.length = true := by rw [l0]; exact i1
   have q2 : decide (i < d.length) = true := decide_eq_true (by rw [l0]; exact hi)
   have q3 : inR (j : Int) (d.getD i []).length = true := by rw [l1]; exact j1
   have q4 : decide (j < (d.getD i []).length) = true := decide_eq_true (by rw [l1]; exact hj)
   have q5 : inR (k : Int) (d.getD i []).length = true := by rw [l1]; exact k1
   have q6 : decide (k < (d.getD i []).length) = true := decide_eq_true (by rw [l1]; exact hk)
   have q7 : inR (k : Int) d.length = true := by rw [l0]; exact k1
   have q8 : decide (k < d.length) = true := decide_eq_true (by rw [l0]; exact hk)
   have q9 : inR (j : Int) (d.getD k []).length = true := by rw [l2]; exact j1
   have q10 : decide (j < (d.getD k []).length) = true := decide_eq_true (by rw [l2]; exact hj)
   dsimp only
   rw [Tr.ev_t, kl, cond_true]
   refine (whn q1).trans ?_
   refine (whn q2).trans ?_
   refine (whn q1).trans ?_
   refine (whn q2).trans ?_
   refine (whn q3).trans ?_
   refine (whn q4).trans ?_
   refine (whn q1).trans ?_
   refine (whn q2).trans ?_
   refine (whn q5).trans ?_
   refine (whn q6).trans ?_
   refine (whn q7).trans ?_
   refine (whn q8).trans ?_
   refine (whn q9).trans ?_
   refine (whn q10).trans ?_
   rw [Tr.ev_c, wgz, Option.bind_some]
   refine (whn q3).trans ?_
   refine (whn q4).trans ?_
   rw [Tr.ev_l, ek]
   rfl)
  (fun v hv => by
   obtain ⟨d, rfl, hd⟩ := hv
   have hq : decide ((n : Int) < (n : Int)) = false := decide_eq_false (Int.lt_irrefl _)
   refine ⟨d, ?_, hd⟩
   unfold wjh
   dsimp only
   rw [Tr.ev_t, hq, cond_false, Tr.ev_l])
  (v := ((0 : Int), d)) ⟨d, rfl, hd⟩
theorem wzh {n : Nat} (hn : n ≤ 7) (line : Bool) (rd : Int) {i : Nat} (hi : i < n) (rest : (List (Int)) × ((Int) × (Int))) {d : List (List Int)} (hd : Sq n d) :
  ∃ d', waau ((n : Int), (line, (rd, ((i : Int), rest)))) ((0 : Int), d) = some d' ∧ Sq n d' :=
 wcz (f := fun v => (wji ((n : Int), (line, (rd, ((i : Int), rest)))) v).ev) (n := n) (fun k v => ∃ d, v = ((k : Int), d) ∧ Sq n d) (fun r => Sq n r)
  (fun k v hk hv => by
   obtain ⟨d, rfl, hd⟩ := hv
   obtain ⟨d1, e1, hd1⟩ := wzg hn line rd hi hk rest hd
   have kl : decide ((k : Int) < (n : Int)) = true := decide_eq_true (by omega)
   have ek : IntKind.wrap .i64 ((k : Int) + 1) = ((k + 1 : Nat) : Int) := by rw [wrap64 (by omega) (by omega)]; omega
   refine ⟨_, ?_, _, rfl, hd1⟩
   simp only [wji, Tr.ev_t, Tr.ev_c, Tr.ev_l, kl, cond_true, e1, Option.bind_some, ek])
  (fun v hv => by
   obtain ⟨d, rfl, hd⟩ := hv
   exact ⟨d, by simp (disch := omega) only [EV, wji, Int.lt_irrefl], hd⟩)
  (v := ((0 : Int), d)) ⟨d, rfl, hd⟩
theorem wagt {n : Nat} (hn : n ≤ 7) (line : Bool) (rd : Int) (rest : (List (Int)) × ((Int) × (Int))) {d : List (List Int)} (hd : Sq n d) :
  ∃ d', wajq ((n : Int), (line, (rd, rest))) ((0 : Int), d) = some d' ∧ Sq n d' :=
 wcz (f := fun v => (wni ((n : Int), (line, (rd, rest))) v).ev) (n := n) (fun k v => ∃ d, v = ((k : Int), d) ∧ Sq n d) (fun r => Sq n r)
  (fun k v hk hv => by
   obtain ⟨d, rfl, hd⟩ := hv
   obtain ⟨d1, e1, hd1⟩ := wzh hn line rd hk rest hd
   have kl : decide ((k : Int) < (n : Int)) = true := decide_eq_true (by omega)
   have ek : IntKind.wrap .i64 ((k : Int) + 1) = ((k + 1 : Nat) : Int) := by rw [wrap64 (by omega) (by omega)]; omega
   refine ⟨_, ?_, _, rfl, hd1⟩
   simp only [wni, Tr.ev_t, Tr.ev_c, Tr.ev_l, kl, cond_true, e1, Option.bind_some, ek])
  (fun v hv => by
   obtain ⟨d, rfl, hd⟩ := hv
   exact ⟨d, by simp (disch := omega) only [EV, wni, Int.lt_irrefl], hd⟩)
  (v := ((0 : Int), d)) ⟨d, rfl, hd⟩
theorem wagu {B : Int} {l : List Int} {at_ : Int} {n : Nat} (hn : n ≤ 7) (line : Bool) (c : Int) {d : List (List Int)} (hd : Sq n d) (h : CK B l at_) (hB : B ≤ 700000) :
  ∃ a' c' d', wajr ((n : Int), line) ((0 : Int), (l, (at_, (c, d)))) = some (l, (a', (c', d'))) ∧ Sq n d' ∧ CK (B + 16) l a' := by
 obtain ⟨r, h1, a', c', d', rfl, h2⟩ := wzf (f := fun v => (whv ((n : Int), line) v).ev) (n := n)
  (fun j v => ∃ a c d, v = ((j : Int), (l, (a, (c, d)))) ∧ Sq n d ∧ CK (B + 2 * j) l a)
  (fun r => ∃ a c d, r = (l, (a, (c, d))) ∧ Sq n d ∧ CK (B + 16) l a)
  (fun j v hj hv => by
   obtain ⟨a, c, d, rfl, hd, hc⟩ := hv
   have jl : decide ((j : Int) < (n : Int)) = true := decide_eq_true (by omega)
   have ej : IntKind.wrap .i64 ((j : Int) + 1) = ((j + 1 : Nat) : Int) := by rw [wrap64 (by omega) (by omega)]; omega
   cases line with
   | true => exact .inr ⟨_, by simp only [whv, Tr.ev_t, Tr.ev_l, jl, cond_true, cond_false, Bool.not_true], a, c, d, rfl, hd, hc.mono (by omega)⟩
   | false =>
    obtain ⟨b, a1, c1, e1, h1⟩ := wapn 2 c hc (by omega) (by omega)
    cases b with
    | true =>
     obtain ⟨d1, e2, hd1⟩ := wagt hn false (j : Int) (l, (a1, c1)) hd
     refine .inl ⟨_, ?_, a1, c1, d1, rfl, hd1, h1.mono (by omega)⟩
     simp only [whv, Tr.ev_t, Tr.ev_c, Tr.ev_l, jl, cond_true, Bool.not_false, e1, e2, Option.bind_some, ej]
    | false =>
     refine .inr ⟨_, ?_, a1, c1, d, rfl, hd, h1.mono (by omega)⟩
     simp only [whv, Tr.ev_t, Tr.ev_c, Tr.ev_l, jl, cond_true, cond_false, Bool.not_false, e1, Option.bind_some])
  (fun v hv => by
   obtain ⟨a, c, d, rfl, hd, hc⟩ := hv
   exact ⟨_, by simp (disch := omega) only [EV, whv, Int.lt_irrefl], a, c, d, rfl, hd, hc.mono (by omega)⟩)
  (v := ((0 : Int), (l, (at_, (c, d))))) ⟨at_, c, d, rfl, hd, h.mono (by omega)⟩
 exact ⟨a', c', d', h1, h2⟩
theorem wagv {B : Int} {l : List Int} {at_ : Int} {n : Nat} (hn : n ≤ 7) (line : Bool) (c : Int) (h : CK B l at_) (hB : B ≤ 700000) :
  ∃ a' c' p d', wajn ((n : Int), line) ((0 : Int), (l, (at_, (c, (([] : List Int), ([] : List (List Int))))))) = some (l, (a', (c', (p, d')))) ∧ (p.length = n ∧ Sq n d') ∧ CK (B + 14) l a' := by
 obtain ⟨r, h1, a', c', p, d', rfl, h2⟩ := wcz (f := fun v => (wnf ((n : Int), line) v).ev) (n := n)
  (fun j v => ∃ a c p d, v = ((j : Int), (l, (a, (c, (p, d))))) ∧ (p.length = j ∧ d.length = j ∧ ∀ r ∈ d, r.length = n) ∧ CK (B + 2 * j) l a)
  (fun r => ∃ a c p d, r = (l, (a, (c, (p, d)))) ∧ (p.length = n ∧ Sq n d) ∧ CK (B + 14) l a)
  (fun j v hj hv => by
   obtain ⟨a, c, p, d, rfl, ⟨k1, k2, k3⟩, hc⟩ := hv
   obtain ⟨x, a1, c1, e1, _, _, h1⟩ := wfp 30 c hc (by omega) (by omega)
   have r1 := waxz p x (by omega)
   have r2 := wbtr d (by omega)
   have jl : decide ((j : Int) < (n : Int)) = true := decide_eq_true (by omega)
   have ej : IntKind.wrap .i64 ((j : Int) + 1) = ((j + 1 : Nat) : Int) := by rw [wrap64 (by omega) (by omega)]; omega
   have g1 : (0 : Int) ≤ (n : Int) := by omega
   have g2 : ((8 : Nat) : Int) * (n : Int) ≤ 281474976710656 := by omega
   refine ⟨_, ?_, a1, c1, p ++ [x], d ++ [List.replicate n 0], rfl, ⟨by simp [k1], by simp [k2], fun r hr => ?_⟩, h1.mono (by omega)⟩
   ·simp only [wnf, Tr.ev_t, Tr.ev_g, Tr.ev_c, Tr.ev_l, jl, cond_true, e1, Option.bind_some, r1, r2, g1, g2, Int.le_refl, decide_true, Bool.and_self, Int.toNat_natCast, wapo, ej]
   ·rcases List.mem_append.1 hr with h | h
    ·exact k3 r h
    ·rw [List.mem_singleton.1 h, List.length_replicate])
  (fun v hv => by
   obtain ⟨a, c, p, d, rfl, ⟨k1, k2, k3⟩, hc⟩ := hv
   exact ⟨_, by simp (disch := omega) only [EV, wnf, Int.lt_irrefl], a, c, p, d, rfl, ⟨k1, k2, k3⟩, hc.mono (by omega)⟩)
  (v := ((0 : Int), (l, (at_, (c, (([] : List Int), ([] : List (List Int)))))))) ⟨at_, c, [], [], rfl, ⟨rfl, rfl, fun r hr => by cases hr⟩, h.mono (by omega)⟩
 exact ⟨a', c', p, d', h1, h2⟩
structure DrG (d : List (List Int)) : Prop where
 len : d.length ≤ 7
 row : ∀ r ∈ d, r.length ≤ 8
theorem DrG.low {d : List (List Int)} (h : DrG d) : wla d := ⟨by have := h.len; omega, fun r hr => by have := h.row r hr; unfold wew; omega⟩
theorem Sq.drg {n : Nat} (hn : n ≤ 7) {d : List (List Int)} (h : Sq n d) : DrG d := ⟨by rw [h.len]; exact hn, fun r hr => by rw [h.row r hr]; omega⟩
theorem DrG.set {d : List (List Int)} (h : DrG d) (i : Nat) {r : List Int} (hr : r.length ≤ 8) : DrG (d.set i r) := by
 refine ⟨by rw [List.length_set]; exact h.len, fun q hq => ?_⟩
 rcases List.mem_or_eq_of_mem_set hq with h1 | rfl
 ·exact h.row q h1
 ·exact hr
theorem woq {B : Int} {l : List Int} {at_ : Int} {most : Int} (hm : 0 ≤ most) (c : Int) (h : CK B l at_) (hB : B ≤ 500000) :
  ∃ d a' c', wafl most l at_ c = some (d, (l, (a', c'))) ∧ DrG d ∧ CK (B + 200) l a' := by
 obtain ⟨x, a1, c1, e1, hx, h1⟩ := wjo [(4 : Int), (5 : Int), (3 : Int), (6 : Int), (7 : Int), (2 : Int), (1 : Int), (0 : Int)] c h (by omega) (by decide)
 have hx7 : 0 ≤ x ∧ x ≤ 7 := by
  simp only [List.mem_cons, List.not_mem_nil, or_false] at hx
  omega
 obtain ⟨n, en, hn⟩ : ∃ n : Nat, min x most = (n : Int) ∧ n ≤ 7 := ⟨(min x most).toNat, by omega, by omega⟩
 obtain ⟨b, a2, c2, e2, h2⟩ := wapn 2 c1 h1 (by omega) (by omega)
 obtain ⟨a3, c3, p, d3, e3, ⟨hp, hd3⟩, h3⟩ := wagv hn b c2 h2 (by omega)
 obtain ⟨a4, c4, d4, e4, hd4, h4⟩ := wags hn b hp c3 hd3 h3 (by omega)
 obtain ⟨a5, c5, d5, e5, hd5, h5⟩ := wagu hn b c4 hd4 h4 (by omega)
 have hD := hd5.drg hn
 unfold wafl wbcf
 rw [Tr.ev_c, e1, Option.bind_some, Tr.ev_c, wgz, en, Option.bind_some, Tr.ev_c]
 simp only
 rw [e2, Option.bind_some, Tr.ev_c]
 simp only
 rw [e3, Option.bind_some, Tr.ev_c]
 simp only
 rw [e4, Option.bind_some, Tr.ev_c]
 simp only
 rw [e5, Option.bind_some, Tr.ev_t]
 by_cases h1n : 1 < n
 ·have q1 : decide ((1 : Int) < (n : Int)) = true := decide_eq_true (by omega)
  obtain ⟨y, a6, c6, e6, _, _, h6⟩ := wfp 40 c5 h5 (by omega) (by omega)
  rw [q1, cond_true, Tr.ev_c]
  simp only
  rw [e6, Option.bind_some, Tr.ev_t]
  dsimp only
  have l0 := hd5.len
  have i0 : inR (0 : Int) n = true := wcu (by omega) (by omega)
  have i1 : inR (1 : Int) n = true := wcu (by omega) (by omega)
  have z0 : Int.toNat 0 = 0 := rfl
  have z1 : Int.toNat 1 = 1 := rfl
  have m0 : 0 < n := by omega
  have r0 := hd5.at m0
  have r1 := hd5.at h1n
  cases k0 : (y == (0 : Int)) with
  | true =>
   obtain ⟨w, a7, c7, e7, _, h7⟩ := wjo [(-1 : Int), (99 : Int), (100 : Int)] c6 h6 (by omega) (by decide)
   rw [cond_true]
   refine ⟨_, a7, c7, ?_, hD.set 0 (r := (d5.getD 0 []).set 1 w) (by rw [List.length_set, r0]; omega), h7.mono (by omega)⟩
   simp only [Tr.ev_g, Tr.ev_c, Tr.ev_l, cond_true, l0, i0, i1, z0, z1, m0, decide_true, e7, Option.bind_some, r0, h1n]
  | false =>
   rw [cond_false, Tr.ev_t]
   cases k1 : (y == (1 : Int)) with
   | true =>
    have en1 : IntKind.wrap .i64 ((n : Int) - 1) = ((n - 1 : Nat) : Int) := by rw [wrap64 (by omega) (by omega)]; omega
    have in1 : inR ((n - 1 : Nat) : Int) n = true := wcu (by omega) (by omega)
    have mn : n - 1 < n := by omega
    have rn := hd5.at mn
    have q2 : (n + List.length [(0 : Int)]) * 8 ≤ 140737488355328 := by simp; omega
    rw [cond_true]
    refine ⟨_, a6, c6, ?_, hD.set (n - 1) (r := d5.getD (n - 1) [] ++ [0]) (by rw [List.length_append, rn]; simp; omega), h6.mono (by omega)⟩
    simp only [Tr.ev_g, Tr.ev_l, cond_true, l0, en1, in1, mn, Int.toNat_natCast, decide_true, rn, q2, Bool.and_self]
   | false =>
    rw [cond_false, Tr.ev_t]
    cases k2 : (y == (2 : Int)) with
    | true =>
     rw [cond_true]
     refine ⟨_, a6, c6, ?_, hD.set 1 (r := (d5.getD 1 []).set 1 1) (by rw [List.length_set, r1]; omega), h6.mono (by omega)⟩
     simp only [Tr.ev_g, Tr.ev_l, cond_true, l0, i1, z1, h1n, decide_true, r1]
    | false =>
     rw [cond_false]
     exact ⟨_, a6, c6, rfl, hD, h6.mono (by omega)⟩
 ·have q1 : decide ((1 : Int) < (n : Int)) = false := decide_eq_false (by omega)
  rw [q1, cond_false]
  exact ⟨_, _, _, rfl, hD, h5.mono (by omega)⟩
end Go.Proofs.YtnagpmhaddfgmaaGreat
