/-
 The law of dispersion.
-/
import Derived.Test.YtnagpmhaddfgmaaGreatQ23
import Derived.Test.YtnagpmhaddfgmaaGreatQ27
import Derived.Test.YtnagpmhaddfgmaaGreatQ13
import Derived.Test.YtnagpmhaddfgmaaGreatP35
import Derived.Test.YtnagpmhaddfgmaaGreatP39
import Derived.Test.YtnagpmhaddfgmaaGreatP44
import Derived.Test.YtnagpmhaddfgmaaGreatPR
namespace Go.Proofs.YtnagpmhaddfgmaaGreat
structure GP (m : List (List Int)) (d : Int) (x : Nat) (out : List (List Int)) : Prop where
 ne : ∀ g ∈ out, g ≠ []
 rng : ∀ g ∈ out, ∀ b ∈ g, 0 ≤ b ∧ b < (x : Int)
 near : ∀ g ∈ out, ∀ a ∈ g, ∀ b ∈ g, at2 m a.toNat b.toNat < d
 nodup : out.flatten.Nodup
 len : out.flatten.length = x
theorem wor {α : Type} : ∀ (l : List (List α)) (k : Nat) (x : α), k < l.length → (l.set k (l.getD k [] ++ [x])).flatten.Perm (l.flatten ++ [x])
 | [], k, x, h => by simp at h
 | a :: l, 0, x, _ => by
  simp only [List.set_cons_zero, List.getD_cons_zero, List.flatten_cons]
  rw [List.append_assoc, List.append_assoc]
  exact List.Perm.append_left a List.perm_append_comm
 | a :: l, k + 1, x, h => by
  simp only [List.set_cons_succ, List.getD_cons_succ, List.flatten_cons, List.append_assoc]
  exact (wor l k x (by simpa using h)).append_left a
theorem GP.perm {m : List (List Int)} {d : Int} {x : Nat} {out out' : List (List Int)} (h : GP m d x out) (hp : out'.flatten.Perm (out.flatten ++ [(x : Int)])) : out'.flatten.Nodup ∧ out'.flatten.length = x + 1 := by
 refine ⟨hp.nodup_iff.2 (wij.2 ⟨h.nodup, fun hx => ?_⟩), by rw [hp.length_eq, List.length_append, h.len]; rfl⟩
 obtain ⟨g, hg, hxg⟩ := List.mem_flatten.1 hx
 have := h.rng g hg _ hxg
 omega
theorem GP.step {m : List (List Int)} (hm : Ground m) {d : Int} (hd : 1 ≤ d) {x : Nat} (hx : x < m.length) {out : List (List Int)} (h : GP m d x out) : GP m d (x + 1) (wcp m d out x) := by
 unfold wcp
 have hr : ∀ g ∈ out, ∀ b ∈ g, 0 ≤ b ∧ b < ((x + 1 : Nat) : Int) := fun g hg b hb => by have := h.rng g hg b hb; omega
 have hxx : at2 m x x < d := by rw [hm.diag x hx]; omega
 cases hf : out.findIdx? (wkr m d x) with
 | none =>
  unfold wfo
  obtain ⟨p1, p2⟩ := h.perm (out' := out ++ [[(x : Int)]]) (by simp)
  refine ⟨fun g hg => ?_, fun g hg b hb => ?_, fun g hg a ha b hb => ?_, p1, p2⟩
  ·rcases List.mem_append.1 hg with hg | hg
   ·exact h.ne g hg
   ·rw [List.mem_singleton.1 hg]; simp
  ·rcases List.mem_append.1 hg with hg | hg
   ·exact hr g hg b hb
   ·rw [List.mem_singleton.1 hg] at hb
    rw [List.mem_singleton.1 hb]
    omega
  ·rcases List.mem_append.1 hg with hg | hg
   ·exact h.near g hg a ha b hb
   ·rw [List.mem_singleton.1 hg] at ha hb
    rw [List.mem_singleton.1 ha, List.mem_singleton.1 hb]
    simpa using hxx
 | some k =>
  obtain ⟨hk, hq, _⟩ := List.findIdx?_eq_some_iff_getElem.1 hf
  have hgm : out.getD k [] ∈ out := getD_mem hk
  have hge : out.getD k [] = out[k] := by rw [List.getD_eq_getElem?_getD, List.getElem?_eq_getElem hk]; rfl
  have hnear : ∀ b ∈ out.getD k [], at2 m x b.toNat < d := fun b hb => by
   rw [hge] at hb
   exact of_decide_eq_true (List.all_eq_true.1 hq b hb)
  unfold wfo
  obtain ⟨p1, p2⟩ := h.perm (out' := out.set k (out.getD k [] ++ [(x : Int)])) (wor out k _ hk)
  refine ⟨fun g hg => ?_, fun g hg b hb => ?_, fun g hg a ha b hb => ?_, p1, p2⟩
  ·rcases List.mem_or_eq_of_mem_set hg with hg | rfl
   ·exact h.ne g hg
   ·simp
  ·rcases List.mem_or_eq_of_mem_set hg with hg | rfl
   ·exact hr g hg b hb
   ·rcases List.mem_append.1 hb with hb | hb
    ·exact hr _ hgm b hb
    ·rw [List.mem_singleton.1 hb]; omega
  ·rcases List.mem_or_eq_of_mem_set hg with hg | rfl
   ·exact h.near g hg a ha b hb
   ·rcases List.mem_append.1 ha with ha | ha
    ·rcases List.mem_append.1 hb with hb | hb
     ·exact h.near _ hgm a ha b hb
     ·rw [List.mem_singleton.1 hb]
      have h1 := h.rng _ hgm a ha
      have h2 := hnear a ha
      rw [hm.sym a.toNat _ (by omega) (by simpa using hx)]
      simpa using h2
    ·rw [List.mem_singleton.1 ha]
     rcases List.mem_append.1 hb with hb | hb
     ·simpa using hnear b hb
     ·rw [List.mem_singleton.1 hb]; simpa using hxx
theorem wos {m : List (List Int)} (hm : Ground m) {d : Int} (hd : 1 ≤ d) : GP m d m.length (wdq m d) := by
 have key : ∀ k, k ≤ m.length → GP m d k ((List.range k).foldl (wcp m d) []) := by
  intro k
  induction k with
  | zero => intro _; exact ⟨fun g hg => (by cases hg), fun g hg => (by cases hg), fun g hg => (by cases hg), List.Pairwise.nil, rfl⟩
  | succ k ih =>
   intro hk
   rw [List.range_succ, List.foldl_append]
   exact (ih (by omega)).step hm hd (by omega)
 exact key m.length (Nat.le_refl _)
theorem wzj {m : List (List Int)} (hm : Ground m) {d : Int} (hd : 1 ≤ d) : PA m (wdq m d) d := by
 have h := wos hm hd
 exact ⟨h.rng, h.nodup, h.ne, h.near, h.len⟩
theorem wzk {m : List (List Int)} {s : List Int} {c b : Int} (hs : ∀ x ∈ s, 0 ≤ x ∧ x < (m.length : Int)) (hn : s.Nodup) (hp : ∀ x ∈ s, ∀ y ∈ s, x ≠ y → c ≤ at2 m x.toNat y.toNat) (hb : c ≤ b) : c ≤ wcj m s b := by
 refine wapa (fun i j hi hj => ?_) hb
 rw [wagq hi, wagq (show j < s.length by omega)]
 refine hp _ (List.getElem_mem _) _ (List.getElem_mem _) fun e => ?_
 have := (List.getElem_inj hn).1 e
 omega
theorem wayd {m : List (List Int)} (hm : Ground m) {k : Nat} {s : List Int} (hl : s.length = k) (h1 : 1 ≤ k) (hs : ∀ x ∈ s, 0 ≤ x ∧ x < (m.length : Int)) (hn : s.Nodup) : waz s ∈ wie m.length (k : Int) ∧ wbm (waz s) 0 ((m.length : Int) - 1) = true ∧ (waz s).length = k := by
 have hr : wbm (waz s) 0 ((m.length : Int) - 1) = true := wii.2 ⟨fun x hx => by have := hs x hx; omega, hn⟩
 obtain ⟨r1, r2⟩ := wef.1 hr
 have hls : (waz s).length = k := by rw [(wez s).2.1, hl]
 have h7 := hm.len
 have hpos : 1 ≤ m.length := by
  cases s with
  | nil => simp at hl; omega
  | cons x s => have := hs x (by simp); omega
 exact ⟨wlx.2 ⟨wayb hpos (by omega) r2 (fun x hx => by have := r1 x hx; omega) (fun e => by rw [e] at hls; simp at hls; omega), by omega⟩, hr, hls⟩
theorem wpw {n : Nat} (h1 : 1 ≤ n) (h7 : n ≤ 7) {k : Int} {s : List Int} (hs : s ∈ wie n k) : wbm s 0 ((n : Int) - 1) = true := ((waoy h1 h7).rising s (wlx.1 hs).1).1
theorem waye {B : Int} {l : List Int} {i : Int} (c : Int) (h : CK B l i) (hB : B ≤ 500000) : ∃ x i' c', wava l i c = some (x, (l, (i', c'))) ∧ CK (B + 2) l i' := by
 obtain ⟨x, i1, c1, e1, _, h1⟩ := wjo [(3 : Int), (5 : Int), (8 : Int), (12 : Int), (1 : Int), (2 : Int), (20 : Int), (100 : Int), (101 : Int), (0 : Int), (6 : Int)] c h (by omega) (by decide)
 unfold wava wbfw
 simp (disch := omega) only [EV, e1]
 exact ⟨_, _, _, rfl, h1⟩
theorem wapu {l : List Int} (h : CK 0 l 0) : ∃ k m, wasb l = some (k, m) ∧ DrG m := by
 obtain ⟨m, i1, c1, e1, hm, h1⟩ := woq (most := 7) (by omega) 0 h (by omega)
 obtain ⟨k, i2, c2, e2, _, _⟩ := wjo [(2 : Int), (3 : Int), (2 : Int), (3 : Int), (4 : Int), (5 : Int), (7 : Int), (1 : Int), (8 : Int)] c1 h1 (by omega) (by decide)
 unfold wasb wbcg
 simp (disch := omega) only [EV, e1, e2]
 exact ⟨_, _, rfl, hm⟩
theorem wapv {l : List Int} (h : CK 0 l 0) : ∃ m s, wyh l = some (m, s) ∧ DrG m ∧ s.length ≤ 9 := by
 obtain ⟨m, i1, c1, e1, hm, h1⟩ := woq (most := 7) (by omega) 0 h (by omega)
 have hm7 := hm.len
 obtain ⟨x, i2, c2, e2, _, _, h2⟩ := wfp 128 c1 h1 (by omega) (by omega)
 obtain ⟨s, e3, hs⟩ := wapp (n := m.length) (by omega) x
 obtain ⟨b, i4, c4, e4, h4⟩ := wapn 20 c2 h2 (by omega) (by omega)
 unfold wyh wbfo
 cases b with
 | false =>
  simp (disch := omega) only [EV, e1, e2, e3, e4]
  exact ⟨_, _, rfl, hm, by omega⟩
 | true =>
  obtain ⟨y, i5, c5, e5, _, _⟩ := wjo [(-1 : Int), (0 : Int), (7 : Int)] c4 h4 (by omega) (by decide)
  have r1 := waxz s y (by omega)
  simp (disch := omega) only [EV, e1, e2, e3, e4, e5, r1]
  exact ⟨_, _, rfl, hm, by simp; omega⟩
structure DrP (G : List (List Int)) : Prop where
 len : G.length ≤ 9
 row : ∀ g ∈ G, g.length ≤ 20
theorem DrP.low {G : List (List Int)} (h : DrP G) : wla G := ⟨by have := h.len; omega, fun g hg => by have := h.row g hg; unfold wew; omega⟩
theorem wapw {l : List Int} (h : CK 0 l 0) : ∃ d m G, wyk l = some (d, (m, G)) ∧ DrG m ∧ DrP G := by
 obtain ⟨m, i1, c1, e1, hm, h1⟩ := woq (most := 7) (by omega) 0 h (by omega)
 obtain ⟨d, i2, c2, e2, h2⟩ := waye c1 h1 (by omega)
 have e3 := wfr hm.low d
 have hm7 := hm.len
 have hG : ∃ b G, wro m d = some (b, G) ∧ G.length ≤ 7 ∧ ∀ g ∈ G, g.length ≤ 7 ∧ g ≠ [] := by
  rw [e3]
  cases hc : (wak m && wfa d 1 100) with
  | false => exact ⟨_, _, rfl, by simp, fun g hg => by cases hg⟩
  | true =>
   rw [Bool.and_eq_true] at hc
   have hg := (wag m).1 hc.1
   have hd := wcg.1 hc.2
   have gi := GI.groups m d
   have gp := wos hg hd.1
   exact ⟨_, _, rfl, by have := gi.1; omega, fun g hg => ⟨by have := (gi.2 g hg).1; omega, gp.ne g hg⟩⟩
 obtain ⟨b, G, e4, hl, hr⟩ := hG
 have hP : DrP G := ⟨by omega, fun g hg => by have := (hr g hg).1; omega⟩
 unfold wyk wbfz
 rw [Tr.ev_c, e1, Option.bind_some, Tr.ev_c]
 dsimp only
 rw [e2, Option.bind_some, Tr.ev_c]
 dsimp only
 rw [e4, Option.bind_some, Tr.ev_t]
 dsimp only
 by_cases hpos : (0 : Int) < ((G.length : Nat) : Int)
 ·obtain ⟨x, i5, c5, e5, x0, x1, h5⟩ := wfp ((G.length : Nat) : Int) c2 h2 (by omega) (by omega)
  obtain ⟨i, rfl⟩ : ∃ i : Nat, x = (i : Int) := ⟨x.toNat, by omega⟩
  have hi : i < G.length := by omega
  obtain ⟨y, i6, c6, e6, _, _, h6⟩ := wfp 8 c5 h5 (by omega) (by omega)
  have hgm : G.getD i [] ∈ G := getD_mem hi
  have hgr := hr _ hgm
  have gi := wbbp hi
  have hset : ∀ (r : List Int), r.length ≤ 20 → DrP (G.set i r) := fun r hrl => ⟨by rw [List.length_set]; omega, fun g hg => by
   rcases List.mem_or_eq_of_mem_set hg with hg | rfl
   ·have := (hr g hg).1; omega
   ·exact hrl⟩
  rw [decide_eq_true hpos, cond_true, Tr.ev_c, e5, Option.bind_some, Tr.ev_c]
  dsimp only
  rw [e6, Option.bind_some, Tr.ev_t]
  dsimp only
  cases y0 : (y == (0 : Int)) with
  | true =>
   obtain ⟨z, i7, c7, e7, _, _, _⟩ := wfp 8 c6 h6 (by omega) (by omega)
   have g2 : (List.length (List.getD G i []) + List.length ([IntKind.wrap .i64 (z - 1)] : List Int)) * 8 ≤ 140737488355328 := by simp only [List.length_cons, List.length_nil]; omega
   have g3 : (decide (i < G.length) && decide (i = i)) = true := by rw [decide_eq_true hi, decide_eq_true rfl]; rfl
   rw [cond_true, Tr.ev_g, gi, cond_true, Tr.ev_g, Int.toNat_natCast, decide_eq_true hi, cond_true, Tr.ev_c, e7, Option.bind_some]
   dsimp only
   rw [Tr.ev_g, decide_eq_true g2, cond_true, Tr.ev_g, cond_true, Tr.ev_g]
   refine ⟨d, m, _, ?_, hm, hset (List.getD G i [] ++ [IntKind.wrap .i64 (z - 1)]) (by simp only [List.length_append, List.length_cons, List.length_nil]; omega)⟩
   simp
  | false =>
   rw [cond_false, Tr.ev_t]
   cases y1 : (y == (1 : Int)) with
   | true =>
    have hne := List.length_pos_iff.2 hgr.2
    have g2 : (decide ((0 : Int) ≤ 1) && decide ((1 : Int) ≤ ((List.length (List.getD G i []) : Nat) : Int))) = true := by
     rw [decide_eq_true (by omega), decide_eq_true (by omega)]; rfl
    rw [cond_true, Tr.ev_g, gi, cond_true, Tr.ev_g, Int.toNat_natCast, decide_eq_true hi, cond_true, Tr.ev_g, g2, cond_true, Tr.ev_g, cond_true, Tr.ev_g, cond_true, Tr.ev_l]
    exact ⟨d, m, _, rfl, hm, hset _ (by simp only [List.length_take, List.length_drop]; omega)⟩
   | false =>
    rw [cond_false, Tr.ev_t]
    cases y2 : (y == (2 : Int)) with
    | true =>
     have g2 : (G.length + 1) * 24 ≤ 140737488355328 := by omega
     rw [cond_true, Tr.ev_g, decide_eq_true g2, cond_true, Tr.ev_l, wapo]
     refine ⟨d, m, _, rfl, hm, ⟨by simp; omega, fun g hg => ?_⟩⟩
     rcases List.mem_append.1 hg with hg | hg
     ·have := (hr g hg).1; omega
     ·rw [List.mem_singleton.1 hg]; simp
    | false =>
     rw [cond_false, Tr.ev_t]
     cases y3 : (y == (3 : Int)) with
     | true =>
      rw [cond_true, Tr.ev_t]
      by_cases h2G : (1 : Int) < ((G.length : Nat) : Int)
      ·have k0 : 0 < G.length := by omega
       have k1 : 1 < G.length := by omega
       have r0 := (hr _ (getD_mem (d := []) k0)).1
       have r1 := (hr _ (getD_mem (d := []) k1)).1
       have e0 : Int.toNat 0 = 0 := rfl
       have e1' : Int.toNat 1 = 1 := rfl
       have e2' : Int.toNat 2 = 2 := rfl
       have j0 : inR 0 G.length = true := wcu (by omega) (by omega)
       have j1 : inR 1 G.length = true := wcu (by omega) (by omega)
       have g2 : (List.length (List.getD G 0 []) + List.length (List.getD G 1 [])) * 8 ≤ 140737488355328 := by omega
       have hsl : (G.set 0 (List.getD G 0 [] ++ List.getD G 1 [])).length = G.length := List.length_set
       have g4 : (decide ((0 : Int) ≤ 1) && decide ((1 : Int) ≤ ((G.length : Nat) : Int))) = true := by
        rw [decide_eq_true (by omega), decide_eq_true (by omega)]; rfl
       have g5 : (decide ((0 : Int) ≤ 2) && decide ((2 : Int) ≤ ((G.length : Nat) : Int))) = true := by
        rw [decide_eq_true (by omega), decide_eq_true (by omega)]; rfl
       have g6 : (1 + (G.length - 2)) * 24 ≤ 140737488355328 := by omega
       refine ⟨d, m, List.take 1 (G.set 0 (List.getD G 0 [] ++ List.getD G 1 [])) ++ List.drop 2 (G.set 0 (List.getD G 0 [] ++ List.getD G 1 [])), ?_, hm, ⟨by rw [List.length_append, List.length_take, List.length_drop, hsl]; omega, fun g hg => ?_⟩⟩
       ·rw [decide_eq_true h2G, cond_true]
        simp only [Tr.ev_g, Tr.ev_l, e0, e1', e2', j0, j1, hsl, g4, g5, decide_eq_true k0, decide_eq_true k1, decide_eq_true g2, decide_eq_true g6, cond_true, decide_true, Bool.and_self, Bool.true_and]
       ·have hg' : g ∈ G.set 0 (List.getD G 0 [] ++ List.getD G 1 []) := by
         rcases List.mem_append.1 hg with hg | hg
         ·exact List.mem_of_mem_take hg
         ·exact List.mem_of_mem_drop hg
        rcases List.mem_or_eq_of_mem_set hg' with hg' | rfl
        ·have := (hr g hg').1; omega
        ·rw [List.length_append]; omega
      ·rw [decide_eq_false h2G, cond_false, Tr.ev_l]
       exact ⟨d, m, _, rfl, hm, hP⟩
     | false =>
      rw [cond_false, Tr.ev_l]
      exact ⟨d, m, _, rfl, hm, hP⟩
 ·rw [decide_eq_false hpos, cond_false, Tr.ev_l]
  exact ⟨d, m, _, rfl, hm, hP⟩
noncomputable def wte (a1_ : List Int) : Tr Bool :=
 (.c ((List (List (Int))) × (List (Int))) (wyh a1_) fun r15_ =>
 .c ((Int) × (Bool)) (F_zg r15_.1 r15_.2) fun r16_ =>
 .c ((Int) × (Bool)) (wyi r15_.1 r15_.2) fun r17_ =>
 .t (r16_.1 != r17_.1)
  (.l false)
  (.t (!(r16_.2 == r17_.2))
    (.l false)
    (.c ((Int) × ((List (List (Int))) × (List (List (Int))))) (wyk a1_) fun r18_ =>
     .c ((Bool) × (Bool)) (F_zn r18_.2.1 r18_.2.2 r18_.1) fun r19_ =>
     .c ((Bool) × (Bool)) (wvg r18_.2.1 r18_.2.2 r18_.1) fun r20_ =>
     .t (!(r19_.1 == r20_.1))
      (.l false)
      (.t (!(r19_.2 == r20_.2))
        (.l false)
        (.t (!r19_.2)
          (.l true)
          (.c ((Bool) × (List (List (Int)))) (F_zl r18_.2.1 r18_.1) fun r21_ =>
           .c ((Bool) × (List (List (Int)))) (wro r18_.2.1 r18_.1) fun r22_ =>
           .t (!r21_.1)
            (.l false)
            (.t (!r22_.1)
              (.l false)
              (.c (Bool) (wyo r21_.2 r22_.2) fun r23_ =>
               .t (!r23_)
                (.l false)
                (.c ((Bool) × (Bool)) (F_zn r18_.2.1 r21_.2 r18_.1) fun r24_ =>
                 .t (!r24_.2)
                  (.l false)
                  (.t (!r24_.1)
                    (.l false)
                    (.c ((Unit) ⊕ (Unit)) (wok (r18_.1, (r19_.1, r18_.2.1)) (IntKind.wrap .i64 (((List.length r18_.2.2 : Nat) : Int) + (1 : Int)))) fun r32_ =>
                     .s (Unit) (Unit) r32_
                      (fun _ => .l true)
                      (fun _ => .l false))))))))))))
theorem wayf {m : List (List Int)} (hlow : wla m) (hm : Ground m) {d : Int} {groups : List (List Int)} {proof : Bool} (hp : proof = true → PA m groups d) (hgl : groups.length ≤ 100) :
  wok (d, (proof, m)) (((groups.length : Nat) : Int) + 1) = some (.inl ()) := by
 have h7 := hm.len
 cases proof with
 | false =>
  have := wcz (f := fun v => (wib (d, (false, m)) v).ev) (n := 0) (fun _ _ => True) (fun r => r = .inl ()) (fun k v hk _ => by omega) (fun v _ => ⟨_, by unfold wib; rw [Tr.ev_t, cond_false, Tr.ev_l], rfl⟩) (v := ((groups.length : Nat) : Int) + 1) trivial
  obtain ⟨r, h1, h2⟩ := this
  rw [h2] at h1
  exact h1
 | true =>
  have hpa := hp rfl
  have hc : ∀ a, a < m.length → ∃ g, g ∈ groups ∧ (a : Int) ∈ g := fun a ha => by
   have hr : ∀ x ∈ groups.flatten, 0 ≤ x ∧ x < (m.length : Int) := fun x hx => by
    obtain ⟨g, hg, hxg⟩ := List.mem_flatten.1 hx
    exact hpa.rng g hg x hxg
   have hall : (a : Int) ∈ groups.flatten := by
    apply Classical.byContradiction
    intro hna
    have := wks ((a : Int) :: groups.flatten) ((List.range m.length).map fun i : Nat => (i : Int)) (List.nodup_cons.2 ⟨hna, hpa.nodup⟩) (fun x hx => by
     rcases List.mem_cons.1 hx with rfl | hx
     ·exact List.mem_map.2 ⟨a, List.mem_range.2 ha, rfl⟩
     ·have := hr x hx
      exact List.mem_map.2 ⟨x.toNat, List.mem_range.2 (by omega), by omega⟩)
    simp only [List.length_cons, List.length_map, List.length_range, hpa.len] at this
    omega
   obtain ⟨g, hg, hag⟩ := List.mem_flatten.1 hall
   exact ⟨g, hg, hag⟩
  obtain ⟨r, h1, h2⟩ := wcz (f := fun v => (wib (d, (true, m)) v).ev) (n := m.length - groups.length) (fun k v => v = ((groups.length + 1 + k : Nat) : Int)) (fun r => r = .inl ())
   (fun k v hk hv => by
    subst hv
    refine ⟨((groups.length + 1 + (k + 1) : Nat) : Int), ?_, rfl⟩
    have hle : ((groups.length + 1 + k : Nat) : Int) ≤ ((m.length : Nat) : Int) := by omega
    have w1 : IntKind.wrap .i64 (((groups.length + 1 + k : Nat) : Int) + 1) = ((groups.length + 1 + (k + 1) : Nat) : Int) := by rw [wrap64 (by omega) (by omega)]; omega
    unfold wib
    dsimp only
    rw [Tr.ev_t, cond_true, Tr.ev_t, decide_eq_true hle, cond_true, Tr.ev_t, w1]
    by_cases hs : ((groups.length + 1 + k : Nat) : Int) < 2
    ·rw [decide_eq_true hs, cond_true, Tr.ev_l]
    ·have hkB : kB m ((groups.length + 1 + k : Nat) : Int) = true := by
      unfold kB
      rw [(wag m).2 hm, wcg.2 ⟨by omega, by omega⟩]
      rfl
     have eb := wdi hlow ((groups.length + 1 + k : Nat) : Int)
     unfold wkn at eb
     rw [hkB, cond_true] at eb
     have hin := wha (n := m.length) (k := ((groups.length + 1 + k : Nat) : Int)) (by omega) (by omega) (fun s => -wcj m s 100)
     generalize waj (fun s => -wcj m s 100) (wie m.length ((groups.length + 1 + k : Nat) : Int)) = s at eb hin
     obtain ⟨q1, q2, q3, q4⟩ := wck (by omega) (by omega) hin
     have hr := wpw (by omega) (by omega) hin
     have ed := wbt hlow q4
     have hd1 : whm m s = (wcj m s 100, true) := by
      unfold whm
      rw [(wag m).2 hm, hr, decide_eq_true (by omega)]
      rfl
     rw [hd1] at ed
     obtain ⟨r1, r2⟩ := wef.1 hr
     have hsr : ∀ x ∈ s, 0 ≤ x ∧ x < (m.length : Int) := fun x hx => by have := r1 x hx; omega
     have hsn : s.Nodup := r2.imp fun h => by omega
     obtain ⟨x, hx, y, hy, hxy, hlt⟩ := wwb hc (fun g hg a ha b hb _ => hpa.near g hg a ha b hb) hsn hsr (by omega)
     have hle2 := wop hm hsr 100 hx hy hxy
     have hnd : ¬ d ≤ wcj m s 100 := by omega
     rw [decide_eq_false hs, cond_false, Tr.ev_c, eb, Option.bind_some, Tr.ev_c]
     dsimp only
     rw [ed, Option.bind_some, Tr.ev_t, Bool.not_true, cond_false, Tr.ev_t, cond_false, Tr.ev_t]
     dsimp only
     rw [decide_eq_false hnd, cond_false, Tr.ev_l])
   (fun v hv => by
    subst hv
    have hgl' : groups.length ≤ m.length := by
     have h0 : ∀ (G : List (List Int)), (∀ g ∈ G, g ≠ []) → G.length ≤ G.flatten.length := by
      intro G
      induction G with
      | nil => intro _; simp
      | cons g G ih =>
       intro hne
       have h1 := List.length_pos_iff.2 (hne g (by simp))
       have h2 := ih fun g' hg' => hne g' (List.mem_cons_of_mem _ hg')
       rw [List.flatten_cons, List.length_append, List.length_cons]
       omega
     have := h0 groups hpa.ne
     rw [hpa.len] at this
     exact this
    have hle : ¬ ((groups.length + 1 + (m.length - groups.length) : Nat) : Int) ≤ ((m.length : Nat) : Int) := by omega
    refine ⟨_, ?_, rfl⟩
    unfold wib
    dsimp only
    rw [Tr.ev_t, cond_true, Tr.ev_t, decide_eq_false hle, cond_false, Tr.ev_l])
   (v := ((groups.length : Nat) : Int) + 1) (by omega)
  rw [h2] at h1
  exact h1
theorem wzl {code : List Int} (hck : CK 0 code 0) : (wte code).ev = some true := by
 obtain ⟨m, s, e1, hm, hs⟩ := wapv hck
 obtain ⟨d, x, G, e2, hx, hG⟩ := wapw hck
 have hsl : wew s := by unfold wew; omega
 have ei := wbt hm.low hsl
 have es := wjj hm.low hsl
 have pi := waeb hx.low hG.low d
 have ps : wvg x G d = some (paB x G d) := wko hx.low hG.low d
 unfold wte
 rw [Tr.ev_c, e1, Option.bind_some, Tr.ev_c]
 dsimp only
 rw [ei, Option.bind_some, Tr.ev_c, es, Option.bind_some, Tr.ev_t, bne_self_eq_false, cond_false, Tr.ev_t, beq_self_eq_true, Bool.not_true, cond_false, Tr.ev_c, e2, Option.bind_some, Tr.ev_c]
 dsimp only
 rw [pi, Option.bind_some, Tr.ev_c, ps, Option.bind_some, Tr.ev_t, beq_self_eq_true, Bool.not_true, cond_false, Tr.ev_t, beq_self_eq_true, Bool.not_true, cond_false, Tr.ev_t]
 unfold paB
 cases hc : (wak x && wfa d 1 100) with
 | false => rfl
 | true =>
  have hc2 := hc
  rw [Bool.and_eq_true] at hc
  have hg := (wag x).1 hc.1
  have hd := wcg.1 hc.2
  have ni := wll hx.low d
  have ns := wfr hx.low d
  rw [hc2, cond_true] at ni ns
  have hlow := GI.low hg d
  have rt := wapt (b := wdq x d) hlow
  rw [beq_self_eq_true] at rt
  have po := waeb hx.low hlow d
  unfold paB at po
  have hpa := (wzc hg hd.1).2 (wzj hg hd.1)
  rw [hc2, cond_true, hpa.1, decide_eq_true hpa.2] at po
  have hproof : (alB x G d && decide (G.flatten.length = x.length)) = true → PA x G d := fun h => by
   rw [Bool.and_eq_true, decide_eq_true_eq] at h
   exact (wzc hg hd.1).1 h
  have hl9 := hG.len
  have h0 := wayf hx.low hg (d := d) (groups := G) hproof (by omega)
  have w1 : IntKind.wrap .i64 (((G.length : Nat) : Int) + 1) = ((G.length : Nat) : Int) + 1 := wrap64 (by omega) (by omega)
  rw [cond_true]
  dsimp only
  rw [Bool.not_true, cond_false, Tr.ev_c, ni, Option.bind_some, Tr.ev_c, ns, Option.bind_some, Tr.ev_t, Bool.not_true, cond_false, Tr.ev_t, cond_false, Tr.ev_c]
  dsimp only
  rw [rt, Option.bind_some, Tr.ev_t, Bool.not_true, cond_false, Tr.ev_c, po, Option.bind_some, Tr.ev_t, Bool.and_self, Bool.not_true, cond_false, Tr.ev_t, cond_false, Tr.ev_c, w1, h0, Option.bind_some]
  rfl
theorem wlm (code : List Int) (hfit : Fit (.slice (.int .u8)) code) : wbih code = some true := by
 unfold wbih wbig wbbv wbbu
 by_cases hb : (65536 : Int) < ((code.length : Nat) : Int)
 ·simp (disch := omega) only [EV, hb]
 ·have hck : CK 0 code 0 := ⟨fun x hx => fitB (hfit.2 x hx), by omega, by omega, by omega⟩
  obtain ⟨k, m, e1, hm⟩ := wapu hck
  have hlow := hm.low
  have bi := wdi hlow k
  have bs := whg hlow k
  have fi := wig hlow k
  have fs := wih hlow k
  have mi := whf hlow
  have ms := whe hlow
  have gr := wan hlow
  have rb := wtd (b := (wkn m k).2) (wapf m k)
  have rf := wtd (b := (farR m k).2) (waxt m k)
  rw [beq_self_eq_true] at rb rf
  have ht : (wte code).ev = some true := wzl hck
  rw [Tr.ev_c, Tr.ev_l, decide_eq_false hb, Option.bind_some, Tr.ev_t, cond_false, Tr.ev_c, e1, Option.bind_some, Tr.ev_c]
  dsimp only
  rw [bi, Option.bind_some, Tr.ev_c, bs, Option.bind_some, Tr.ev_t, beq_self_eq_true, Bool.not_true, cond_false, Tr.ev_c, rb, Option.bind_some, Tr.ev_t, Bool.not_true, cond_false, Tr.ev_c, fi, Option.bind_some, Tr.ev_c, fs, Option.bind_some, Tr.ev_t, beq_self_eq_true, Bool.not_true, cond_false, Tr.ev_t]
  cases hk : kB m k with
  | false =>
   have hf1 : (farR m k).1 = false := by unfold farR; rw [hk]; rfl
   have hb1 : (wkn m k).1 = false := by unfold wkn; rw [hk]; rfl
   rw [hf1, hb1, beq_self_eq_true, Bool.not_true, cond_false, Tr.ev_c, rf, Option.bind_some, Tr.ev_t, Bool.not_true, cond_false, Tr.ev_c, mi, Option.bind_some, Tr.ev_c, ms, Option.bind_some, Tr.ev_t, beq_self_eq_true, Bool.not_true, cond_false, Tr.ev_t, beq_self_eq_true, Bool.not_true, cond_false, Tr.ev_c, gr, Option.bind_some, Tr.ev_t, beq_self_eq_true, Bool.not_true, cond_false, Tr.ev_t, cond_false]
   exact ht
  | true =>
   obtain ⟨hg, hk2, hkm⟩ := wvw hk
   have h7 := hg.len
   have hf1 : farR m k = (true, wbp m (k.toNat - 2)) := by unfold farR; rw [hk]; rfl
   have hb1 : wkn m k = (true, waj (fun s => -wcj m s 100) (wie m.length k)) := by unfold wkn; rw [hk]; rfl
   obtain ⟨n, rfl⟩ : ∃ n : Nat, k = (n : Int) := ⟨k.toNat, by omega⟩
   rw [Int.toNat_natCast] at hf1
   have hfar := wze hg (n - 2) (by omega)
   obtain ⟨c, hc99, hcp, hcm⟩ := waxy hg (n - 2) (by omega)
   have en : 2 + (n - 2) = n := by omega
   rw [en] at hfar hcm
   rw [hf1] at rf ⊢
   rw [hb1] at rb ⊢
   have hin := wha (n := m.length) (k := (n : Int)) (by omega) (by omega) (fun s => -wcj m s 100)
   have hmin := (wco (g := fun s => -wcj m s 100) (wif (n := m.length) (k := (n : Int)) (by omega) (by omega) (by omega))).2
   generalize waj (fun s => -wcj m s 100) (wie m.length (n : Int)) = best at *
   generalize hfo : wbp m (n - 2) = far at *
   obtain ⟨s1, s2, s3⟩ := wayd hg hfar.len (by omega) hfar.mem hfar.nodup
   obtain ⟨q1, q2, q3, q4⟩ := wck (by omega) (by omega) hin
   have hbr := wpw (by omega) (by omega) hin
   have db := wbt hlow q4
   have hdb : whm m best = (wcj m best 100, true) := by
    unfold whm
    rw [(wag m).2 hg, hbr, decide_eq_true (by omega)]
    rfl
   rw [hdb] at db
   have hsl : wew (waz far) := by unfold wew; omega
   have df := wbt hlow hsl
   have hdf : whm m (waz far) = (wcj m (waz far) 100, true) := by
    unfold whm
    rw [(wag m).2 hg, s2, decide_eq_true (by omega)]
    rfl
   rw [hdf] at df
   have rs := wzi (l := far) (by have := hfar.len; omega) (fun a ha => by have := hfar.mem a ha; omega) hfar.nodup
   have hlo : ¬ wcj m best 100 < wcj m (waz far) 100 := by
    have := (wfi (l := (wie m.length (n : Int)).map fun s => -wcj m s 100) (by simpa using wif (n := m.length) (k := (n : Int)) (by omega) (by omega) (by omega))).2 _ (List.mem_map_of_mem (f := fun s => -wcj m s 100) s1)
    rw [← hmin] at this
    omega
   have hsmem : ∀ x, x ∈ waz far ↔ x ∈ far := (wez far).2.2
   have hdc : c ≤ wcj m (waz far) 100 := wzk (fun x hx => hfar.mem x ((hsmem x).1 hx)) ((whb far).nodup_iff.2 hfar.nodup) (fun x hx y hy hxy => hcp x ((hsmem x).1 hx) y ((hsmem y).1 hy) hxy) (by omega)
   have hdin := wyy hg (s := waz far) (Places.of hsl s2)
   have w2 : IntKind.wrap .i64 (2 * wcj m (waz far) 100) = 2 * wcj m (waz far) 100 := wrap64 (by omega) (by omega)
   rw [beq_self_eq_true, Bool.not_true, cond_false, Tr.ev_c, rf, Option.bind_some, Tr.ev_t, Bool.not_true, cond_false, Tr.ev_c, mi, Option.bind_some, Tr.ev_c, ms, Option.bind_some, Tr.ev_t, beq_self_eq_true, Bool.not_true, cond_false, Tr.ev_t, beq_self_eq_true, Bool.not_true, cond_false, Tr.ev_c, gr, Option.bind_some, Tr.ev_t, beq_self_eq_true, Bool.not_true, cond_false, Tr.ev_t, cond_true, Tr.ev_c, db, Option.bind_some, Tr.ev_c, rs, Option.bind_some, Tr.ev_c, df, Option.bind_some, Tr.ev_t, Bool.not_true, cond_false, Tr.ev_t, cond_false, Tr.ev_t]
   dsimp only
   rw [decide_eq_false hlo, cond_false, Tr.ev_t, (wag m).2 hg, Bool.true_and]
   cases hme : wfk m with
   | false =>
    rw [cond_false]
    exact ht
   | true =>
    obtain ⟨r1, r2⟩ := wef.1 hbr
    have hsr : ∀ x ∈ best, 0 ≤ x ∧ x < (m.length : Int) := fun x hx => by have := r1 x hx; omega
    have hsn : best.Nodup := r2.imp fun h => by omega
    obtain ⟨x, hx, y, hy, hxy, hle⟩ := hcm hme best hsn hsr (by omega)
    have hle2 := wop hg hsr 100 hx hy hxy
    have h2l : ¬ 2 * wcj m (waz far) 100 < wcj m best 100 := by omega
    rw [cond_true, Tr.ev_t, w2, decide_eq_false h2l, cond_false]
    exact ht
end Go.Proofs.YtnagpmhaddfgmaaGreat
