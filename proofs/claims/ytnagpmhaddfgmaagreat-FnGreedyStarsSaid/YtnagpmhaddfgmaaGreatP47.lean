/-
 Plain laws: moves of sets, local openings, best sets, edits of atlases (the reference's side).
-/
import Derived.Test.YtnagpmhaddfgmaaGreatP46
import Derived.Test.YtnagpmhaddfgmaaGreatP33
import Derived.Test.YtnagpmhaddfgmaaGreatPM
namespace Go.Proofs.YtnagpmhaddfgmaaGreat
def wco (o : List Int) (ds : List (List Int)) (s : List Int) : Int := pay o s + serve ds s
theorem wgm {o : List Int} {ds : List (List Int)} (hf : Fld o ds) {s : List Int} (hs : ris o.length s) (h0 : s ≠ []) : 0 ≤ wco o ds s ∧ wco o ds s ≤ 103809717 := by
 have hp := hs.places hf.len
 have h1 := wapt hf hp
 have h2 := wtc hf hp (List.length_pos_iff.2 h0)
 unfold wco
 omega
theorem www {o : List Int} {ds : List (List Int)} (hf : Fld o ds) {s : List Int} (hs : ris o.length s) (h0 : s ≠ []) : wahk o ds s = some (wco o ds s) := wahw hf (hs.places hf.len) (List.length_pos_iff.2 h0)
def wo (s : List Int) (a : Int) : List Int := s.filter fun x => x != a
def swF (n : Nat) (s w : List Int) (acc : List (List Int)) : List (List Int) := (List.range n).foldl (fun acc (b : Nat) => if s.contains (b : Int) then acc else acc ++ [ins (b : Int) w]) acc
def wfb (n : Nat) (s : List Int) (x : List (List Int) × List (List Int) × List (List Int)) (a : Nat) : List (List Int) × List (List Int) × List (List Int) :=
 if s.contains (a : Int) then (x.1, (if 0 < (wo s (a : Int)).length then x.2.1 ++ [wo s (a : Int)] else x.2.1), swF n s (wo s (a : Int)) x.2.2)
 else (x.1 ++ [ins (a : Int) s], x.2.1, x.2.2)
def mvs (n : Nat) (s : List Int) : List (List Int) × List (List Int) × List (List Int) := (List.range n).foldl (wfb n s) ([], [], [])
def wbm (n : Nat) (s : List Int) : List (List Int) := (mvs n s).1 ++ (mvs n s).2.1 ++ (mvs n s).2.2
theorem wbd {s : List Int} {a : Int} (h : s.contains a = false) : a ∉ s := fun hm => by
 rw [List.contains_iff_mem.2 hm] at h
 cases h
theorem ware {n : Nat} {s w : List Int} (Q : List Int → Prop) (h : ∀ b : Nat, b < n → (b : Int) ∉ s → Q (ins (b : Int) w)) {acc : List (List Int)} (ha : ∀ m ∈ acc, Q m) : (∀ m ∈ swF n s w acc, Q m) ∧ (swF n s w acc).length ≤ acc.length + n := by
 have key : ∀ k, k ≤ n → (∀ m ∈ (List.range k).foldl (fun acc (b : Nat) => if s.contains (b : Int) then acc else acc ++ [ins (b : Int) w]) acc, Q m) ∧ ((List.range k).foldl (fun acc (b : Nat) => if s.contains (b : Int) then acc else acc ++ [ins (b : Int) w]) acc).length ≤ acc.length + k := by
  intro k
  induction k with
  | zero => intro _; exact ⟨ha, Nat.le_refl _⟩
  | succ k ih =>
   intro hk
   obtain ⟨i1, i2⟩ := ih (by omega)
   rw [wal]
   cases hc : s.contains (k : Int) with
   | true => simp only [if_true]; exact ⟨i1, by omega⟩
   | false =>
    simp only [Bool.false_eq_true, if_false]
    refine ⟨fun m hm => ?_, by rw [List.length_append, List.length_singleton]; omega⟩
    rcases List.mem_append.1 hm with hm | hm
    ·exact i1 m hm
    ·rw [List.mem_singleton.1 hm]
     exact h k (by omega) (wbd hc)
 exact key n (Nat.le_refl _)
theorem warf {n : Nat} {s : List Int} (Q : List Int → Prop) (h1 : ∀ a : Nat, a < n → (a : Int) ∉ s → Q (ins (a : Int) s)) (h2 : ∀ a : Nat, a < n → (a : Int) ∈ s → 0 < (wo s (a : Int)).length → Q (wo s (a : Int)))
  (h3 : ∀ a : Nat, a < n → (a : Int) ∈ s → ∀ b : Nat, b < n → (b : Int) ∉ s → Q (ins (b : Int) (wo s (a : Int)))) : ∀ k, k ≤ n → (∀ m ∈ ((List.range k).foldl (wfb n s) ([], [], [])).1, Q m) ∧ (∀ m ∈ ((List.range k).foldl (wfb n s) ([], [], [])).2.1, Q m) ∧ (∀ m ∈ ((List.range k).foldl (wfb n s) ([], [], [])).2.2, Q m) ∧
  ((List.range k).foldl (wfb n s) ([], [], [])).1.length ≤ k ∧ ((List.range k).foldl (wfb n s) ([], [], [])).2.1.length ≤ k ∧ ((List.range k).foldl (wfb n s) ([], [], [])).2.2.length ≤ k * n := by
 intro k
 induction k with
 | zero => intro _; exact ⟨fun m h => (by cases h), fun m h => (by cases h), fun m h => (by cases h), Nat.le_refl _, Nat.le_refl _, by simp⟩
 | succ k ih =>
  intro hk
  obtain ⟨i1, i2, i3, i4, i5, i6⟩ := ih (by omega)
  rw [wal]
  generalize (List.range k).foldl (wfb n s) ([], [], []) = x at i1 i2 i3 i4 i5 i6 ⊢
  unfold wfb
  have hmul : (k + 1) * n = k * n + n := by rw [Nat.add_mul, Nat.one_mul]
  cases hc : s.contains (k : Int) with
  | true =>
   have hm := List.contains_iff_mem.1 hc
   obtain ⟨j1, j2⟩ := ware (n := n) (s := s) (w := wo s (k : Int)) Q (h3 k (by omega) hm) i3
   simp only [if_true]
   refine ⟨i1, ?_, j1, by omega, ?_, by omega⟩
   ·split
    next hp =>
     intro m hm'
     rcases List.mem_append.1 hm' with hm' | hm'
     ·exact i2 m hm'
     ·rw [List.mem_singleton.1 hm']; exact h2 k (by omega) hm hp
    next => exact i2
   ·split
    ·simp; omega
    ·omega
  | false =>
   simp only [Bool.false_eq_true, if_false]
   refine ⟨fun m hm => ?_, i2, i3, by simp; omega, by omega, by omega⟩
   rcases List.mem_append.1 hm with hm | hm
   ·exact i1 m hm
   ·rw [List.mem_singleton.1 hm]
    exact h1 k (by omega) (wbd hc)
theorem wha {s : List Int} {a b : Int} (h : b ∉ s) : b ∉ wo s a := fun hm => h (List.mem_filter.1 hm).1
theorem ris.wo {n : Nat} {s : List Int} (h : ris n s) (a : Int) : ris n (wo s a) := h.filter _
theorem wph {n : Nat} {s : List Int} (h : ris n s) : ∀ m ∈ wbm n s, ris n m ∧ m ≠ [] := by
 have hne : ∀ x (l : List Int), ins x l ≠ [] := fun x l e => by have := wtd x l; rw [e] at this; simp at this
 obtain ⟨h1, h2, h3, _⟩ := warf (n := n) (s := s) (fun m => ris n m ∧ m ≠ []) (fun a ha hn => ⟨h.ins (by omega) (by omega) hn, hne _ _⟩) (fun a ha hm hp => ⟨h.wo _, List.length_pos_iff.1 hp⟩)
  (fun a ha hm b hb hn => ⟨(h.wo _).ins (by omega) (by omega) (wha hn), hne _ _⟩) n (Nat.le_refl _)
 intro m hm
 rcases List.mem_append.1 hm with hm | hm
 ·rcases List.mem_append.1 hm with hm | hm
  ·exact h1 m hm
  ·exact h2 m hm
 ·exact h3 m hm
theorem waam {n : Nat} (hn : n ≤ 7) (s : List Int) : (wbm n s).length ≤ 100 := by
 obtain ⟨_, _, _, h1, h2, h3⟩ := warf (n := n) (s := s) (fun _ => True) (fun _ _ _ => trivial) (fun _ _ _ _ => trivial) (fun _ _ _ _ _ _ => trivial) n (Nat.le_refl _)
 have hmul : n * n ≤ 7 * 7 := Nat.mul_le_mul hn hn
 have q1 : (mvs n s).1.length ≤ n := h1
 have q2 : (mvs n s).2.1.length ≤ n := h2
 have q3 : (mvs n s).2.2.length ≤ n * n := h3
 unfold wbm
 rw [List.length_append, List.length_append]
 omega
theorem wbvz (s : List Int) (a : Int) : (wo s a).length ≤ s.length := List.length_filter_le _ _
theorem wbwa (k : (List (Int)) × ((Int) × ((Nat) × ((List (Int)) × ((List (List (Int))) × ((List (List (Int))) × (List (List (Int))))))))) {s w : List Int} {n : Nat} (h1 : k.1 = s) (h2 : k.2.2.2.1.length = n) (h3 : List.getD k.2.2.2.2.2.2 k.2.2.1 [] = w)
  (hn : n ≤ 7) (hs : s.length ≤ 7) (hw : w.length ≤ 7) (hws : ∀ b, b ∉ s → b ∉ w) {acc : List (List Int)} (ha : acc.length ≤ 1000) : wanz k (0, acc) = some (swF n s w acc) := by
 have h := (wap (f := fun v => (wkt k v).ev) (n := n) (mk := fun i (acc : List (List Int)) => ((i : Int), acc)) (I := fun i a => a.length ≤ 1000 + i) (g := fun acc (b : Nat) => if s.contains (b : Int) then acc else acc ++ [ins (b : Int) w]) (fin := fun s => s) (s0 := acc) (by omega)
  (fun i x hi hx => by
   have e1 := wlb (l := s) (by omega) (i : Int)
   have e2 : (i : Int) < ((k.2.2.2.1.length : Nat) : Int) := by omega
   cases hc : s.contains (i : Int) with
   | true =>
    rw [hc] at e1
    refine ⟨?_, by simp only [if_true]; omega⟩
    simp (disch := omega) only [EV, wkt, h1, h2, e1, hi]
    rfl
   | false =>
    rw [hc] at e1
    have e3 := wte (l := w) (x := (i : Int)) (by omega) (hws _ (wbd hc))
    have r1 := wpg x (by omega)
    refine ⟨?_, by simp; omega⟩
    simp (disch := omega) only [EV, wkt, h1, h2, h3, e1, e3, hi, r1, wfl]
    rfl)
  (fun x _ => by simp (disch := omega) only [EV, wkt, h2, Nat.lt_irrefl])).1
 exact h
theorem wbpd (k : (List (Int)) × ((Int) × ((List (Int)) × ((List (List (Int))) × ((List (List (Int))) × ((List (List (Int))) × (List (Int)))))))) {s w : List Int} {n : Nat} (h1 : k.1 = s) (h2 : k.2.2.1.length = n) (h3 : k.2.2.2.2.2.2 = w)
  (hn : n ≤ 7) (hs : s.length ≤ 7) (hw : w.length ≤ 7) (hws : ∀ b, b ∉ s → b ∉ w) {acc : List (List Int)} (ha : acc.length ≤ 1000) : wou k (0, acc) = some (swF n s w acc) := by
 have h := (wap (f := fun v => (wdc k v).ev) (n := n) (mk := fun i (acc : List (List Int)) => ((i : Int), acc)) (I := fun i a => a.length ≤ 1000 + i) (g := fun acc (b : Nat) => if s.contains (b : Int) then acc else acc ++ [ins (b : Int) w]) (fin := fun s => s) (s0 := acc) (by omega)
  (fun i x hi hx => by
   have e1 := wlb (l := s) (by omega) (i : Int)
   cases hc : s.contains (i : Int) with
   | true =>
    rw [hc] at e1
    refine ⟨?_, by simp only [if_true]; omega⟩
    simp (disch := omega) only [EV, wdc, h1, h2, e1, hi]
    rfl
   | false =>
    rw [hc] at e1
    have e3 := wte (l := w) (x := (i : Int)) (by omega) (hws _ (wbd hc))
    have r1 := wpg x (by omega)
    refine ⟨?_, by simp; omega⟩
    simp (disch := omega) only [EV, wdc, h1, h2, h3, e1, e3, hi, r1, wfl]
    rfl)
  (fun x _ => by simp (disch := omega) only [EV, wdc, h2, Nat.lt_irrefl])).1
 exact h
theorem warg {o s : List Int} (ds : List (List Int)) (ho : o.length ≤ 7) (hs : s.length ≤ 7) : wawo o ds s = some (wbm o.length s) := by
 have h := (wap (f := fun v => (whu (s, (o, ds)) v).ev) (n := o.length) (mk := fun i (x : List (List Int) × List (List Int) × List (List Int)) => ((i : Int), x)) (I := fun i x => x.1.length ≤ i ∧ x.2.1.length ≤ i ∧ x.2.2.length ≤ i * o.length) (g := wfb o.length s) (fin := fun x => x) (s0 := ([], [], [])) ⟨Nat.le_refl _, Nat.le_refl _, by simp⟩
  (fun i x hi hx => by
   obtain ⟨x1, x2, x3⟩ := x
   obtain ⟨g1, g2, g3⟩ := hx
   simp only at g1 g2 g3
   have hmul : (i + 1) * o.length = i * o.length + o.length := by rw [Nat.add_mul, Nat.one_mul]
   have hmul2 : i * o.length ≤ 7 * 7 := Nat.mul_le_mul (by omega) ho
   have e1 := wlb (l := s) (by omega) (i : Int)
   unfold wfb
   cases hc : s.contains (i : Int) with
   | false =>
    rw [hc] at e1
    have e3 := wte (l := s) (x := (i : Int)) (by omega) (wbd hc)
    have r1 := wpg x1 (by omega)
    simp only [Bool.false_eq_true, if_false]
    refine ⟨?_, by simp; omega, by omega, by omega⟩
    simp (disch := omega) only [EV, whu, e1, e3, hi, r1, wfl]
    rfl
   | true =>
    rw [hc] at e1
    have e3 := waaj (l := s) (by omega) (i : Int)
    have hw := wbvz s (i : Int)
    have hj := (ware (n := o.length) (s := s) (w := wo s (i : Int)) (fun _ => True) (fun _ _ _ => trivial) (acc := x3) fun _ _ => trivial).2
    simp only [if_true]
    by_cases hp : 0 < (wo s (i : Int)).length
    ·have r1 := wpg x2 (by omega)
     have hp' : 0 < (List.filter (fun x => x != (i : Int)) s).length := hp
     have e4 := wbwa (s, ((i : Int), (x2.length, (o, (ds, (x1, (List.set (x2 ++ [[]]) x2.length (wo s (i : Int))))))))) (w := wo s (i : Int)) rfl rfl (by
      show List.getD (List.set (x2 ++ [[]]) x2.length (wo s (i : Int))) x2.length [] = wo s (i : Int)
      rw [wfl]
      simp) ho hs (by omega) (fun b hb => wha hb) (acc := x3) (by omega)
     unfold wo at e4
     rw [wfl] at e4
     rw [if_pos hp]
     refine ⟨?_, by omega, by simp; omega, by omega⟩
     have hc0 : ((0 : Int) < (((List.filter (fun x => x != (i : Int)) s).length : Nat) : Int)) := by omega
     simp (disch := omega) only [EV, whu, e1, e3, hi, r1, hc0, e4, wfl]
     rfl
    ·have e4 := wbpd (s, ((i : Int), (o, (ds, (x1, (x2, wo s (i : Int))))))) (w := wo s (i : Int)) rfl rfl rfl ho hs (by omega) (fun b hb => wha hb) (acc := x3) (by omega)
     rw [if_neg hp]
     unfold wo at e4 hp
     refine ⟨?_, by omega, by omega, by omega⟩
     have hc0 : ¬ ((0 : Int) < (((List.filter (fun x => x != (i : Int)) s).length : Nat) : Int)) := by omega
     simp (disch := omega) only [EV, whu, e1, e3, hi, hc0, e4]
     rfl)
  (fun x _ => by simp (disch := omega) only [EV, whu, Nat.lt_irrefl]))
 obtain ⟨h1, g1, g2, g3⟩ := h
 have h0 : waoa (s, (o, ds)) (0, ([], ([], []))) = some (mvs o.length s) := h1
 have q1 : (mvs o.length s).1.length ≤ o.length := g1
 have q2 : (mvs o.length s).2.1.length ≤ o.length := g2
 have q3 : (mvs o.length s).2.2.length ≤ o.length * o.length := g3
 have hmul2 : o.length * o.length ≤ 7 * 7 := Nat.mul_le_mul ho ho
 have r1 : ((mvs o.length s).1.length + (mvs o.length s).2.1.length) * 24 ≤ 140737488355328 := by omega
 have r2 : (((mvs o.length s).1 ++ (mvs o.length s).2.1).length + (mvs o.length s).2.2.length) * 24 ≤ 140737488355328 := by
  rw [List.length_append]
  omega
 unfold wawo wbip
 rw [Tr.ev_c, h0, Option.bind_some, Tr.ev_g, decide_eq_true r1, cond_true, Tr.ev_g, decide_eq_true r2, cond_true, Tr.ev_l]
 rfl
def wah (o : List Int) (ds : List (List Int)) (s : List Int) : Option (List Int) := (wbm o.length s).find? fun m => decide (wco o ds m < wco o ds s)
theorem wbq {o : List Int} {ds : List (List Int)} {s m : List Int} (hs : ris o.length s) (h : wah o ds s = some m) : ris o.length m ∧ m ≠ [] ∧ wco o ds m < wco o ds s := by
 unfold wah at h
 have h1 := List.find?_some h
 obtain ⟨a, b⟩ := wph hs m (List.mem_of_find?_eq_some h)
 exact ⟨a, b, of_decide_eq_true h1⟩
theorem wafn {α : Type} (q : α → Bool) (d : α) : ∀ l : List α, l.find? q = (l.findIdx? q).map fun i => l.getD i d
 | [] => rfl
 | x :: l => by
  rw [List.find?_cons, List.findIdx?_cons]
  cases hx : q x with
  | true => simp
  | false =>
   have ih := wafn q d l
   simp only [Bool.false_eq_true, if_false]
   rw [ih]
   cases l.findIdx? q <;> simp
def wqa (o : List Int) (ds : List (List Int)) : Nat → List Int → Nat × List Int
 | 0, s => (0, s)
 | m + 1, s => match wah o ds s with
  | some t => ((wqa o ds m t).1 + 1, (wqa o ds m t).2)
  | none => (0, s)
def wgn (o : List Int) (ds : List (List Int)) (s : List Int) : Nat × List Int := wqa o ds 103809717 s
theorem wwx {o : List Int} {ds : List (List Int)} (hf : Fld o ds) : ∀ (m : Nat) {s : List Int}, ris o.length s → s ≠ [] → wco o ds s ≤ (m : Int) →
  ris o.length (wqa o ds m s).2 ∧ (wqa o ds m s).2 ≠ [] ∧ wah o ds (wqa o ds m s).2 = none ∧ wco o ds (wqa o ds m s).2 + ((wqa o ds m s).1 : Int) ≤ wco o ds s ∧ (wqa o ds m s).1 ≤ m
 | 0, s, hs, h0, hm => by
  refine ⟨hs, h0, ?_, by simp [wqa], Nat.le_refl _⟩
  show wah o ds s = none
  cases hb : wah o ds s with
  | none => rfl
  | some t =>
   obtain ⟨a, b, c⟩ := wbq hs hb
   have := wgm hf a b
   omega
 | m + 1, s, hs, h0, hm => by
  unfold wqa
  cases hb : wah o ds s with
  | none => exact ⟨hs, h0, hb, by simp, by simp⟩
  | some t =>
   obtain ⟨a, b, c⟩ := wbq hs hb
   obtain ⟨i1, i2, i3, i4, i5⟩ := wwx hf m a b (by omega)
   refine ⟨i1, i2, i3, ?_, by simp only; omega⟩
   simp only
   omega
theorem wqx {o : List Int} {ds : List (List Int)} (hf : Fld o ds) {s : List Int} (hs : ris o.length s) (h0 : s ≠ []) :
  ris o.length (wgn o ds s).2 ∧ (wgn o ds s).2 ≠ [] ∧ wah o ds (wgn o ds s).2 = none ∧ wco o ds (wgn o ds s).2 + ((wgn o ds s).1 : Int) ≤ wco o ds s ∧ (wgn o ds s).1 ≤ 103809717 :=
 wwx hf 103809717 hs h0 (by have := (wgm hf hs h0).2; omega)
def optB (x : Option (List Int)) : Bool × List Int := match x with
 | some m => (true, m)
 | none => (false, [])
theorem wle {o : List Int} {ds : List (List Int)} (hf : Fld o ds) {s : List Int} (hs : ris o.length s) (h0 : s ≠ []) : wahl o ds s = some (optB (wah o ds s)) := by
 have hl := hs.len
 have h7 := hf.len
 have e1 := warg (o := o) (s := s) ds h7 (by omega)
 have e2 := www hf hs h0
 have hml := waam h7 s
 have h := wdl (f := fun v => (wkv (s, (o, (ds, wbm o.length s))) v).ev) (l := wbm o.length s) [] (fun m => decide (wco o ds m < wco o ds s)) (mk := fun i => (i : Int)) (yes := fun i => .inr i) (no := .inl ())
  (fun i hi => by
   obtain ⟨a, b⟩ := wph hs _ (getD_mem (d := []) hi)
   have e3 := www hf a b
   by_cases hlt : wco o ds ((wbm o.length s).getD i []) < wco o ds s
   ·simp (disch := omega) only [EV, wkv, hi, e2, e3, hlt]
   ·simp (disch := omega) only [EV, wkv, hi, e2, e3, hlt]
    rfl)
  (by simp (disch := omega) only [EV, wkv, Nat.lt_irrefl])
 have hb : waoh (s, (o, (ds, wbm o.length s))) 0 = _ := h
 unfold wahl wbjk
 rw [Tr.ev_c, e1, Option.bind_some, Tr.ev_c, hb, Option.bind_some]
 unfold wah
 rw [wafn _ []]
 cases (wbm o.length s).findIdx? fun m => decide (wco o ds m < wco o ds s) <;> rfl
theorem wazr {o : List Int} {ds : List (List Int)} (hf : Fld o ds) : ∀ (m : Nat) {s : List Int} (many : Int), 0 ≤ many → many + (m : Int) ≤ 1000000000 → ris o.length s → s ≠ [] → wco o ds s ≤ (m : Int) →
  woy (o, ds) (many, ((optB (wah o ds s)).1, (s, (optB (wah o ds s)).2))) = some (many + ((wqa o ds m s).1 : Int), (wqa o ds m s).2) := by
 have out : ∀ {s : List Int} (many : Int), wah o ds s = none → woy (o, ds) (many, ((optB (wah o ds s)).1, (s, (optB (wah o ds s)).2))) = some (many, s) := fun {s} many hb => by
  rw [hb]
  unfold woy
  rw [wau]
  simp (disch := omega) only [EV, wox, optB]
 intro m
 induction m with
 | zero =>
  intro s many h1 h2 hs h0 ht
  have hb : wah o ds s = none := by
   cases hb : wah o ds s with
   | none => rfl
   | some t =>
    obtain ⟨a, b, c⟩ := wbq hs hb
    have := wgm hf a b
    omega
  rw [out many hb]
  simp [wqa]
 | succ m ih =>
  intro s many h1 h2 hs h0 ht
  cases hb : wah o ds s with
  | none =>
   have := out many hb
   rw [hb] at this
   rw [this]
   simp [wqa, hb]
  | some t =>
   obtain ⟨a, b, c⟩ := wbq hs hb
   have e1 := wle hf a b
   have hw : IntKind.wrap .i64 (many + 1) = many + 1 := wrap64 (by omega) (by omega)
   have ih' := ih (s := t) (many + 1) (by omega) (by omega) a b (by omega)
   unfold woy at ih' ⊢
   rw [wau]
   have hst : (wox (o, ds) (many, ((optB (some t)).1, (s, (optB (some t)).2)))).ev = some (.inl (many + 1, ((optB (wah o ds t)).1, (t, (optB (wah o ds t)).2)))) := by
    simp (disch := omega) only [EV, wox, optB, e1, hw]
   rw [hst]
   simp only
   rw [ih']
   simp only [wqa, hb, Option.some.injEq, Prod.mk.injEq, and_true]
   omega
theorem wwy {o : List Int} {ds : List (List Int)} (ho : wdp o) (hd : wul ds) {s : List Int} (hs : wdp s) : wzm o ds s = some (bif wcx o ds s then (((wgn o ds s).1 : Int), (true, (wgn o ds s).2)) else (0, (false, []))) := by
 have e1 := wafg ho hd hs
 unfold wzm wbjo
 rw [Tr.ev_c, e1, Option.bind_some, Tr.ev_t]
 cases hb : wcx o ds s with
 | false => rfl
 | true =>
  obtain ⟨hf, hp, h0⟩ := wfa hs hb
  have hr : ris o.length s := by
   unfold wcx at hb
   simp only [Bool.and_eq_true] at hb
   exact wgl.1 hb.2.1
  have hne : s ≠ [] := List.length_pos_iff.1 h0
  have hl := hr.len
  have h7 := hf.len
  have e2 := waai (l := s) (by omega)
  have e3 := wle hf hr hne
  have e4 := wazr hf 103809717 (s := s) 0 (by omega) (by omega) hr hne (wgm hf hr hne).2
  rw [Bool.not_true, cond_false, Tr.ev_c, e2, Option.bind_some, Tr.ev_c, e3, Option.bind_some, Tr.ev_c, e4, Option.bind_some, Tr.ev_l, cond_true, Int.zero_add]
  rfl
def whl (o : List Int) (ds : List (List Int)) : List Int := wbv (wco o ds) (wdu o.length)
theorem wmm {n : Nat} (h1 : 1 ≤ n) (h7 : n ≤ 7) {s : List Int} (hs : s ∈ wdu n) : ris n s ∧ s ≠ [] := by
 obtain ⟨a, b, _⟩ := (wbpb h1 h7).rising s hs
 exact ⟨wgl.1 a, List.length_pos_iff.1 b⟩
theorem waan {n : Nat} (h1 : 1 ≤ n) (h7 : n ≤ 7) : wdu n ≠ [] := fun e => by
 have := (wbpb h1 h7).len
 rw [e] at this
 have h2 : 2 ^ 1 ≤ 2 ^ n := Nat.pow_le_pow_right (by omega) h1
 simp at this
 omega
theorem wlf {o : List Int} {ds : List (List Int)} (hf : Fld o ds) : whl o ds ∈ wdu o.length ∧ ∀ s ∈ wdu o.length, wco o ds (whl o ds) ≤ wco o ds s := by
 obtain ⟨a, b⟩ := wja (g := wco o ds) (waan hf.pos hf.len)
 refine ⟨a, fun s hs => ?_⟩
 show wco o ds (wbv (wco o ds) (wdu o.length)) ≤ _
 rw [b]
 exact (whx (fun e => waan hf.pos hf.len (List.map_eq_nil_iff.1 e))).2 _ (List.mem_map_of_mem hs)
end Go.Proofs.YtnagpmhaddfgmaaGreat
