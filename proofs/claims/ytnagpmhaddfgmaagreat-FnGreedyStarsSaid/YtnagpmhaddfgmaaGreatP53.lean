/-
 Plain laws: numbers sorted by a key, stably; clients by their lengths to a site; numbers deleted from a list.
-/
import Derived.Test.YtnagpmhaddfgmaaGreatP47
namespace Go.Proofs.YtnagpmhaddfgmaaGreat
section
variable {K : Int → Int}
def wlw (K : Int → Int) (x : Int) : List Int → List Int
 | [] => [x]
 | a :: l => if K a ≤ K x then a :: wlw K x l else x :: a :: l
def sortK (K : Int → Int) (l : List Int) : List Int := l.foldl (fun acc x => wlw K x acc) []
theorem wwz {x y : Int} (h : K x < K y) : ∀ q : List Int, wlw K x (q ++ [y]) = wlw K x q ++ [y]
 | [] => by simp [wlw]; omega
 | a :: q => by
  simp only [List.cons_append, wlw]
  split
  ·rw [wwz h q]; rfl
  ·rfl
theorem wxa {x : Int} : ∀ {l : List Int}, (∀ y ∈ l, K y ≤ K x) → wlw K x l = l ++ [x]
 | [], _ => rfl
 | a :: l, h => by
  simp only [wlw, if_pos (h a List.mem_cons_self), List.cons_append]
  rw [wxa fun y hy => h y (List.mem_cons_of_mem _ hy)]
theorem wjc (x : Int) : ∀ l : List Int, (wlw K x l).Perm (x :: l)
 | [] => .refl _
 | a :: l => by
  simp only [wlw]
  split
  ·exact ((wjc x l).cons a).trans (.swap x a l)
  ·exact .refl _
theorem wpi {x : Int} : ∀ {l : List Int}, l.Pairwise (fun a b => K a ≤ K b) → (wlw K x l).Pairwise fun a b => K a ≤ K b
 | [], _ => by simp [wlw]
 | a :: l, h => by
  rw [List.pairwise_cons] at h
  simp only [wlw]
  split
  next hx =>
   rw [List.pairwise_cons]
   refine ⟨fun y hy => ?_, wpi h.2⟩
   rcases List.mem_cons.1 ((wjc x l).mem_iff.1 hy) with e | hy
   ·rw [e]; exact hx
   ·exact h.1 y hy
  next hx =>
   rw [List.pairwise_cons, List.pairwise_cons]
   refine ⟨fun y hy => ?_, h⟩
   rcases List.mem_cons.1 hy with rfl | hy
   ·omega
   ·have := h.1 y hy; omega
theorem wahx (l : List Int) (x : Int) : sortK K (l ++ [x]) = wlw K x (sortK K l) := by simp [sortK]
theorem wxb : ∀ l : List Int, (sortK K l).Pairwise (fun a b => K a ≤ K b) ∧ (sortK K l).Perm l := by
 intro l
 have key : ∀ (l acc : List Int), acc.Pairwise (fun a b => K a ≤ K b) → (l.foldl (fun acc x => wlw K x acc) acc).Pairwise (fun a b => K a ≤ K b) ∧ (l.foldl (fun acc x => wlw K x acc) acc).Perm (acc ++ l) := by
  intro l
  induction l with
  | nil => intro acc h; exact ⟨h, by simp⟩
  | cons x l ih =>
   intro acc h
   obtain ⟨h1, h2⟩ := ih (wlw K x acc) (wpi h)
   refine ⟨h1, h2.trans (((wjc x acc).append_right l).trans ?_)⟩
   rw [List.cons_append]
   exact List.perm_middle.symm
 have h := key l [] List.Pairwise.nil
 rw [List.nil_append] at h
 exact h
theorem wxc (x : Int) : ∀ l : List Int, l.take ((l.findIdx? fun y => !decide (K y ≤ K x)).elim l.length id) ++ x :: l.drop ((l.findIdx? fun y => !decide (K y ≤ K x)).elim l.length id) = wlw K x l
 | [] => rfl
 | a :: l => by
  have ih := wxc x l
  rw [List.findIdx?_cons]
  by_cases h : K a ≤ K x
  ·simp only [h, decide_true, Bool.not_true, Bool.false_eq_true, if_false, wlw, if_true]
   cases hf : l.findIdx? fun y => !decide (K y ≤ K x) with
   | none => rw [hf] at ih; simpa using ih
   | some j => rw [hf] at ih; simpa using ih
  ·simp [h, wlw]
theorem wxd {p r : List Int} {x : Int} : (p ++ x :: r).getD p.length 0 = x := by
 rw [List.getD_eq_getElem?_getD, List.getElem?_append_right (Nat.le_refl _), Nat.sub_self]; rfl
theorem wari (l : List Int) : (List.range (l.length - 1)).foldl (fun _ k => sortK K (l.take (k + 2)) ++ l.drop (k + 2)) l = sortK K l := by
 cases hn : l.length - 1 with
 | zero =>
  rcases l with _ | ⟨a, _ | ⟨b, l⟩⟩
  ·rfl
  ·rfl
  ·simp at hn
 | succ n =>
  rw [List.range_succ, List.foldl_append]
  simp only [List.foldl_cons, List.foldl_nil]
  rw [List.take_of_length_le (by omega), List.drop_of_length_le (by omega), List.append_nil]
def CmpK (K : Int → Int) (M : Int → Prop) (p : HL [.int .i64, .int .i64] → Option Int) : Prop := ∀ x y, M x → M y → ∃ c, p (x, (y, ())) = some c ∧ (c < 0 ↔ K x < K y)
theorem wue {M : Int → Prop} {f : HL [.int .i64, .int .i64] → Option Int} (hf : CmpK K M f) (n i : Int) : ∀ (m : Nat) (p : List Int) (x : Int) (r : List Int), p.length = m → (∀ y ∈ p, M y) → M x → (p.length : Int) < 9223372036854775807 → p.Pairwise (fun a b => K a ≤ K b) →
  woh (0, (n, (f, i))) ((p.length : Int), p ++ x :: r) = some (wlw K x p ++ r) := by
 intro m
 induction m with
 | zero =>
  intro p x r hm _ _ _ _
  have := List.eq_nil_of_length_eq_zero hm
  subst this
  unfold woh
  rw [wau]
  simp (disch := omega) only [EV, wht, Nat.lt_irrefl, List.length_nil, Int.lt_irrefl, show ((0 : Nat) : Int) = 0 from rfl]
  rfl
 | succ m ih =>
  intro p x r hm hM hx hlt hp
  obtain ⟨q, y, rfl⟩ : ∃ q y, p = q ++ [y] := by
   have := List.eq_nil_or_concat p
   rcases this with h | ⟨q, y, h⟩
   ·rw [h] at hm; cases hm
   ·exact ⟨q, y, by simpa using h⟩
  have hql : q.length = m := by simpa using hm
  have e0 : ((q ++ [y]).length : Int) = ((m + 1 : Nat) : Int) := by simp [hql]
  rw [e0] at hlt ⊢
  have e2 : ((m + 1 : Nat) : Int) - 1 = (m : Int) := by omega
  have g1 : ((q ++ [y]) ++ x :: r).getD (m + 1) 0 = x := by
   have := wxd (p := q ++ [y]) (x := x) (r := r)
   rwa [show (q ++ [y]).length = m + 1 by simp [hql]] at this
  have g2 : ((q ++ [y]) ++ x :: r).getD m 0 = y := by
   have := wxd (p := q) (x := y) (r := x :: r)
   rw [hql] at this
   simpa using this
  have hl : ((q ++ [y]) ++ x :: r).length = m + 2 + r.length := by simp [hql]; omega
  have s1 : (((q ++ [y]) ++ x :: r).set (m + 1) y).set m x = q ++ x :: (y :: r) := by
   have t1 : ((q ++ [y]) ++ x :: r).set (m + 1) y = (q ++ [y]) ++ y :: r := by
    rw [List.set_append_right _ _ (by simp [hql]), show m + 1 - (q ++ [y]).length = 0 by simp [hql]]; rfl
   rw [t1, List.append_assoc, List.set_append_right _ _ (by omega), show m - q.length = 0 by omega]
   rfl
  have hend : ¬ K x < K y → ((q ++ [y]) ++ x :: r) = wlw K x (q ++ [y]) ++ r := fun hxy => by
   rw [wxa]
   ·simp
   ·intro z hz
    rcases List.mem_append.1 hz with hz | hz
    ·have := (List.pairwise_append.1 hp).2.2 z hz y (by simp)
     omega
    ·have := List.mem_singleton.1 hz
     rw [this]
     omega
  have h0 : (0 : Int) < ((m + 1 : Nat) : Int) := by omega
  have h1 : m + 1 < m + 2 + r.length := by omega
  have h2 : m < m + 2 + r.length := by omega
  obtain ⟨c, hc, hci⟩ := hf x y hx (hM y (by simp))
  generalize ((q ++ [y]) ++ x :: r) = L at g1 g2 hl s1 hend
  unfold woh
  rw [wau]
  by_cases hxy : K x < K y
  ·have hc0 := hci.2 hxy
   have e : (wht (0, (n, (f, i))) (((m + 1 : Nat) : Int), L)).ev = some (.inl ((m : Int), q ++ x :: (y :: r))) := by
    simp (disch := omega) only [EV, wht, h0, hl, h1, e2, h2, g1, g2, hc, hc0, List.length_set, s1]
   rw [e]
   have := ih q x (y :: r) hql (fun z hz => hM z (by simp [hz])) hx (by omega) (List.pairwise_append.1 hp).1
   rw [hql] at this
   unfold woh at this
   simp only
   rw [this, wwz hxy]
   simp
  ·have hc0 : ¬ c < 0 := fun h => hxy (hci.1 h)
   have e : (wht (0, (n, (f, i))) (((m + 1 : Nat) : Int), L)).ev = some (.inr L) := by
    simp (disch := omega) only [EV, wht, h0, hl, h1, e2, h2, g1, g2, hc, hc0]
   rw [e]
   simp only
   rw [hend hxy]
theorem wuf {M : Int → Prop} {f : HL [.int .i64, .int .i64] → Option Int} (hf : CmpK K M f) {l : List Int} (hM : ∀ x ∈ l, M x) (hl : (l.length : Int) < 9223372036854775806) : wams 0 (l.length : Int) f l = some (sortK K l) := by
 have key := (wap (f := fun v => (woi (0, ((l.length : Int), f)) v).ev) (n := l.length - 1) (mk := fun k (s : List Int) => (((k + 1 : Nat) : Int), s)) (I := fun k s => s = sortK K (l.take (k + 1)) ++ l.drop (k + 1)) (g := fun _ k => sortK K (l.take (k + 2)) ++ l.drop (k + 2)) (fin := fun s => s) (s0 := l) (by
   cases l with
   | nil => rfl
   | cons a l => simp [sortK, wlw])
  (fun k s hk hs => by
   subst hs
   have hkl : k + 1 < l.length := by omega
   obtain ⟨h1, h2⟩ := wxb (K := K) (l.take (k + 1))
   have h3 : (sortK K (l.take (k + 1))).length = k + 1 := by rw [h2.length_eq]; simp; omega
   have h4 : l.drop (k + 1) = l[k + 1] :: l.drop (k + 2) := List.drop_eq_getElem_cons hkl
   have h5 : sortK K (l.take (k + 2)) = wlw K l[k + 1] (sortK K (l.take (k + 1))) := by
    rw [← wahx, List.take_succ_eq_append_getElem hkl]
   have h6 := wue hf (l.length : Int) ((k + 1 : Nat) : Int) (k + 1) (sortK K (l.take (k + 1))) l[k + 1] (l.drop (k + 2)) h3 (fun y hy => hM y (List.mem_of_mem_take (h2.mem_iff.1 hy))) (hM _ (List.getElem_mem hkl)) (by rw [h3]; omega) h1
   rw [h3, ← h4] at h6
   refine ⟨?_, rfl⟩
   simp (disch := omega) only [EV, woi, hkl, h6]
   rw [h5]
   rfl)
  (fun s _ => by
   simp (disch := omega) only [EV, woi, show ¬ (l.length - 1 + 1 < l.length) by omega])).1
 rw [wari] at key
 have e : wamr (0, ((l.length : Int), f)) (1, l) = some (sortK K l) := key
 unfold wams wbfz
 simp (disch := omega) only [EV, show IntKind.wrap .i64 ((0 : Int) + 1) = 1 from rfl, e]
theorem wqb {M : Int → Prop} {f : HL [.int .i64, .int .i64] → Option Int} (hf : CmpK K M f) {l : List Int} (hM : ∀ x ∈ l, M x) (hl : l.length ≤ 19) : wavm f l = some (sortK K l) := by
 have e1 : wzd ((l.length : Int), (f, 20)) (0, (20, l)) = some (0, l) := by
  unfold wzd
  rw [wau]
  have hn : ¬ (20 : Int) ≤ (l.length : Int) := by omega
  simp (disch := omega) only [EV, wzc, hn]
 have e2 : ∀ s : List Int, wzf ((l.length : Int), (f, s)) 20 = some () := fun s => by
  unfold wzf
  rw [wau]
  have hn : ¬ (20 : Int) < (l.length : Int) := by omega
  simp (disch := omega) only [EV, wze, hn]
 have e3 := wuf hf hM (by omega)
 unfold wavm wbgf wbgd wbgc
 rw [Tr.ev_c, Tr.ev_c, e1, Option.bind_some, Tr.ev_c]
 dsimp only
 rw [e3, Option.bind_some, Tr.ev_c, e2]
 rfl
end
def Cl (m : Nat) (l : List Int) : Prop := ∀ x ∈ l, 0 ≤ x ∧ x < (m : Int)
def kd (ds : List (List Int)) (a x : Int) : Int := (ds.getD x.toNat []).getD a.toNat 0
def war (ds : List (List Int)) (a : Int) (l : List Int) : List Int := sortK (kd ds a) l
theorem wahy (a b : Int) : ∃ c, F_za a b = some c ∧ (c < 0 ↔ a < b) := by
 unfold F_za T_za
 have e : ∀ x, F_zc x = some false := fun x => by
  unfold F_zc T_zc
  simp only [Tr.ev_l, bne_self_eq_false]
 rw [Tr.ev_c, e, Option.bind_some, Tr.ev_c, e, Option.bind_some]
 simp only [Tr.ev_t, cond_false, Tr.ev_l]
 by_cases h1 : a < b
 ·rw [decide_eq_true h1]
  exact ⟨_, rfl, by omega⟩
 ·rw [decide_eq_false h1]
  by_cases h2 : b < a
  ·rw [decide_eq_true h2]
   exact ⟨_, rfl, by omega⟩
  ·rw [decide_eq_false h2]
   exact ⟨_, rfl, by omega⟩
theorem wpj {o : List Int} {ds : List (List Int)} (hf : Fld o ds) {a : Int} (h0 : 0 ≤ a) (ha : a < (o.length : Int)) {l : List Int} (hl : Cl ds.length l) (hn : l.length ≤ 19) : F_zl o ds a l = some (war ds a l) := by
 have e1 : wahh l = some l := by
  unfold wahh wqs
  rw [if_pos (by omega)]
 have hrow : ∀ x, 0 ≤ x → x < (ds.length : Int) → inR x ds.length = true ∧ inR a (ds.getD x.toNat []).length = true := fun x h1 h2 => by
  have := hf.rowLen x.toNat (by omega)
  exact ⟨wcd h1 (by omega), wcd h0 (by omega)⟩
 have e2 := wqb (K := kd ds a) (M := fun x => 0 ≤ x ∧ x < (ds.length : Int)) (f := fun h2_ => Option.bind (F_zm h2_.1 h2_.2.1 o ds a) fun y3_ => some y3_) (fun x y hx hy => by
  obtain ⟨i1, i2⟩ := hrow x hx.1 hx.2
  obtain ⟨i3, i4⟩ := hrow y hy.1 hy.2
  obtain ⟨c, e3, e4⟩ := wahy (kd ds a x) (kd ds a y)
  unfold kd at e3
  refine ⟨c, ?_, e4⟩
  show Option.bind (F_zm x y o ds a) (fun y3_ => some y3_) = some c
  unfold F_zm T_zm
  rw [Tr.ev_g, i1, cond_true, Tr.ev_g, i2, cond_true, Tr.ev_g, i3, cond_true, Tr.ev_g, i4, cond_true, Tr.ev_c, e3]
  rfl) (l := l) hl hn
 unfold F_zl T_zl
 rw [Tr.ev_c, e1, Option.bind_some, Tr.ev_c, e2]
 rfl
theorem waao {o : List Int} {ds : List (List Int)} (hf : Fld o ds) {a : Int} (h0 : 0 ≤ a) (ha : a < (o.length : Int)) {l : List Int} (hl : Cl ds.length l) (hn : l.length ≤ 19) : wanl o ds l a = some (war ds a l) := by
 have hrow : ∀ x, 0 ≤ x → x < (ds.length : Int) → inR x ds.length = true ∧ inR a (ds.getD x.toNat []).length = true := fun x h1 h2 => by
  have := hf.rowLen x.toNat (by omega)
  exact ⟨wcd h1 (by omega), wcd h0 (by omega)⟩
 have inner : ∀ (out : List Int) (i : Nat), i < l.length → Cl ds.length out → out.length ≤ 19 → wzh (l, (a, (out, ((i : Int), (o, ds))))) 0 = some ((((out.findIdx? fun y => !decide (kd ds a y ≤ kd ds a (l.getD i 0))).elim out.length id : Nat) : Int)) := fun out i hi hout hol => by
  have hx := hl _ (getD_mem (d := 0) hi)
  obtain ⟨i3, i4⟩ := hrow _ hx.1 hx.2
  have hin := wcq hi
  have h := wdl (f := fun v => (woo (l, (a, (out, ((i : Int), (o, ds))))) v).ev) (l := out) 0 (fun y => !decide (kd ds a y ≤ kd ds a (l.getD i 0))) (mk := fun i => (i : Int)) (yes := fun i => (i : Int)) (no := (out.length : Int))
   (fun j hj => by
    have hy := hout _ (getD_mem (d := 0) hj)
    obtain ⟨i1, i2⟩ := hrow _ hy.1 hy.2
    have hjn := wcq hj
    have hlt : (j : Int) < ((out.length : Nat) : Int) := by omega
    have hw : IntKind.wrap .i64 ((j : Int) + 1) = ((j + 1 : Nat) : Int) := by rw [wrap64 (by omega) (by omega)]; rfl
    unfold kd woo
    dsimp only
    rw [Tr.ev_t, decide_eq_true hlt, cond_true, Tr.ev_g, hjn, cond_true, Int.toNat_natCast, Tr.ev_g, i1, cond_true, Tr.ev_g, i2, cond_true, Tr.ev_g, hin, cond_true, Int.toNat_natCast, Tr.ev_g, i3, cond_true, Tr.ev_g, i4, cond_true, Tr.ev_t, hw]
    cases decide ((ds.getD (out.getD j 0).toNat []).getD a.toNat 0 ≤ (ds.getD (l.getD i 0).toNat []).getD a.toNat 0) <;> rfl)
   (by
    have hlt : ¬ ((out.length : Nat) : Int) < ((out.length : Nat) : Int) := by omega
    unfold woo
    dsimp only
    rw [Tr.ev_t, decide_eq_false hlt, cond_false, Tr.ev_l])
  have h1 : wzh (l, (a, (out, ((i : Int), (o, ds))))) 0 = _ := h
  rw [h1]
  cases out.findIdx? fun y => !decide (kd ds a y ≤ kd ds a (l.getD i 0)) <;> rfl
 have h := (wez (f := fun v => (wop (l, (a, (o, ds))) v).ev) l 0 (mk := fun i (s : List Int) => (s, (i : Int))) (I := fun i s => s.length = i ∧ Cl ds.length s) (g := fun acc x => wlw (kd ds a) x acc) (fin := fun s => s) (s0 := []) ⟨rfl, fun x hx => by cases hx⟩
  (fun i out hi hout => by
   obtain ⟨q1, q2⟩ := hout
   have hx := hl _ (getD_mem (d := 0) hi)
   have hp := wjc (K := kd ds a) (l.getD i 0) out
   refine ⟨?_, by rw [hp.length_eq]; simp [q1], fun y hy => by
    rcases List.mem_cons.1 (hp.mem_iff.1 hy) with e | hy
    ·rw [e]; exact hx
    ·exact q2 y hy⟩
   have e1 := inner out i hi q2 (by omega)
   have hfi := wxc (K := kd ds a) (l.getD i 0) out
   have hle : (out.findIdx? fun y => !decide (kd ds a y ≤ kd ds a (l.getD i 0))).elim out.length id ≤ out.length := by
    cases hf : out.findIdx? fun y => !decide (kd ds a y ≤ kd ds a (l.getD i 0)) with
    | none => exact Nat.le_refl _
    | some j =>
     obtain ⟨hj, _⟩ := List.findIdx?_eq_some_iff_getElem.1 hf
     exact Nat.le_of_lt hj
   generalize (out.findIdx? fun y => !decide (kd ds a y ≤ kd ds a (l.getD i 0))).elim out.length id = t at e1 hfi hle
   have g1 : (decide (0 ≤ (t : Int)) && decide ((t : Int) ≤ ((out.length : Nat) : Int))) = true := by
    rw [decide_eq_true (by omega), decide_eq_true (by omega)]
    rfl
   have e2 := waai (l := List.drop 0 (List.take t out)) (by simp; omega)
   have hlen : (List.drop 0 (List.take t out)).length ≤ 19 := by simp; omega
   have r1 := wpz (List.drop 0 (List.take t out)) (l.getD i 0) (by omega)
   have r2 : ((List.drop 0 (List.take t out) ++ [l.getD i 0]).length + (List.drop t (List.take out.length out)).length) * 8 ≤ 140737488355328 := by simp; omega
   have hin := wcq hi
   have hlt : (i : Int) < ((l.length : Nat) : Int) := by omega
   have hw : IntKind.wrap .i64 ((i : Int) + 1) = ((i + 1 : Nat) : Int) := by rw [wrap64 (by omega) (by omega)]; rfl
   have hfin : List.drop 0 (List.take t out) ++ [l.getD i 0] ++ List.drop t (List.take out.length out) = wlw (kd ds a) (l.getD i 0) out := by
    rw [List.take_length, List.drop_zero, ← hfi]
    simp
   unfold wop
   dsimp only
   rw [Tr.ev_t, decide_eq_true hlt, cond_true, Tr.ev_c, e1, Option.bind_some, Tr.ev_g, g1, cond_true, Int.toNat_natCast, Tr.ev_c, e2, Option.bind_some, Tr.ev_g, hin, cond_true, Int.toNat_natCast, Tr.ev_g, decide_eq_true r1, cond_true, Tr.ev_g, cond_true, Tr.ev_g, decide_eq_true r2, cond_true, hw, hfin]
   rfl)
  (fun s _ => by
   have hlt : ¬ ((l.length : Nat) : Int) < ((l.length : Nat) : Int) := by omega
   unfold wop
   dsimp only
   rw [Tr.ev_t, decide_eq_false hlt, cond_false, Tr.ev_l])).1
 have h1 : wank (l, (a, (o, ds))) ([], 0) = some (war ds a l) := h
 unfold wanl wbhj
 rw [Tr.ev_c, h1, Option.bind_some, Tr.ev_l]
end Go.Proofs.YtnagpmhaddfgmaaGreat
