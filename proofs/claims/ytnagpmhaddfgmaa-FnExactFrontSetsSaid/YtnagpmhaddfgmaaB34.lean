/-
 Arrays of arrays whose rows are owned: rows taken out, put in, appended.
-/
import Derived.Test.YtnagpmhaddfgmaaB15
namespace Go.Proofs.Ytnagpmhaddfgmaa
open Go.RowKit (Below)
section
variable {P : Program} {tt : Nat → TD} {w : World} {lo : Nat → Prop} {N : Par} {μ : Nat → Option MV} {S : Nat → Prop} {X : Nat → Prop} {g : Nat → Option Ob} {a : Act} {E : Env} {w0 : World}
def wfh (μ : Nat → Option MV) (p d : Nat) (x : Value) (q : Nat) : Option MV :=
 if q = d then some ⟨x, (wu x).toList, []⟩ else if q = p then (μ p).map fun mv => ⟨mv.v, mv.rs.filter fun b => decide (wu x ≠ some b), mv.hs⟩ else μ q
theorem wrb {p d q : Nat} {x : Value} {mv : MV} (h : wfh μ p d x q = some mv) : (q = d ∧ mv = ⟨x, (wu x).toList, []⟩) ∨ (q ≠ d ∧ q = p ∧ ∃ mv0, μ p = some mv0 ∧ mv = ⟨mv0.v, mv0.rs.filter fun b => decide (wu x ≠ some b), mv0.hs⟩) ∨ (q ≠ d ∧ q ≠ p ∧ μ q = some mv) := by
 unfold wfh at h
 split at h
 ·cases h; exact .inl ⟨by assumption, rfl⟩
 ·split at h
  ·cases ho : μ p with
   | none => rw [ho] at h; cases h
   | some mv0 =>
    rw [ho] at h
    simp only [Option.map_some, Option.some.injEq] at h
    exact .inr (.inl ⟨by assumption, by assumption, mv0, rfl, h.symm⟩)
  ·exact .inr (.inr ⟨by assumption, by assumption, h⟩)
theorem Rel.takeRow [Tabs] {s : St} (h : Rel P X lo N w0 s a w μ) {p d i e e2 : Nat} {t : Ty} {l : List (List t.I)} (hgp : s.g p = some (.rows e e2 t l none)) (hgd : s.g d = none) (hdp : d ≠ p) {mv : MV} (hμp : μ p = some mv) (hi : i < l.length) :
  ∃ x, mv.hs[i]? = some x ∧ Rel P X lo N w0 { fr := s.fr, ob := (d, .arr e2 t (l.getD i [])) :: (p, .rows e e2 t l (some (i, some d))) :: s.ob } a w (wfh μ p d x) ∧ RelV P w lo (wfh μ p d x) (SS X (wfh μ p d x)) (.arr d) x := by
 obtain ⟨y, hy, hyo⟩ := h.mem.ob p mv hμp
 rw [hgp] at hy
 cases hy
 obtain ⟨hr, _⟩ := hyo
 have hμd : μ d = none := by
  cases hm : μ d with
  | none => rfl
  | some mv' => obtain ⟨y, hy, _⟩ := h.mem.ob d mv' hm; rw [hgd] at hy; cases hy
 have hin : ∀ j, wcf none j := fun j i k hk => by cases hk
 have hlen := hr.len
 obtain ⟨x, hx⟩ : ∃ x, mv.hs[i]? = some x := ⟨mv.hs[i]'(by omega), by simp⟩
 have hl : l[i]? = some (l.getD i []) := by simp [List.getD_eq_getElem?_getD, hi]
 obtain ⟨k1, xs, k2, k3⟩ := hr.row i x _ (hin i) hx hl
 obtain ⟨a0, n0, c0, hxs⟩ := hr.slc x (List.mem_of_getElem? hx)
 have hμ : ∀ q mv, μ q = some mv → ∃ rs hs, wfh μ p d x q = some ⟨mv.v, rs, hs⟩ ∧ Ext mv.hs hs := fun q mv' hq => by
  unfold wfh
  rw [if_neg (fun e => by rw [e, hμd] at hq; cases hq)]
  split
  next e => subst e; rw [hq]; exact ⟨_, _, rfl, Ext.refl _⟩
  next => exact ⟨mv'.rs, mv'.hs, hq, Ext.refl _⟩
 have hrs : ∀ {q : Nat} {mv' : MV} {b : Nat}, wfh μ p d x q = some mv' → b ∈ mv'.rs → ∃ q0 mv0, μ q0 = some mv0 ∧ b ∈ mv0.rs ∧ ((q = d ∧ q0 = p ∧ wu x = some b) ∨ (q ≠ d ∧ q0 = q ∧ (q = p → wu x ≠ some b))) := fun {q mv' b} hq hb => by
  rcases wrb hq with ⟨rfl, rfl⟩ | ⟨hne, rfl, mv0, h0, rfl⟩ | ⟨hne, hne2, h0⟩
  ·have hb : wu x = some b := by simpa using hb
   exact ⟨p, mv, hμp, (k1 b hb).1, .inl ⟨rfl, rfl, hb⟩⟩
  ·simp only [List.mem_filter, decide_eq_true_eq] at hb
   exact ⟨_, mv0, h0, hb.1, .inr ⟨hne, rfl, fun _ => hb.2⟩⟩
  ·exact ⟨q, mv', h0, hb, .inr ⟨hne, rfl, fun e => absurd e hne2⟩⟩
 have hS : ∀ b, b < w.heap.size → SS X μ b → SS X (wfh μ p d x) b := fun b _ hs => ⟨hs.1, fun q mv' hq hb => by
  obtain ⟨q0, mv0, h1, h2, _⟩ := hrs hq hb
  exact hs.2 q0 mv0 h1 h2⟩
 have hself : wfh μ p d x d = some ⟨x, (wu x).toList, []⟩ := by unfold wfh; rw [if_pos rfl]
 refine ⟨x, hx, ⟨⟨h.mem.hX, h.mem.hlo, fun q mv' hq => ?_, fun q q' mv1 mv2 b h1 h2 h3 h4 => ?_, h.mem.tab⟩, fun j => ?_, h.bel, h.df, h.sz⟩, ?_⟩
 ·rcases wrb hq with ⟨rfl, rfl⟩ | ⟨hne, rfl, mv0, h0, rfl⟩ | ⟨hne, hne2, h0⟩
  ·refine ⟨.arr e2 t (l.getD i []), by simp [St.g, look], ⟨rfl, rfl⟩, fun b hb => (hr.low b (k1 b hb).1).1, xs, k2, k3.step fun b hb hs => ⟨hS b hb hs, rfl⟩⟩
  ·rw [hμp] at h0
   cases h0
   refine ⟨.rows e e2 t l (some (i, some d)), by simp [St.g, look, wal hdp], ?_, fun i' d' hd' => ?_⟩
   ·have hin2 : ∀ j, wcf (some (i, some d)) j → j ≠ i := fun j hj => hj i (some d) rfl
    refine ⟨hr.own, fun b hb => ?_, fun b hb => hr.low b ((List.mem_filter.1 hb).1), hr.slc, fun j y r hj hy hq' => ?_, fun j k y z b hj hk => hr.apart j k y z b (hin j) (hin k)⟩
    ·simp only [List.mem_filter, decide_eq_true_eq]
     exact ⟨hr.top b hb, fun hb2 => (k1 b hb2).2 hb⟩
    ·obtain ⟨m1, ys, m2, m3⟩ := hr.row j y r (hin j) hy hq'
     refine ⟨fun b hb => ⟨?_, (m1 b hb).2⟩, ys, m2, m3.step fun b hb hs => ⟨hS b hb hs, rfl⟩⟩
     simp only [List.mem_filter, decide_eq_true_eq]
     exact ⟨(m1 b hb).1, fun hb2 => hin2 j hj (hr.apart j i y x b (hin j) (hin i) hy hx hb hb2)⟩
   ·cases hd'
    exact ⟨x, _, _, hx, hself⟩
  ·obtain ⟨y, hy, hyo⟩ := h.mem.ob q mv' h0
   refine ⟨y, ?_, hyo.stepH h.mem.hlo hμ (fun b hb hs => ⟨hS b hb hs, rfl⟩) (fun _ _ => rfl) fun _ _ => rfl⟩
   simp only [St.g, look, wal (Ne.symm hne), wal (Ne.symm hne2)]
   exact hy
 ·obtain ⟨q0, mv0, a1, a2, a3⟩ := hrs h1 h3
  obtain ⟨q1, mv1', b1, b2, b3⟩ := hrs h2 h4
  have hqq := h.mem.dis q0 q1 mv0 mv1' b a1 b1 a2 b2
  rcases a3 with ⟨e1, e2', e3⟩ | ⟨e1, e2', e3⟩ <;> rcases b3 with ⟨f1, f2, f3⟩ | ⟨f1, f2, f3⟩
  ·rw [e1, f1]
  ·subst f2
   exact absurd e3 (f3 (hqq.symm.trans e2'))
  ·subst e2'
   exact absurd f3 (e3 (hqq.trans f2))
  ·rw [← e2', ← f2, hqq]
 ·exact (h.fr j).stepH hμ h.mem.hlo (fun b hb hs => ⟨hS b hb hs, rfl⟩) fun _ _ => rfl
 ·subst hxs
  exact .arr hself
theorem Rel.take [Tabs] {s : St} (h : Rel P X lo N w0 s a w μ) (k d : Nat) : ∃ μ', Rel P X lo N w0 (s.take k d) a w μ' := by
 unfold St.take
 split
 next p i hk =>
  split
  next e e2 t l hgp hgd =>
   split
   next hdp =>
    have hv := h.fr k
    rw [hk] at hv
    generalize hy : a.tmps.getD k undef = y at hv
    cases hv with
    | @row _ _ _ v0 rs hds a0 m0 c0 hμ hx =>
     obtain ⟨hi, _⟩ := h.mem.rowAt hμ hx hgp
     obtain ⟨x, h1, h2, h3⟩ := h.takeRow hgp hgd hdp hμ hi
     rw [hx] at h1
     cases h1
     exact ⟨_, h2.know (by rw [hy]; exact h3)⟩
   next => exact ⟨μ, h⟩
  next => exact ⟨μ, h⟩
 next => exact ⟨μ, h⟩
theorem wla {k i : Nat} (h : i ≠ k) : ∀ l : List (Nat × AV), look (l.filter fun p => !(Nat.beq p.1 k)) i = look l i
 | [] => rfl
 |(j, v) :: r => by
  have ih := wla h r
  cases hj : Nat.beq j k with
  | true =>
   have : j = k := Nat.eq_of_beq_eq_true hj
   have hji : Nat.beq j i = false := by
    cases hb : Nat.beq j i with
    | false => rfl
    | true => exact absurd ((Nat.eq_of_beq_eq_true hb).symm.trans this) h
   rw [List.filter_cons]
   simp only [hj, Bool.not_true, Bool.false_eq_true, if_false, look, hji, ih]
  | false =>
   rw [List.filter_cons]
   simp only [hj, Bool.not_false, if_true, look, ih]
theorem St.forget_slot (s : St) (k : Nat) : (s.forget k).slot = ({ s with fr := (k, .undef) :: s.fr } : St).slot := funext fun i => by
 unfold St.slot St.forget
 by_cases h : i = k
 ·subst h
  have hb : Nat.beq i i = true := Nat.beq_refl i
  simp only [look, hb]
 ·have hb : Nat.beq k i = false := by
   cases hb : Nat.beq k i with
   | false => rfl
   | true => exact absurd (Nat.eq_of_beq_eq_true hb).symm h
  simp only [look, hb, wla h]
theorem Rel.forget [Tabs] {s : St} {μ : Nat → Option MV} (h : Rel P X lo N w0 s a w μ) (k : Nat) : Rel P X lo N w0 (s.forget k) a w μ := by
 have := h.know (d := k) .undef
 unfold Rel at this ⊢
 rw [St.forget_slot]
 exact this
theorem Rel.ahead [Tabs] {s0 : St} : ∀ (l : List Nat) {s : St} {μ : Nat → Option MV}, Rel P X lo N w0 s a w μ → ∃ μ', Rel P X lo N w0 (St.ahead s0 s l) a w μ'
 | [], s, μ, h => ⟨μ, h⟩
 | k :: l, s, μ, h => by
  simp only [St.ahead]
  split
  ·split
   ·split
    ·split
     ·split
      ·split
       ·split
        ·obtain ⟨μ', h'⟩ := h.flat (k - 110000000)
         exact Rel.ahead l h'
        ·exact Rel.ahead l (h.forget (k - 90000000))
       ·obtain ⟨μ', h'⟩ := Rel.perms (wnz (s0.slot (k - 80000000))) h
        exact Rel.ahead l h'
      ·obtain ⟨μ', h'⟩ := h.freeze (k - 70000000)
       exact Rel.ahead l h'
     ·obtain ⟨μ', h'⟩ := h.drop (k - 5000000)
      exact Rel.ahead l h'
    ·obtain ⟨μ', h'⟩ := Rel.flats (wnz (s0.slot (k - 4000000))) h
     exact Rel.ahead l h'
   ·obtain ⟨μ', h'⟩ := h.take (k - 2000000) (k - 1500000)
    exact Rel.ahead l h'
  ·obtain ⟨μ', h'⟩ := Rel.freezes (wnz (s0.slot k)) h
   exact Rel.ahead l h'
def whc (μ : Nat → Option MV) (p : Nat) (hs : List Value) (q : Nat) : Option MV := if q = p then (μ p).map fun mv => ⟨mv.v, mv.rs, hs⟩ else μ q
theorem wii {p : Nat} {hs : List Value} {mv : MV} (h : μ p = some mv) : whc μ p hs p = some ⟨mv.v, mv.rs, hs⟩ := by simp [whc, h]
theorem wjy {p q : Nat} {hs : List Value} (h : q ≠ p) : whc μ p hs q = μ q := by simp [whc, h]
theorem wfi {p q : Nat} {hs : List Value} {mv : MV} (h : whc μ p hs q = some mv) : ∃ mv0, μ q = some mv0 ∧ mv.v = mv0.v ∧ mv.rs = mv0.rs ∧ (q ≠ p → mv = mv0) := by
 by_cases e : q = p
 ·subst e
  cases ho : μ q with
  | none => simp [whc, ho] at h
  | some mv0 =>
   rw [wii ho] at h
   cases h
   exact ⟨mv0, rfl, rfl, rfl, fun h => absurd rfl h⟩
 ·rw [wjy e] at h
  exact ⟨mv, h, rfl, rfl, fun _ => rfl⟩
theorem wwa {p : Nat} {hs : List Value} {b : Nat} (h : SS X μ b) : SS X (whc μ p hs) b :=
 ⟨h.1, fun q mv hq hb => by
  obtain ⟨mv0, h1, _, h2, _⟩ := wfi hq
  exact h.2 q mv0 h1 (h2 ▸ hb)⟩
theorem NxU.wroteR [Tabs] (hm : Mem P X lo g μ w) {o b : Nat} {mv : MV} (ho : μ o = some mv) (hr : b ∈ mv.rs) {hs : List Value} {cs : Array Value} {x : Ob} (hsl : ∃ a n c, mv.v = .slice a n c)
  (hx : ObOK P (w.setRow b cs) lo (whc μ o hs) (SS X (whc μ o hs)) x ⟨mv.v, mv.rs, hs⟩) : NxU P X lo g μ w [(o, x)] [o] (w.setRow b cs) (whc μ o hs) := by
 have hw : ∀ k, k ≠ b → (w.setRow b cs).heap[k]? = w.heap[k]? := fun k hk => setRow_other w b k cs hk
 have hlb := (hm.lt ho hr).1
 have hsame : ∀ k, k < w.heap.size → SS X μ k → SS X (whc μ o hs) k ∧ (w.setRow b cs).heap[k]? = w.heap[k]? := fun k _ hS => ⟨wwa hS, hw k fun e => by subst e; exact hS.2 o mv ho hr⟩
 have hlow : ∀ k, lo k → (w.setRow b cs).heap[k]? = w.heap[k]? := fun k hk => hw k fun e => hlb (e ▸ hk)
 have ht : Turns μ (whc μ o hs) [o] := by
  refine ⟨fun p mv' hp => ?_, fun p mv' hk hp => ?_⟩
  ·by_cases e : p = o
   ·subst e
    exact ⟨_, _, wii hp, fun h => absurd (List.mem_singleton.2 rfl) h⟩
   ·exact ⟨mv'.rs, mv'.hs, by rw [wjy e]; exact hp, fun _ => Ext.refl _⟩
  ·rw [List.mem_singleton.1 hk, ho] at hp
   cases hp
   exact hsl
 refine ⟨ht, fun p mv' h => ?_, fun p mv' k h hk => ?_, ⟨rfl, rfl, rfl, by simp, hlow⟩, fun k _ hk => hw k fun e => hk (o, x) (by simp) mv ho (e ▸ hr), fun g' h1 h2 => ⟨hm.hX, by simpa using hm.hlo, fun p mv' hp => ?_, fun p q mv1 mv2 k h3 h4 h5 h6 => ?_, hm.tab.step hlow⟩⟩
 ·obtain ⟨mv0, k1, _⟩ := wfi h
  exact .inl ⟨mv0, k1⟩
 ·obtain ⟨mv0, k1, _, k2, _⟩ := wfi h
  exact .inr ⟨p, mv0, k1, k2 ▸ hk⟩
 ·by_cases e : p = o
  ·subst e
   rw [wii ho] at hp
   cases hp
   exact ⟨x, h1 (p, x) (by simp), hx⟩
  ·rw [wjy e] at hp
   obtain ⟨y, hy, hyo⟩ := hm.ob p mv' hp
   have hne : ∀ q ∈ [(o, x)], q.1 ≠ p := fun q hq e' => by
    simp only [List.mem_singleton] at hq
    subst hq
    exact e e'.symm
   refine ⟨wji [o] y, by rw [h2 p mv' hp hne, hy]; rfl, ObOK.kill hm.hlo hsame hlow (fun k hk => hw k fun ek => ?_) ht hyo⟩
   subst ek
   exact e (hm.dis p o mv' mv k hp ho hk hr)
 ·obtain ⟨mv3, k1, _, k2, _⟩ := wfi h3
  obtain ⟨mv4, k3, _, k4, _⟩ := wfi h4
  exact hm.dis p q mv3 mv4 k k1 k3 (k2 ▸ h5) (k4 ▸ h6)
theorem wzo [Tabs] (hT : waj P tt) {s s' : St} (h : Rel P X lo N w0 s a w μ) {ty : Nat} {av vv : AV} {r : Tr St} (hr : wtb tt ty av vv s = some r) (hq : r.ev = some s') {va x : Value} (ha : RelV P w lo μ (SS X μ) av va) (hv : RelV P w lo μ (SS X μ) vv x) :
  ∃ w' μ', (Instr.storeAt ty va x).run P w = .ok () w' ∧ ∀ v, Rel P X lo N w0 s' (a.put none v) w' μ' := by
 unfold wtb at hr
 split at hr
 ·rename_i o i n z
  simp only [Option.some.injEq] at hr
  subst hr
  split at hq
  next e e2 t l sz hg hsz =>
   split at hq
   next hz =>
    split at hq
    next y hgy =>
     obtain ⟨hi, hq⟩ := ev_g hq
     simp only [decide_eq_true_eq] at hi
     simp only [Tr.ev_l, Option.some.injEq] at hq
     subst hq
     obtain ⟨hs1, hs2⟩ := wcz (P := P) (w := w) hT hsz
     have hrep := wpg hgy hv
     have hm := h.mem
     cases ha with
     | @relt _ _ _ _ _ v0 rs hds b m c hμ hx =>
      obtain ⟨yy, hyy, hob⟩ := hm.ob _ _ hμ
      rw [hg] at hyy
      cases hyy
      obtain ⟨hrw, _⟩ := hob
      have hlen := hrw.len
      simp only at hlen
      have hil : i < l.length := by have := (List.getElem?_eq_some_iff.1 hx).1; omega
      have hin : ∀ j, wcf none j := fun j i k hk => by cases hk
      have hli : l[i]? = some (l.getD i []) := by simp [List.getD_eq_getElem?_getD, hil]
      obtain ⟨k1, xs, hown, hrl⟩ := hrw.row i _ _ (hin i) hx hli
      obtain ⟨hbrs, hbtop⟩ := k1 b rfl
      generalize hL : l.getD i [] = L at *
      rcases hown.2 with ⟨e1, _⟩ | ⟨b', cap, cur, ev, hlb, hh, hnc, hcm, hcs, htake⟩
      ·cases e1
      ·simp only [Value.slice.injEq, Option.some.injEq, Addr.mk.injEq, and_true] at ev
       obtain ⟨rfl, rfl, rfl⟩ := ev
       have hlenx : x.cells.toList.length = t.size := hrep.len
       have hle : (n + 1) * t.size ≤ L.length * t.size := Nat.mul_le_mul_right _ (by omega)
       have hle2 : L.length * t.size ≤ c * t.size := Nat.mul_le_mul_right _ hnc
       rw [Nat.add_mul, Nat.one_mul] at hle
       have hrun := run_storeCells_at P b (n * t.size) e2 x.cells.toList 0 cur w hh (by rw [hlenx, hcs]; omega) hrep.one
       simp only [Nat.add_zero] at hrun
       have hcsz : x.cells.size = t.size := by simpa using hlenx
       have hst : (Instr.storeAt ty (.pointer (some ⟨b, n * z, none⟩)) x).run P w = .ok () _ := wbp hs2 (hcsz.trans hz.1.symm) (by rw [hz.2]; exact hrun)
       have hxs := RepL.set hrl hi hrep
       have hoth : ∀ b', b' ≠ b → (w.setRow b (cur.toList.take (n * t.size) ++ x.cells.toList ++ cur.toList.drop (n * t.size + x.cells.toList.length)).toArray).heap[b']? = w.heap[b']? := fun b' hne => setRow_other w b b' _ hne
       have hS : ∀ {l : List t.I} {cs}, RepL (SS X μ) w t l cs → RepL (SS X μ) (w.setRow b (cur.toList.take (n * t.size) ++ x.cells.toList ++ cur.toList.drop (n * t.size + x.cells.toList.length)).toArray) t l cs := fun hc => hc.step fun b' _ hs' => ⟨hs', hoth b' fun e => by subst e; exact hs'.2 o _ hμ hbrs⟩
       have hnx : NxU P X lo s.g μ w [(o, .rows e e2 t (l.set i (L.set n y)) none)] [] (w.setRow b (cur.toList.take (n * t.size) ++ x.cells.toList ++ cur.toList.drop (n * t.size + x.cells.toList.length)).toArray) μ := by
        refine NxU.wrote hm hμ hbrs ⟨⟨?_, hrw.top, fun b' hb' => ⟨(hrw.low b' hb').1, by simpa using (hrw.low b' hb').2⟩, hrw.slc, fun j u rr hj hu hl => ?_, hrw.apart⟩, fun i' d' hd' => by cases hd'⟩
        ·rw [List.length_set]
         exact waf hrw.own fun b' hb' => hoth b' fun e => hbtop (by rw [← e]; exact hb')
        ·by_cases hji : j = i
         ·subst hji
          rw [hx] at hu
          cases hu
          rw [List.getElem?_set, if_pos rfl, if_pos hil] at hl
          cases hl
          refine ⟨k1, xs.take (n * t.size) ++ x.cells.toList ++ xs.drop (n * t.size + t.size), ⟨?_, .inr ⟨b, c, _, ?_, hlb, setRow_heap w b cur _ e2 _ hh, ?_, hcm, ?_, ?_⟩⟩, hS hxs⟩
          ·have := hxs.len
           simpa using this
          ·simp
          ·simpa using hnc
          ·simp only [List.size_toArray, List.length_append, List.length_take, List.length_drop, Array.length_toList, hcsz, hcs]
           omega
          ·rw [← htake]
           simp only [List.length_set]
           rw [hlenx]
           exact wbo _ _ _ _ _ hlenx hle (by simp [hcs]; exact hle2)
         ·rw [List.getElem?_set_ne (Ne.symm hji)] at hl
          obtain ⟨m1, ys, m2, m3⟩ := hrw.row j u rr (hin j) hu hl
          exact ⟨m1, ys, waf m2 fun b' hb' => hoth b' fun e => hji (hrw.apart j i u _ b (hin j) (hin i) hu hx (by rw [← e]; exact hb') rfl), hS m3⟩
       exact ⟨_, μ, hst, fun v => h.upd (u := ⟨none, none, [(o, .rows e e2 t (l.set i (L.set n y)) none)]⟩) (by simp) rfl hnx (dst := none) rfl (fun d hd => by cases hd) (x := v) (fun p hp => by cases hp)⟩
    next => cases hq
   next => cases hq
  next => cases hq
 ·cases hr
theorem wlb {w w' : World} {S' : Nat → Prop} {e : Nat} {t : Ty} {x : Value} {r : List t.I} {ys : List Value} (hown : w.ownsRow 0 e t.size x r.length ys) (hk : ∀ b, wu x = some b → Free w b → S' b ∧ w'.heap[b]? = w.heap[b]?) (hrep : RepL S' w' t r ys) : Rep S' w' (.slice t) r [x] := by
 rcases hown.2 with ⟨e1, h0⟩ | ⟨gb, cap', cur', e1, h1, h2, h3, _⟩
 ·have : r = [] := List.eq_nil_of_length_eq_zero h0
  subst this
  rw [e1]
  exact Rep.nil
 ·have hkk := hk gb (by rw [e1]; rfl) ⟨cur', e, h2⟩
  have hown2 := waf (w' := w') hown fun k hk' => by
   rw [e1] at hk'
   simp only [wu, Option.some.injEq] at hk'
   exact hk' ▸ hkk.2
  rw [e1] at hown2 ⊢
  refine Rep.slice_of h3 hkk.1 hrep fun j u hu => ?_
  have := hown2.cells (g := gb) rfl j u hu
  rw [Addr.add_lit] at this
  exact this
theorem Rel.deepStoreG [Tabs] (hT : waj P tt) {s : St} (h : Rel P X lo N w0 s a w μ) {ty p q i e : Nat} {t : Ty} {l : List t.I} {x : t.I} {sz : Nat × Bool} (hgp : s.g p = some (.deep e t l)) (hpq : p ≠ q)
  (hsz : wbi tt ty = some sz) (hsz1 : sz.1 = t.size) (hi : i < l.length) {va vx : Value} (ha : RelV P w lo μ (SS X μ) (.elt p i t.size) va) {mq : MV} (hμq : μ q = some mq) (hlq : ∀ k ∈ mq.rs, ¬ lo k ∧ k < w.heap.size)
  {vs : List Value} (hvs : vx.cells.toList = vs) (hrx : ∀ (S' : Nat → Prop) (w' : World), (∀ k ∈ mq.rs, Free w k → S' k ∧ w'.heap[k]? = w.heap[k]?) → Rep S' w' t x vs) :
  ∃ w' μ', (Instr.storeAt ty va vx).run P w = .ok () w' ∧ ∀ v, Rel P X lo N w0 (s.swap q .undef [(p, .deep e t (l.set i x))]) (a.put none v) w' μ' := by
 obtain ⟨hs1, hs2⟩ := wcz (P := P) (w := w) hT hsz
 have hrw := hrx (fun _ => True) w fun _ _ _ => ⟨trivial, rfl⟩
 have hvl : vs.length = t.size := hrw.len
 have hpos := t.size_pos
 cases ha with
 | @elt _ _ _ _ b n c rs hs hμ =>
  obtain ⟨y, hy, hyo⟩ := h.mem.ob _ _ hμ
  rw [hgp] at hy
  cases hy
  have hD : DeepOK w lo e t l ⟨.slice (some ⟨b, 0, none⟩) n c, rs, hs⟩ := hyo
  obtain ⟨xs, hown, hrep⟩ := hD.rep
  have hbr : b ∈ rs := hD.top b rfl
  have hbq : b ∉ mq.rs := fun hb => hpq (h.mem.dis p q _ _ b hμ hμq hbr hb)
  rcases hown.2 with ⟨e1, _⟩ | ⟨b', cap, cur, ev, hb0, hh', hnc, hcm, hcs, htake⟩
  ·cases e1
  ·simp only [Value.slice.injEq, Option.some.injEq, Addr.mk.injEq, and_true] at ev
   obtain ⟨rfl, rfl, rfl⟩ := ev
   have hxl : xs.length = l.length * t.size := hown.1
   have hle : i * t.size + t.size ≤ l.length * t.size := by rw [← Nat.succ_mul]; exact Nat.mul_le_mul_right _ hi
   have hle2 : l.length * t.size ≤ c * t.size := Nat.mul_le_mul_right _ hnc
   have hrun := run_storeCells_at P b (i * t.size) e vx.cells.toList 0 cur w hh' (by rw [hvs, hvl, hcs]; omega) (by rw [hvs]; exact hrw.one)
   simp only [Nat.add_zero] at hrun
   have hst : (Instr.storeAt ty (.pointer (some ⟨b, i * t.size, none⟩)) vx).run P w = .ok () _ := wbp hs2 (by rw [hsz1, ← hvl, ← hvs]; simp) hrun
   refine ⟨_, given μ p q, hst, fun v => ?_⟩
   rw [hvs, hvl]
   generalize hw' : w.setRow b (cur.toList.take (i * t.size) ++ vs ++ cur.toList.drop (i * t.size + t.size)).toArray = w'
   have hob : ∀ b', b' ≠ b → w'.heap[b']? = w.heap[b']? := fun b' hne => by rw [← hw']; exact setRow_other w b b' _ hne
   have hsize : w'.heap.size = w.heap.size := by rw [← hw']; simp
   have hblo : ¬ lo b := (hD.low b hbr).1
   have hμg : ∀ o mv, o ≠ q → μ o = some mv → ∃ rs hs, given μ p q o = some ⟨mv.v, rs, hs⟩ ∧ Ext mv.hs hs := fun o mv ho hm => by
    unfold given
    rw [if_neg ho]
    split
    next e => subst e; rw [hm]; exact ⟨_, _, rfl, Ext.refl _⟩
    next => exact ⟨mv.rs, mv.hs, hm, Ext.refl _⟩
   have hS : ∀ k, k < w.heap.size → SS X μ k → SS X (given μ p q) k := fun k _ hs => ⟨hs.1, fun o mv ho hb => by
    obtain ⟨o', mv0, k1, k2, _⟩ := wct ho hb
    exact hs.2 o' mv0 k1 k2⟩
   have hSw : ∀ k, k < w.heap.size → SS X μ k → SS X (given μ p q) k ∧ w'.heap[k]? = w.heap[k]? := fun k hk hs => ⟨hS k hk hs, hob k fun e => hs.2 p _ hμ (by rw [e]; exact hbr)⟩
   have hlow : ∀ k, lo k → w'.heap[k]? = w.heap[k]? := fun k hk => hob k fun e => hblo (e ▸ hk)
   have hrepx : Rep (fun k => (k ∈ rs ++ mq.rs ∧ some b ≠ some k) ∧ Free w' k) w' t x vs := hrx _ w' fun k hk hf => by
    have hkb : k ≠ b := fun e => hbq (e ▸ hk)
    exact ⟨⟨⟨List.mem_append_right _ hk, fun e => hkb (Option.some.inj e).symm⟩, hf.step (hob k hkb)⟩, hob k hkb⟩
   have hgiven : given μ p q p = some ⟨.slice (some ⟨b, 0, none⟩) l.length c, rs ++ mq.rs, hs⟩ := by
    unfold given
    rw [if_neg hpq, if_pos rfl, hμ, hμq]
    rfl
   have hold : RepL (fun k => (k ∈ rs ++ mq.rs ∧ some b ≠ some k) ∧ Free w' k) w' t l xs := hrep.step fun k _ hk => ⟨⟨⟨List.mem_append_left _ hk.1.1, by simpa [wu] using hk.1.2⟩, hk.2.step (hob k fun e => hk.1.2 (by simp [wu, e]))⟩, hob k fun e => hk.1.2 (by simp [wu, e])⟩
   refine ⟨⟨h.mem.hX, by rw [hsize]; exact h.mem.hlo, fun o mv ho => ?_, fun o o' mv mv' k h1 h2 h3 h4 => ?_, h.mem.tab.step hlow⟩, fun j => ?_, ?_, h.df, h.sz⟩
   ·obtain ⟨hoq, ⟨rfl, mv0, k0, rfl⟩ | ⟨hop, k1⟩⟩ := wbu ho
    ·rw [hμ] at k0
     cases k0
     refine ⟨.deep e t (l.set i x), by simp [St.g, St.swap, look], ?_⟩
     have hrs : ((μ q).map (·.rs)).getD [] = mq.rs := by rw [hμq]; rfl
     show DeepOK w' lo e t (l.set i x) ⟨.slice (some ⟨b, 0, none⟩) l.length c, rs ++ ((μ q).map (·.rs)).getD [], hs⟩
     rw [hrs]
     refine ⟨hD.hs, fun k hk => List.mem_append_left _ (hD.top k hk), fun k hk => ?_, xs.take (i * t.size) ++ vs ++ xs.drop (i * t.size + t.size), ⟨?_, .inr ⟨b, c, _, ?_, hb0, by rw [← hw']; exact setRow_heap w b cur _ e _ hh', ?_, hcm, ?_, ?_⟩⟩, ?_⟩
     ·rw [hsize]
      rcases List.mem_append.1 hk with hk | hk
      ·exact hD.low k hk
      ·exact hlq k hk
     ·simp only [List.length_append, List.length_take, List.length_drop, List.length_set, hxl, hvl]
      omega
     ·simp
     ·simpa using hnc
     ·simp only [List.size_toArray, List.length_append, List.length_take, List.length_drop, Array.length_toList, hcs, hvl]
      omega
     ·rw [← htake]
      simp only [List.length_set]
      exact wbo _ _ _ _ _ hvl hle (by simp [hcs]; exact hle2)
     ·exact RepL.set hold hi hrepx
    ·obtain ⟨z, hz, hzo⟩ := h.mem.ob o mv k1
     refine ⟨wcy q .undef z, ?_, ?_⟩
     ·simp only [St.g, St.swap, List.singleton_append, look, wal (Ne.symm hop), wap]
      rw [wau q s.ob o hoq]
      simp only [St.g] at hz
      rw [hz]
      rfl
     ·have h1 : ObOK P w lo (given μ p q) (SS X (given μ p q)) (wcy q .undef z) mv := wee h.mem.hlo hμg (fun _ _ => .undef) hS hzo
      refine h1.step h.mem.hlo (fun o mv ho => ho) (fun k hk hs => ⟨hs, hob k fun e => hs.2 p _ hgiven (by rw [e]; exact List.mem_append_left _ hbr)⟩) hlow fun k hk => hob k fun e => hop (h.mem.dis o p mv _ k k1 hμ hk (by rw [e]; exact hbr))
   ·obtain ⟨r, mv0, k1, k2, k3⟩ := wct h1 h3
    obtain ⟨r', mv0', k1', k2', k3'⟩ := wct h2 h4
    have hrr := h.mem.dis r r' mv0 mv0' k k1 k1' k2 k2'
    have hd1 := (wbu h1).1
    have hd2 := (wbu h2).1
    rcases k3 with rfl | ⟨rfl, rfl⟩ <;> rcases k3' with rfl | ⟨rfl, rfl⟩
    ·exact hrr
    ·exact absurd hrr hd1
    ·exact absurd hrr.symm hd2
    ·rfl
   ·simp only [St.slot, St.swap, wap]
    have h1 := wff (d := .undef) h.mem.hlo hμg (fun _ _ => .undef) hS (h.fr j)
    simp only [St.slot] at h1
    have h2 := fun (u : AV) (hu : RelV P w lo (given μ p q) (SS X (given μ p q)) u (a.tmps.getD j undef)) => hu.step (w' := w') (fun o mv ho => ho) h.mem.hlo (fun k hk hs => ⟨hs, hob k fun e => hs.2 p _ hgiven (by rw [e]; exact List.mem_append_left _ hbr)⟩) hlow
    cases hl : look s.fr j with
    | none => exact .undef
    | some u => rw [hl] at h1; exact h2 _ h1
   ·refine h.bel.trans ⟨?_, ?_, ?_, by rw [hsize]; exact Nat.le_refl _, hlow⟩ <;> (rw [← hw']; rfl)
theorem Rel.deepStore [Tabs] (hT : waj P tt) {s : St} (h : Rel P X lo N w0 s a w μ) {ty p q i e e2 e3 : Nat} {t t2 : Ty} {l : List t.I} {lq : List (List t2.I)} {x : t.I} {sz : Nat × Bool} (hgp : s.g p = some (.deep e t l)) (hgq : s.g q = some (.rows e2 e3 t2 lq none)) (hc : Ty.cast (.slice (.slice t2)) t lq = some x) (hpq : p ≠ q)
  (hsz : wbi tt ty = some sz) (hsz1 : sz.1 = 1) (hi : i < l.length) (hd2 : wcx t2 = false) {va vx : Value} (ha : RelV P w lo μ (SS X μ) (.elt p i 1) va) (hv : RelV P w lo μ (SS X μ) (.arr q) vx) :
  ∃ w' μ', (Instr.storeAt ty va vx).run P w = .ok () w' ∧ ∀ v, Rel P X lo N w0 (s.swap q .undef [(p, .deep e t (l.set i x))]) (a.put none v) w' μ' := by
 obtain ⟨et, hx⟩ := Ty.cast_spec hc
 cases et
 have hx : x = lq := hx
 have hx := hx.symm
 subst hx
 cases hv with
 | @arr _ _ a0 n0 c0 rq hq0 hμq =>
  obtain ⟨yq, hyq, hyqo⟩ := h.mem.ob _ _ hμq
  rw [hgq] at hyq
  cases hyq
  obtain ⟨hrw, _⟩ := hyqo
  refine h.deepStoreG hT hgp hpq hsz hsz1 hi ha hμq (fun k hk => hrw.low k hk) (vs := [.slice a0 n0 c0]) rfl fun S' w' hk => ?_
  have hin : ∀ j, wcf none j := fun j i k hk => by cases hk
  have key : ∀ (hs : List Value) (l : List (List t2.I)), hs.length = l.length → (∀ (j : Nat) (x : Value) (r : List t2.I), hs[j]? = some x → l[j]? = some r → Rep S' w' (.slice t2) r [x]) → RepL S' w' (.slice t2) l hs := by
   intro hs
   induction hs with
   | nil =>
    intro l hl _
    have : l = [] := List.eq_nil_of_length_eq_zero (by simpa using hl.symm)
    subst this
    rfl
   | cons x hs ih =>
    intro l hl hrep
    cases l with
    | nil => simp at hl
    | cons r l => exact ⟨[x], hs, rfl, hrep 0 x r rfl rfl, ih l (by simpa using hl) fun j y q hy hq => hrep (j + 1) y q (by simpa using hy) (by simpa using hq)⟩
  refine wlb (t := .slice t2) hrw.own (fun b hb hf => hk b (hrw.top b hb) hf) (key hq0 lq hrw.len fun j y r hy hl => ?_)
  obtain ⟨k1, ys, hown', hrep'⟩ := hrw.row j y r (hin j) hy hl
  exact wlb hown' (fun b hb hf => hk b (k1 b hb).1 hf) (hrep'.plain hd2)
theorem wod {q : Nat} : ∀ {cs : List AV}, wqr cs = some q → .arr q ∈ cs
 | [], h => by cases h
 | v :: r, h => by
  unfold wqr at h
  split at h
  ·cases h
  ·next e => cases e; cases h; exact List.mem_cons_self
  ·next e => cases e; exact List.mem_cons_of_mem _ (wod h)
theorem Rel.deepAgg [Tabs] (hT : waj P tt) {s : St} (h : Rel P X lo N w0 s a w μ) {ty p q i e e3 : Nat} {t t3 : Ty} {cs : List AV} {l : List t.I} {lq : List t3.I} {x : t.I} {sz : Nat × Bool} (hgp : s.g p = some (.deep e t l)) (ho : wqr cs = some q) (hgq : s.g q = some (.arr e3 t3 lq))
  (hx : getT t (.agg (cs.map (wia q (.dat (.slice t3) lq)))) = some x) (hpq : p ≠ q)
  (hsz : wbi tt ty = some sz) (hsz1 : sz.1 = t.size) (hi : i < l.length) (hd3 : wcx t3 = false) (hall : cs.all (wtc q) = true) {va vx : Value} (ha : RelV P w lo μ (SS X μ) (.elt p i t.size) va) (hv : RelV P w lo μ (SS X μ) (.agg cs) vx) :
  ∃ w' μ', (Instr.storeAt ty va vx).run P w = .ok () w' ∧ ∀ v, Rel P X lo N w0 (s.swap q .undef [(p, .deep e t (l.set i x))]) (a.put none v) w' μ' := by
 obtain ⟨vs, hl, hcell⟩ : ∃ vs, vx.cells.toList = vs ∧ vs.length = cs.length ∧ ∀ j v, nth cs j = some v → RelV P w lo μ (SS X μ) v (vs.getD j undef) := by
  obtain ⟨h1, h2⟩ := wcj hv (cs := cs) rfl
  exact ⟨_, rfl, by simpa using h1, by simpa using h2⟩
 obtain ⟨hlen, hcell⟩ := hcell
 obtain ⟨j0, hj0⟩ := List.mem_iff_getElem?.1 (wod ho)
 have hr0 := hcell j0 _ (by rw [wo]; exact hj0)
 generalize hx0 : vs.getD j0 undef = x0 at hr0
 cases hr0 with
 | @arr _ _ a0 n0 c0 rq hq0 hμq =>
  obtain ⟨yq, hyq, hyqo⟩ := h.mem.ob _ _ hμq
  rw [hgq] at hyq
  cases hyq
  obtain ⟨⟨hhs, hrs⟩, hnl, xs, hown, hrep⟩ := hyqo
  simp only at hhs hrs hown hnl
  refine h.deepStoreG hT hgp hpq hsz hsz1 hi ha hμq (fun k hk => ⟨hnl k (by rw [hrs] at hk; simpa using hk), ?_⟩) hl fun S' w' hk => ?_
  ·rcases hown.2 with ⟨e1, h0⟩ | ⟨gb, cap', cur', e1, h1, h2, h3, _⟩
   ·rw [hrs, e1] at hk
    simp [wu] at hk
   ·rw [hrs, e1] at hk
    simp only [wu, Option.toList_some, List.mem_singleton] at hk
    subst hk
    exact (Array.getElem?_eq_some_iff.1 h2).1
  ·have hrq : Rep S' w' (.slice t3) lq [.slice a0 n0 c0] := wlb hown (fun b hb hf => hk b (by rw [hrs, hb]; simp) hf) (hrep.plain hd3)
   unfold getT at hx
   rw [show cellsOf (.agg (cs.map (wia q (.dat (.slice t3) lq)))) = some (cs.map (wia q (.dat (.slice t3) lq))) from rfl] at hx
   refine wck (P := P) (lo := lo) (μ := μ) (w := w') hx (by rw [List.length_map]; exact hlen) fun j v hj => ?_
   rw [wo, List.getElem?_map, Option.map_eq_some_iff] at hj
   obtain ⟨u, hu, rfl⟩ := hj
   have hru := hcell j u (by rw [wo]; exact hu)
   have hau := List.all_eq_true.1 hall u (List.mem_of_getElem? hu)
   generalize vs.getD j undef = y at hru ⊢
   unfold wtc at hau
   split at hau
   next p' =>
    have e := Nat.eq_of_beq_eq_true hau
    subst e
    have : wia p' (.dat (.slice t3) lq) (.arr p') = .dat (.slice t3) lq := by simp [wia]
    rw [this]
    cases hru with
    | @arr _ _ a1 n1 c1 rq1 hq1 hμ1 =>
     rw [hμq] at hμ1
     cases hμ1
     exact .dat rfl hrq
   next t' v' =>
    cases hru with
    | dat ht hr => exact .dat ht (hr.plain (by simpa using hau))
   next => cases hau
theorem wrc [Tabs] (hT : waj P tt) {s s' : St} (h : Rel P X lo N w0 s a w μ) {ty : Nat} {av vv : AV} {r : Tr St} (hr : wkn tt ty av vv s = some r) (hq : r.ev = some s') {va x : Value} (ha : RelV P w lo μ (SS X μ) av va) (hv : RelV P w lo μ (SS X μ) vv x) :
  ∃ w' μ', (Instr.storeAt ty va x).run P w = .ok () w' ∧ ∀ v, Rel P X lo N w0 s' (a.put none v) w' μ' := by
 unfold wkn at hr
 split at hr
 ·rename_i p i z q
  split at hr
  next e e2 t l hh e3 t3 lq hgp hgq =>
   simp only [Option.some.injEq] at hr
   subst hr
   split at hq
   next sz hsz =>
    split at hq
    next hc =>
     obtain ⟨c1, rfl, c3, rfl, c5⟩ := hc
     obtain ⟨ht3⟩ : ∃ y, Ty.eq? t3 t = some y := Option.isSome_iff_exists.1 c5
     obtain ⟨et⟩ := ht3
     -- in both cases the place is not among the rows that are there
     have hcase : i < l.length ∧ (∀ j, wcf (some (i, some q)) j → wcf hh j) ∧ s' = (((s.kill p).app ⟨none, none, [(p, .rows e e3 t l (some (i, some q)))]⟩).freeze q) := by
      split at hq
      ·obtain ⟨hi, hq⟩ := ev_g hq
       simp only [decide_eq_true_eq] at hi
       simp only [Tr.ev_l, Option.some.injEq] at hq
       exact ⟨hi, fun j _ i k hk => (by cases hk), hq.symm⟩
      ·obtain ⟨hi, hq2⟩ := ev_g hq
       simp only [Bool.and_eq_true, decide_eq_true_eq] at hi
       simp only [Tr.ev_l, Option.some.injEq] at hq2
       obtain ⟨hi, rfl⟩ := hi
       exact ⟨hi, fun j hj i' k hk => (by cases hk; exact hj i (some q) rfl), hq2.symm⟩
      ·cases hq
     obtain ⟨hi, hin, rfl⟩ := hcase
     obtain ⟨hs1, hs2⟩ := wcz (P := P) (w := w) hT hsz
     cases ha with
     | @elt _ _ _ _ b n c rs hs hμ =>
      cases hv with
      | @arr _ _ a0 n0 c0 rq hq0 hμq =>
       obtain ⟨y, hy, hyo⟩ := h.mem.ob _ _ hμ
       rw [hgp] at hy
       cases hy
       obtain ⟨hr, _⟩ := hyo
       have hlen := hr.len
       simp only at hlen hr
       rcases hr.own.2 with ⟨e1, _⟩ | ⟨b', cap, cur, ev, hb0, hh', hnc, hcm, hcs, htake⟩
       ·cases e1
       ·simp only [Value.slice.injEq, Option.some.injEq, Addr.mk.injEq, and_true] at ev
        obtain ⟨rfl, rfl, rfl⟩ := ev
        have hbr : b ∈ rs := hr.top b rfl
        have hrun := run_storeCells_at P b (i * 1) e [.slice a0 n0 c0] 0 cur w hh' (by simp [hcs]; omega) (fun u hu => by simp at hu; subst hu; rfl)
        simp only [Nat.add_zero] at hrun
        have hst : (Instr.storeAt ty (.pointer (some ⟨b, i * 1, none⟩)) (.slice a0 n0 c0)).run P w = .ok () _ := wbp hs2 (by rw [c1]; rfl) hrun
        have hob : ∀ b', b' ∈ rs → b' ≠ b → (w.setRow b (cur.toList.take (i * 1) ++ [Value.slice a0 n0 c0] ++ cur.toList.drop (i * 1 + [Value.slice a0 n0 c0].length)).toArray).heap[b']? = w.heap[b']? := fun b' _ hne => setRow_other w b b' _ hne
        have hnx : NxU P X lo s.g μ w [(p, .rows e e3 t l (some (i, some q)))] [p] (w.setRow b (cur.toList.take (i * 1) ++ [Value.slice a0 n0 c0] ++ cur.toList.drop (i * 1 + [Value.slice a0 n0 c0].length)).toArray) (whc μ p (hs.set i (.slice a0 n0 c0))) := by
         have hSS : ∀ {l : List t.I} {cs}, RepL (SS X μ) w t l cs → RepL (SS X (whc μ p (hs.set i (.slice a0 n0 c0)))) (w.setRow b (cur.toList.take (i * 1) ++ [Value.slice a0 n0 c0] ++ cur.toList.drop (i * 1 + [Value.slice a0 n0 c0].length)).toArray) t l cs := fun hc => hc.step fun b' hb' hs' => ⟨wwa hs', setRow_other w b b' _ fun e => by subst e; exact hs'.2 p _ hμ hbr⟩
         refine NxU.wroteR h.mem hμ hbr ⟨_, _, _, rfl⟩ ⟨⟨⟨by rw [List.length_set]; exact hr.own.1, .inr ⟨b, c, _, rfl, hb0, setRow_heap w b cur _ e _ hh', hnc, hcm, ?_, ?_⟩⟩, hr.top, fun b' hb' => ⟨(hr.low b' hb').1, by simpa using (hr.low b' hb').2⟩, fun u hu => ?_, fun j u rr hj hu hl => ?_, fun j k u z b' hj hk hu hz => ?_⟩, fun i' d' hd' => ?_⟩
         ·simp only [List.size_toArray, List.length_append, List.length_take, List.length_drop, Array.length_toList, List.length_cons, List.length_nil, hcs]
          omega
         ·have h1 := wbo cur.toList [Value.slice a0 n0 c0] (i * 1) 1 (l.length * 1) rfl (by omega) (by simp [hcs]; omega)
          simp only [List.length_cons, List.length_nil, Nat.zero_add]
          rw [h1, htake, Nat.mul_one]
          rw [List.set_eq_take_append_cons_drop, if_pos (by omega)]
          simp
         ·rcases List.mem_or_eq_of_mem_set hu with hu | rfl
          ·exact hr.slc u hu
          ·exact ⟨_, _, _, rfl⟩
         ·have hne : j ≠ i := hj i (some q) rfl
          simp only at hu
          rw [List.getElem?_set_ne (Ne.symm hne)] at hu
          obtain ⟨m1, ys, m2, m3⟩ := hr.row j u rr (hin j hj) hu hl
          exact ⟨m1, ys, waf m2 fun b' hb' => hob b' (m1 b' hb').1 fun e => (m1 b' hb').2 (by rw [e]; rfl), hSS m3⟩
         ·have hne : j ≠ i := hj i (some q) rfl
          have hne' : k ≠ i := hk i (some q) rfl
          simp only at hu hz
          rw [List.getElem?_set_ne (Ne.symm hne)] at hu
          rw [List.getElem?_set_ne (Ne.symm hne')] at hz
          exact hr.apart j k u z b' (hin j hj) (hin k hk) hu hz
         ·cases hd'
          exact ⟨.slice a0 n0 c0, rq, hq0, by simp only; rw [List.getElem?_set, if_pos rfl, if_pos (by omega)], by rw [wjy (Ne.symm c3)]; exact hμq⟩
        have h2 := h.updK (u := ⟨none, none, [(p, .rows e e3 t l (some (i, some q)))]⟩) (by simp) rfl hnx (dst := none) rfl (fun d hd => by cases hd) (x := .bool true) (fun p hp => by cases hp)
        obtain ⟨μ', h3⟩ := h2.freeze q
        exact ⟨_, μ', hst, fun v => h3⟩
    next => cases hq
   next => cases hq
  next e t l e2 e3 t2 lq hgp hgq =>
   simp only [Option.some.injEq] at hr
   subst hr
   split at hq
   next sz x hsz hc =>
    split at hq
    next hcnd =>
     obtain ⟨c1, rfl, c3, c4⟩ := hcnd
     obtain ⟨hi, hq⟩ := ev_g hq
     simp only [decide_eq_true_eq] at hi
     simp only [Tr.ev_l, Option.some.injEq] at hq
     subst hq
     exact h.deepStore hT hgp hgq hc c3 hsz c1 hi c4 ha hv
    next => cases hq
   next => cases hq
  next => cases hr
 ·rename_i p i z cs
  split at hr
  next e t l q hgp ho =>
   split at hr
   next e3 t3 lq hgq =>
    simp only [Option.some.injEq] at hr
    subst hr
    split at hq
    next sz x hsz hx =>
     split at hq
     next hcnd =>
      obtain ⟨c1, rfl, c3, c4, c5⟩ := hcnd
      obtain ⟨hi, hq⟩ := ev_g hq
      simp only [decide_eq_true_eq] at hi
      simp only [Tr.ev_l, Option.some.injEq] at hq
      subst hq
      exact h.deepAgg hT hgp ho hgq hx c3 hsz c1 hi c4 c5 ha hv
     next => cases hq
    next => cases hq
   next => cases hr
  next => cases hr
 ·cases hr
def wjq (μ : Nat → Option MV) (p d : Nat) (x y : Value) (q : Nat) : Option MV :=
 if q = d then some ⟨y, (wu y).toList, []⟩ else if q = p then (μ p).map fun mv => ⟨mv.v, mv.rs.filter fun b => decide (wu x ≠ some b), mv.hs⟩ else μ q
theorem whd {p d q : Nat} {x y : Value} {mv : MV} (h : wjq μ p d x y q = some mv) : (q = d ∧ mv = ⟨y, (wu y).toList, []⟩) ∨ (q ≠ d ∧ q = p ∧ ∃ mv0, μ p = some mv0 ∧ mv = ⟨mv0.v, mv0.rs.filter fun b => decide (wu x ≠ some b), mv0.hs⟩) ∨ (q ≠ d ∧ q ≠ p ∧ μ q = some mv) := by
 unfold wjq at h
 split at h
 ·cases h; exact .inl ⟨by assumption, rfl⟩
 ·split at h
  ·cases ho : μ p with
   | none => rw [ho] at h; cases h
   | some mv0 =>
    rw [ho] at h
    simp only [Option.map_some, Option.some.injEq] at h
    exact .inr (.inl ⟨by assumption, by assumption, mv0, rfl, h.symm⟩)
  ·exact .inr (.inr ⟨by assumption, by assumption, h⟩)
theorem wzp [Tabs] (hT : waj P tt) (hm : Mem P X lo g μ w) {ty rt e e1 b d p i : Nat} {t : Ty} (he : tt ty = .sl e t b) {l : List (List t.I)} (hgp : g p = some (.rows e1 e t l none)) (hgd : g d = none) (hdp : d ≠ p) (hb0 : 0 < b) {src : List t.I} (hle : ((l.getD i []).length + src.length) * b ≤ 140737488355328)
  {xv : AV} (hsrc : wjo g t xv = some src) {va x : Value} (ha : RelV P w lo μ (SS X μ) (.row p i) va) (hx : RelV P w lo μ (SS X μ) xv x) :
  ∃ v' w' μ', (Builtin.append_ #[ty, ty] rt #[va, x]).run P w = .ok v' w' ∧ NxU P X lo g μ w [(d, .arr e t (l.getD i [] ++ src)), (p, .rows e1 e t l (some (i, none)))] [] w' μ' ∧ RelV P w' lo μ' (SS X μ') (.arr d) v' := by
 have hd := hT ty
 rw [he] at hd
 obtain ⟨hu, ⟨inf, z, hi, hs, hby, hz, hzz⟩, _⟩ := hd
 have hzc : z.cells.size = t.size := by simpa using wbm hzz
 obtain ⟨ax, c, news, rfl, hnr, hn0, hnews⟩ := wjx hm hsrc hx
 have hnl := hnr.len
 have hμd : μ d = none := by
  cases hm' : μ d with
  | none => rfl
  | some mv => obtain ⟨y, hy, _⟩ := hm.ob d mv hm'; rw [hgd] at hy; cases hy
 cases ha with
 | @row _ _ _ v0 rs hds a0 m0 c0 hμ hxx =>
 obtain ⟨y, hy, hob⟩ := hm.ob _ _ hμ
 rw [hgp] at hy
 cases hy
 obtain ⟨hr, _⟩ := hob
 have hin : ∀ j, wcf none j := fun j i k hk => by cases hk
 obtain ⟨hil, xs0, hown0, hrep0⟩ := hm.rowAt hμ hxx hgp
 have hli : l[i]? = some (l.getD i []) := by simp [List.getD_eq_getElem?_getD, hil]
 obtain ⟨k1, xs, hown, hrep⟩ := hr.row i _ _ (hin i) hxx hli
 simp only at k1
 generalize hL : l.getD i [] = L at *
 obtain ⟨v', w', h1, h2, h3, h4, h5, h6, h7, h8, a', n', c', hv'⟩ := wcm (rt := rt) (c := c) hu hi hs hby hz hzc hown (m := src.length) (by rw [hnl]) hn0 hnews hnr.one hle hb0
 have hrow : ∀ k, wu (.slice a0 m0 c0) = some k → k ∈ rs := fun k hk => (k1 k hk).1
 have hroot : ∀ k, wu v' = some k → k ∈ rs ∨ w.heap.size ≤ k := fun k hk => (h8 k hk).imp (hrow k) id
 have hsame : ∀ k, k < w.heap.size → k ∉ rs → w'.heap[k]? = w.heap[k]? := fun k hk hn => h7 k hk fun e => hn (hrow k e)
 have hkept : Kept lo w w' := ⟨h3, h4, h5, h6, fun k hk => hsame k (hm.hlo k hk) fun hkr => (hr.low k hkr).1 hk⟩
 have hrs : ∀ {q : Nat} {mv' : MV} {k : Nat}, wjq μ p d (.slice a0 m0 c0) v' q = some mv' → k ∈ mv'.rs → w.heap.size ≤ k ∨ ∃ q0 mv0, μ q0 = some mv0 ∧ k ∈ mv0.rs := fun {q mv' k} hq hk => by
  rcases whd hq with ⟨rfl, rfl⟩ | ⟨_, rfl, mv0, h0, rfl⟩ | ⟨_, _, h0⟩
  ·exact (hroot k (by simpa using hk)).symm.imp id fun h => ⟨p, _, hμ, h⟩
  ·exact .inr ⟨_, mv0, h0, (List.mem_filter.1 hk).1⟩
  ·exact .inr ⟨_, mv', h0, hk⟩
 have hdata : ∀ k, k < w.heap.size → SS X μ k → SS X (wjq μ p d (.slice a0 m0 c0) v') k ∧ w'.heap[k]? = w.heap[k]? := fun k hk hS => ⟨⟨hS.1, fun q mv' hq hkm => (hrs hq hkm).elim (fun h => by omega) fun ⟨q0, mv0, z1, z2⟩ => hS.2 q0 mv0 z1 z2⟩, hsame k hk (hS.2 p _ hμ)⟩
 have hself : wjq μ p d (.slice a0 m0 c0) v' d = some ⟨v', (wu v').toList, []⟩ := by unfold wjq; rw [if_pos rfl]
 have hpm : wjq μ p d (.slice a0 m0 c0) v' p = some ⟨v0, rs.filter fun b => decide (wu (.slice a0 m0 c0) ≠ some b), hds⟩ := by unfold wjq; rw [if_neg (Ne.symm hdp), if_pos rfl, hμ]; rfl
 have hoth : ∀ q, q ≠ p → ∀ mv, μ q = some mv → wjq μ p d (.slice a0 m0 c0) v' q = some mv := fun q hq mv hmv => by
  unfold wjq
  rw [if_neg (fun e => by rw [e, hμd] at hmv; cases hmv), if_neg hq]
  exact hmv
 have hturn : Turns μ (wjq μ p d (.slice a0 m0 c0) v') [] := by
  refine ⟨fun q mv hq => ?_, fun _ _ hk => (by cases hk)⟩
  by_cases e : q = p
  ·subst e
   rw [hμ] at hq
   cases hq
   exact ⟨_, _, hpm, fun _ => Ext.refl _⟩
  ·exact ⟨mv.rs, mv.hs, hoth q e mv hq, fun _ => Ext.refl _⟩
 refine ⟨v', w', wjq μ p d (.slice a0 m0 c0) v', h1, ⟨hturn, fun q mv hq => ?_, fun q mv k hq hk => hrs hq hk, hkept, fun k hk hn => hsame k hk (hn (p, .rows e1 e t l (some (i, none))) (by simp) _ hμ), fun g' q1 q2 => ⟨hm.hX, fun b hb => Nat.lt_of_lt_of_le (hm.hlo b hb) h6, fun q mv hq => ?_, fun q q' mv1 mv2 k e1 e2 e3 e4 => ?_, hm.tab.step hkept.block⟩⟩, ?_⟩
 ·rcases whd hq with ⟨rfl, rfl⟩ | ⟨_, rfl, mv0, h0, rfl⟩ | ⟨_, _, h0⟩
  ·exact .inr ⟨_, List.mem_cons_self, rfl⟩
  ·exact .inl ⟨mv0, h0⟩
  ·exact .inl ⟨mv, h0⟩
 ·rcases whd hq with ⟨rfl, rfl⟩ | ⟨_, rfl, mv0, h0, rfl⟩ | ⟨hne, hne2, h0⟩
  ·refine ⟨_, q1 (q, .arr e t (L ++ src)) (by simp), ⟨rfl, rfl⟩, fun k hk hl => ?_, xs ++ news, ?_, ?_⟩
   ·rcases hroot k hk with h' | h'
    ·exact (hr.low k h').1 hl
    ·have := hm.hlo k hl; omega
   ·rw [List.length_append]; exact h2
   ·exact (hrep.step fun k hk hS => hdata k hk hS).append (hnr.step fun k hk hS => hdata k hk hS)
  ·rw [hμ] at h0
   cases h0
   have hne : ∀ k, k ∈ (rs.filter fun b => decide (wu (.slice a0 m0 c0) ≠ some b)) → k ∈ rs ∧ wu (.slice a0 m0 c0) ≠ some k := fun k hk => by simpa using hk
   refine ⟨_, q1 (q, .rows e1 e t l (some (i, none))) (by simp), ⟨waf hr.own fun k hk => h7 k ?_ fun e => (k1 k e).2 hk, fun k hk => ?_, fun k hk => ⟨(hr.low k (hne k hk).1).1, Nat.lt_of_lt_of_le (hr.low k (hne k hk).1).2 h6⟩, hr.slc, fun j y r hj hy hq' => ?_, fun j k y z kb hj hk => hr.apart j k y z kb (hin j) (hin k)⟩, fun i' d' hd' => by cases hd'⟩
   ·exact (hr.low k (hr.top k hk)).2
   ·simp only [List.mem_filter, decide_eq_true_eq]
    exact ⟨hr.top k hk, fun e => (k1 k e).2 hk⟩
   ·obtain ⟨z1, ys, z2, z3⟩ := hr.row j y r (hin j) hy hq'
    have hji : j ≠ i := hj i none rfl
    have hap : ∀ k, wu y = some k → wu (.slice a0 m0 c0) ≠ some k := fun k hk e => hji (hr.apart j i y _ k (hin j) (hin i) hy hxx hk e)
    refine ⟨fun k hk => ⟨?_, (z1 k hk).2⟩, ys, waf z2 fun k hk => h7 k (hr.low k (z1 k hk).1).2 (hap k hk), z3.step fun k hk hS => hdata k hk hS⟩
    simp only [List.mem_filter, decide_eq_true_eq]
    exact ⟨(z1 k hk).1, hap k hk⟩
  ·obtain ⟨y, hy, hyo⟩ := hm.ob q mv h0
   have hne' : ∀ q' ∈ [(d, Ob.arr e t (L ++ src)), (p, .rows e1 e t l (some (i, none)))], q'.1 ≠ q := fun q' hq' e => by
    simp only [List.mem_cons, List.not_mem_nil, or_false] at hq'
    rcases hq' with rfl | rfl
    ·exact hne e.symm
    ·exact hne2 e.symm
   refine ⟨y, by rw [q2 q mv h0 hne', hy]; rfl, hyo.stepH hm.hlo (fun o mv ho => by obtain ⟨rs, hs, z1, z2⟩ := hturn.hs o mv ho; exact ⟨rs, hs, z1, z2 (by simp)⟩) hdata hkept.block fun k hk => hsame k (hm.lt h0 hk).2 fun hkr => hne2 (hm.dis q p mv _ k h0 hμ hk hkr)⟩
 ·rcases whd e1 with ⟨f1, f2⟩ | ⟨f0, f1, mv0, f2, f3⟩ | ⟨f0, f1, f2⟩ <;> rcases whd e2 with ⟨g1, g2⟩ | ⟨g0, g1, mv0', g2, g3⟩ | ⟨g0, g1, g2⟩
  ·rw [f1, g1]
  ·rw [f2] at e3
   rw [g3] at e4
   rw [hμ] at g2
   cases g2
   simp only [List.mem_filter, decide_eq_true_eq] at e4
   rcases h8 k (by simpa using e3) with h' | h'
   ·exact absurd h' e4.2
   ·have := (hr.low k e4.1).2; omega
  ·rw [f2] at e3
   rcases hroot k (by simpa using e3) with h' | h'
   ·exact absurd (hm.dis q' p mv2 _ k g2 hμ e4 h') g1
   ·have := (hm.lt g2 e4).2; omega
  ·rw [g2] at e4
   rw [f3] at e3
   rw [hμ] at f2
   cases f2
   simp only [List.mem_filter, decide_eq_true_eq] at e3
   rcases h8 k (by simpa using e4) with h' | h'
   ·exact absurd h' e3.2
   ·have := (hr.low k e3.1).2; omega
  ·rw [f1, g1]
  ·rw [f3] at e3
   exact absurd (hm.dis p q' mv0 mv2 k f2 g2 (List.mem_filter.1 e3).1 e4).symm g1
  ·rw [g2] at e4
   rcases hroot k (by simpa using e4) with h' | h'
   ·exact absurd (hm.dis q p mv1 _ k f2 hμ e3 h') f1
   ·have := (hm.lt f2 e3).2; omega
  ·rw [g3] at e4
   exact absurd (hm.dis q p mv1 mv0' k f2 g2 e3 (List.mem_filter.1 e4).1) f1
  ·exact hm.dis _ _ _ _ k f2 g2 e3 e4
 ·subst hv'
  exact .arr hself
theorem wlc [Tabs] (hT : waj P tt) (hm : Mem P X lo g μ w) {ty rt d p i : Nat} {xv : AV} {u : LU} (hq : (wdf tt g d ty p i xv).ev = some u) {va x : Value} (ha : RelV P w lo μ (SS X μ) (.row p i) va) (hx : RelV P w lo μ (SS X μ) xv x) :
  u.und = none ∧ some d = u.d.map (·.1) ∧ (u.objs.map (·.1)).Nodup ∧ wbk g u.objs = [] ∧ ∃ v' w' μ', (Builtin.append_ #[ty, ty] rt #[va, x]).run P w = .ok v' w' ∧ NxU P X lo g μ w u.objs [] w' μ' ∧ ∀ q, u.d = some q → RelV P w' lo μ' (SS X μ') q.2 v' := by
 unfold wdf at hq
 split at hq
 ·rename_i e t b e1 e2 t2 l he hgp hgd
  split at hq
  next src r hsrc hcast =>
   obtain ⟨et, hr⟩ := Ty.cast_spec hcast
   cases et
   have hr : r = l.getD i [] := hr
   subst hr
   split at hq
   next hc =>
    obtain ⟨rfl, hb0, hdp⟩ := hc
    obtain ⟨hle, hq⟩ := ev_g hq
    simp only [decide_eq_true_eq] at hle
    simp only [Tr.ev_l, Option.some.injEq] at hq
    subst hq
    obtain ⟨v', w', μ', k1, k2, k3⟩ := wzp (rt := rt) hT hm he hgp hgd hdp hb0 hle hsrc ha hx
    exact ⟨rfl, rfl, by simp [hdp], by simp [wbk, wkm, hgd], v', w', μ', k1, k2, fun q hq => by cases hq; exact k3⟩
   next => cases hq
  next => cases hq
 ·cases hq
def again (μ : Nat → Option MV) (o : Nat) (v : MV) (p : Nat) : Option MV := if p = o then some v else μ p
theorem wdg {o p : Nat} {v mv : MV} (h : p ≠ o) (hp : μ p = some mv) : again μ o v p = some mv := by simp [again, h, hp]
theorem wao {o : Nat} {v : MV} : again μ o v o = some v := by simp [again]
theorem wag {o p : Nat} {v mv : MV} (h : again μ o v p = some mv) : (p = o ∧ mv = v) ∨ (p ≠ o ∧ μ p = some mv) := by
 unfold again at h
 split at h
 ·cases h; exact .inl ⟨by assumption, rfl⟩
 ·exact .inr ⟨by assumption, h⟩
structure NxA (P : Program) (X : Nat → Prop) (lo : Nat → Prop) (μ : Nat → Option MV) (w : World) (o : Nat) (x : Ob) (w' : World) (mv : MV) : Prop where
 kept : Kept lo w w'
 data : ∀ b, b < w.heap.size → SS X μ b → SS X (again μ o mv) b ∧ w'.heap[b]? = w.heap[b]?
 ob : ObOK P w' lo (again μ o mv) (SS X (again μ o mv)) x mv
 roots : ∀ k, k ∈ mv.rs → (∃ mv0, μ o = some mv0 ∧ k ∈ mv0.rs) ∨ w.heap.size ≤ k
 same : ∀ k, k < w.heap.size → (∀ mv0, μ o = some mv0 → k ∉ mv0.rs) → w'.heap[k]? = w.heap[k]?
theorem NxA.dis [Tabs] (hm : Mem P X lo g μ w) {o : Nat} {x : Ob} {w' : World} {mv : MV} (h : NxA P X lo μ w o x w' mv) : ∀ p q mv1 mv2 k, again μ o mv p = some mv1 → again μ o mv q = some mv2 → k ∈ mv1.rs → k ∈ mv2.rs → p = q := by
 intro p q mv1 mv2 k h1 h2 h3 h4
 rcases wag h1 with ⟨e1, e2⟩ | ⟨hne, k1⟩ <;> rcases wag h2 with ⟨e3, e4⟩ | ⟨hne', k2⟩
 ·rw [e1, e3]
 ·rw [e2] at h3
  rcases h.roots k h3 with ⟨mv0, z1, z2⟩ | hge
  ·rw [e1]; exact hm.dis _ _ _ _ k z1 k2 z2 h4
  ·have := (hm.lt k2 h4).2; omega
 ·rw [e4] at h4
  rcases h.roots k h4 with ⟨mv0, z1, z2⟩ | hge
  ·rw [e3]; exact hm.dis _ _ _ _ k k1 z1 h3 z2
  ·have := (hm.lt k1 h3).2; omega
 ·exact hm.dis _ _ _ _ k k1 k2 h3 h4
theorem NxA.other [Tabs] (hm : Mem P X lo g μ w) {o : Nat} {x : Ob} {w' : World} {mv : MV} (h : NxA P X lo μ w o x w' mv) {p : Nat} {mv1 : MV} (hp : μ p = some mv1) (hne : p ≠ o) : ∀ k, k ∈ mv1.rs → w'.heap[k]? = w.heap[k]? := fun k hk =>
 h.same k (hm.lt hp hk).2 fun mv0 h0 hk0 => hne (hm.dis p o mv1 mv0 k hp h0 hk hk0)
theorem Rel.appd [Tabs] {s : St} (h : Rel P X lo N w0 s a w μ) {o : Nat} {x : Ob} {w' : World} {mv' : MV} (h2 : NxA P X lo μ w o x w' mv') :
  Rel P X lo N w0 { fr := s.fr.map (fun p => (p.1, wvk o .undef p.2)), ob := (o, x) :: (s.ob.filter fun p => !(Nat.beq p.1 o)).map fun p => (p.1, wcy o .undef p.2) } a w' (again μ o mv') := by
 have hμ' : ∀ p mv, p ≠ o → μ p = some mv → Go.Proofs.Ytnagpmhaddfgmaa.again μ o mv' p = some mv := fun p mv hne hp => wdg hne hp
 have hlow := h2.kept.block
 refine ⟨⟨h.mem.hX, fun b hb => Nat.lt_of_lt_of_le (h.mem.hlo b hb) h2.kept.size, fun p mv hp => ?_, h2.dis h.mem, h.mem.tab.step h2.kept.block⟩, fun i => ?_, h.bel.trans h2.kept, h.df, h.sz⟩
 ·rcases wag hp with ⟨rfl, rfl⟩ | ⟨hne, hp⟩
  ·exact ⟨x, by simp [St.g, look], h2.ob⟩
  ·obtain ⟨y, hy, hyo⟩ := h.mem.ob p mv hp
   refine ⟨wcy o .undef y, ?_, ?_⟩
   ·simp only [St.g, look, wal (Ne.symm hne), wap]
    rw [wau o s.ob p hne]
    simp only [St.g] at hy
    rw [hy]; rfl
   ·exact (wdo (d := .undef) h.mem.hlo hμ' (fun _ _ => .undef) (fun _ _ h => h) hyo).step h.mem.hlo (fun _ _ h => h) h2.data hlow (h2.other h.mem hp hne)
 ·simp only [St.slot, wap]
  have := wep (d := .undef) h.mem.hlo hμ' (fun _ _ => .undef) (fun _ _ h => h) (h.fr i)
  simp only [St.slot] at this
  cases hl : look s.fr i with
  | none => exact .undef
  | some v => rw [hl] at this; exact this.step (fun _ _ h => h) h.mem.hlo h2.data hlow
theorem Rel.newOb [Tabs] {s : St} (h : Rel P X lo N w0 s a w μ) {d : Nat} (hdN : N.has d) (hg : s.g d = none) {x : Ob} {v : Value} {w' : World} (hx : Nx P X lo s.g μ w (.arr d, [(d, x)]) v w') : ∃ μ', Rel P X lo N w0 { fr := (d, .arr d) :: s.fr, ob := (d, x) :: s.ob } (a.put (some d) v) w' μ' := by
 have hμ : ∀ p ∈ [(d, x)], μ p.1 = none := fun p hp => by
  simp only [List.mem_singleton] at hp
  subst hp
  cases hm : μ d with
  | none => rfl
  | some mv => obtain ⟨y, hy, _⟩ := h.mem.ob d mv hm; rw [hg] at hy; cases hy
 obtain ⟨μ', k1, k2⟩ := NxU.of h.mem hμ hx
 exact ⟨μ', h.upd (u := ⟨some (d, .arr d), none, [(d, x)]⟩) (by simp) rfl k1 rfl (fun d' hd' => by cases hd'; exact hdN) fun p hp => by cases hp; exact k2⟩
theorem wts [Tabs] (hT : waj P tt) {s s' : St} (h : Rel P X lo N w0 s a w μ) {ty d : Nat} {nv cv : AV} (hq : (wpa tt ty nv cv d s).ev = some s') (hdN : N.has d) {vn vc : Value} (hn : RelV P w lo μ (SS X μ) nv vn) (hc : RelV P w lo μ (SS X μ) cv vc) :
  ∃ v w' μ', (Instr.makeSlice ty vn vc).run P w = .ok v w' ∧ Rel P X lo N w0 s' (a.put (some d) v) w' μ' := by
 unfold wpa at hq
 split at hq
 ·rename_i k n k' c e te b hty hgd
  split at hq
  next e2 t b2 hte =>
   split at hq
   next hcnd =>
    obtain ⟨hb, hq⟩ := ev_g hq
    simp only [Bool.and_eq_true, decide_eq_true_eq] at hb
    obtain ⟨⟨hb1, hb2⟩, hb3⟩ := hb
    have e1 := hn.int
    have e2' := hc.int
    subst e1; subst e2'
    have hd1 := hT ty
    have hd2 := hT e
    rw [hty] at hd1
    rw [hte] at hd2
    obtain ⟨hu, ⟨i, z, h1, h2, h3, h4, h5⟩, _⟩ := hd1
    obtain ⟨_, _, i', h6, h7, h8⟩ := hd2
    rw [h1] at h6
    cases h6
    rw [h4] at h8
    cases h8
    split at hq
    next =>
     simp only [Tr.ev_l, Option.some.injEq] at hq
     subst hq
     exact mkD (t := .slice (.slice _)) h hgd hdN hu h1 h7 h3 h4 rfl n c hb1 hb2 hb3 hcnd.2
    next =>
     simp only [Tr.ev_l, Option.some.injEq] at hq
     subst hq
     exact mk h hgd hdN hu h1 h7 h3 h4 n c hb1 hb2 hb3 hcnd.2
   next => cases hq
  next t2 fs hte =>
   split at hq
   next hcnd =>
    obtain ⟨hb, hq⟩ := ev_g hq
    simp only [Bool.and_eq_true, decide_eq_true_eq] at hb
    obtain ⟨⟨hb1, hb2⟩, hb3⟩ := hb
    have e1 := hn.int
    have e2' := hc.int
    subst e1; subst e2'
    have hd1 := hT ty
    rw [hty] at hd1
    obtain ⟨hu, ⟨i, z, h1, h2, h3, h4, h5⟩, _⟩ := hd1
    simp only [Tr.ev_l, Option.some.injEq] at hq
    subst hq
    exact mkD h hgd hdN hu h1 h2 h3 h4 h5 n c hb1 hb2 hb3 hcnd
   next => cases hq
  next => cases hq
 ·cases hq
where
 mk {s : St} {ty d e e2 b : Nat} {t : Ty} {i : TypeInfo} {k k' : IntKind} (h : Rel P X lo N w0 s a w μ) (hgd : s.g d = none) (hdN : N.has d) (hu : P.underlying ty = some (.slice e)) (h1 : P.info? e = some i) (h7 : i.size = 1) (h3 : i.bytes = b) (h4 : i.zero = some (.slice none 0 0))
   (n c : Int) (hb1 : 0 ≤ n) (hb2 : n ≤ c) (hb3 : (b : Int) * c ≤ 281474976710656) (hb0 : 0 < b) :
   ∃ v w' μ', (Instr.makeSlice ty (.int k n) (.int k' c)).run P w = .ok v w' ∧ Rel P X lo N w0 { fr := (d, .arr d) :: s.fr, ob := (d, .rows e e2 t (List.replicate n.toNat []) none) :: s.ob } (a.put (some d) v) w' μ' := by
  have hc48 : c ≤ 281474976710656 := by
   have h0 : (1 : Int) * c ≤ (b : Int) * c := Int.mul_le_mul_of_nonneg_right (by omega) (by omega)
   omega
  have hrun := run_make (P := P) w ty e i (.slice none 0 0) hu h1 h4 k k' n c hb1 hb2 (by rw [h3]; exact hb3) (by omega)
  rw [h7] at hrun
  have hcell : ∀ x ∈ (madeCells (Value.slice none 0 0).cells (Int.toNat c * 1)).toList, x = Value.slice none 0 0 := fun x hx => by
   simp only [madeCells, Array.toList_map, List.mem_map] at hx
   obtain ⟨j, _, rfl⟩ := hx
   simp [Value.cells, Nat.mod_one]
  have hd0 : μ d = none := by
   cases hm : μ d with
   | none => rfl
   | some mv => obtain ⟨y, hy, _⟩ := h.mem.ob d mv hm; rw [hgd] at hy; cases hy
  have hx := whb (e := e) (e2 := e2) h.mem (d := d) (t := t) (l := List.replicate (Int.toNat n) []) (h := none) (cur := madeCells (Value.slice none 0 0).cells (Int.toNat c * 1)) (cap := Int.toNat c) hd0
   (by simp [madeCells]) (by simp; omega) (by unfold maxLen; omega) (fun x hx => ⟨_, _, _, hcell x (List.mem_of_mem_take hx)⟩)
   (fun j x r _ hx hl => ⟨hcell x (List.mem_of_mem_take (List.mem_of_getElem? hx)), by
    have := List.mem_of_getElem? hl
    exact (List.mem_replicate.1 this).2⟩) (fun i p hi => by cases hi)
  rw [List.length_replicate] at hx
  obtain ⟨μ', k1⟩ := h.newOb hdN hgd hx
  exact ⟨_, _, μ', hrun, k1⟩
 mkD {s : St} {ty d e b : Nat} {t : Ty} {i : TypeInfo} {z : Value} {k k' : IntKind} (h : Rel P X lo N w0 s a w μ) (hgd : s.g d = none) (hdN : N.has d) (hu : P.underlying ty = some (.slice e)) (h1 : P.info? e = some i) (h2 : i.size = t.size) (h3 : i.bytes = b) (h4 : i.zero = some z) (h5 : isZ t z.cells.toList = true)
   (n c : Int) (hb1 : 0 ≤ n) (hb2 : n ≤ c) (hb3 : (b : Int) * c ≤ 281474976710656) (hb0 : 0 < b) :
   ∃ v w' μ', (Instr.makeSlice ty (.int k n) (.int k' c)).run P w = .ok v w' ∧ Rel P X lo N w0 { fr := (d, .arr d) :: s.fr, ob := (d, .deep e t (List.replicate n.toNat t.dflt)) :: s.ob } (a.put (some d) v) w' μ' := by
  have hc48 : c ≤ 281474976710656 := by
   have h0 : (1 : Int) * c ≤ (b : Int) * c := Int.mul_le_mul_of_nonneg_right (by omega) (by omega)
   omega
  have hrun := run_make (P := P) w ty e i z hu h1 h4 k k' n c hb1 hb2 (by rw [h3]; exact hb3) (by omega)
  rw [h2] at hrun
  have hd0 : μ d = none := by
   cases hm : μ d with
   | none => rfl
   | some mv => obtain ⟨y, hy, _⟩ := h.mem.ob d mv hm; rw [hgd] at hy; cases hy
  have hx := wace (e := e) h.mem (d := d) (t := t) (n := Int.toNat n) (cur := madeCells z.cells (Int.toNat c * t.size)) (cap := Int.toNat c) hd0
   (size_madeCells _ _) (by omega) (by unfold maxLen; omega) fun _ _ => wgx h5 _ _ (by omega)
  obtain ⟨μ', k1⟩ := h.newOb hdN hgd hx
  exact ⟨_, _, μ', hrun, k1⟩
theorem wrd [Tabs] (hT : waj P tt) {s s' : St} (h : Rel P X lo N w0 s a w μ) {ty n d : Nat} {ps : List (Nat × AV)} (hq : (wko tt ty n ps d s).ev = some s') (hdN : N.has d) {qs : Array (Nat × Value)} (hqs : qs.toList.map (·.1) = ps.map (·.1))
  (hr : ∀ (j : Nat) (p : Nat × AV), ps[j]? = some p → ∃ q : Nat × Value, qs.toList[j]? = some q ∧ RelV P w lo μ (SS X μ) p.2 q.2) :
  ∃ v w' μ', (Instr.buildSlice ty n qs).run P w = .ok v w' ∧ Rel P X lo N w0 s' (a.put (some d) v) w' μ' := by
 have free : s.g d = none → μ d = none := fun hgd => by
  cases hm : μ d with
  | none => rfl
  | some mv => obtain ⟨y, hy, _⟩ := h.mem.ob d mv hm; rw [hgd] at hy; cases hy
 unfold wko at hq
 split at hq
 ·rename_i e te b hty hgd
  split at hq
  next e2 t b2 hte =>
   split at hq
   next hcnd =>
    simp only [Tr.ev_l, Option.some.injEq] at hq
    subst hq
    have hd1 := hT ty
    rw [hty] at hd1
    obtain ⟨hu, ⟨i, z, h1, h2, h3, h4, h5⟩, _⟩ := hd1
    have hqe : qs = #[] := by
     apply Array.ext'
     have := congrArg List.length hqs
     simpa using this
    subst hqe
    have hx := whb (e := e) (e2 := e2) h.mem (d := d) (t := t) (l := []) (h := none) (cur := #[]) (cap := 0) (free hgd) rfl (Nat.le_refl _) (by unfold maxLen; omega) (fun x hx => by simp at hx) (fun j x r _ hx => by simp at hx) (fun i p hi => by cases hi)
    obtain ⟨μ', k1⟩ := h.newOb hdN hgd hx
    refine ⟨_, _, μ', ?_, k1⟩
    simp [Instr.buildSlice, run_underlying hu, sizeOf, typeInfo, h1, h2, newRow, Instr.fill, Array.range_zero']
   next => cases hq
  next => cases hq
 ·rename_i e te b p hty hgd
  split at hq
  next e2 t b2 e3 t3 lp hte hgp =>
   split at hq
   next hcnd =>
    simp only [Tr.ev_l, Option.some.injEq] at hq
    subst hq
    have hd1 := hT ty
    rw [hty] at hd1
    obtain ⟨hu, ⟨i, z, h1, h2, h3, h4, h5⟩, _⟩ := hd1
    obtain ⟨q, hq1, hq2⟩ := hr 0 (0, .arr p) rfl
    have hqe : qs = #[q] := by
     apply Array.ext'
     have hl := congrArg List.length hqs
     simp only [List.length_map, List.length_cons, List.length_nil] at hl
     match hqq : qs.toList, hl with
     | [y], _ => rw [hqq] at hq1; simp at hq1; subst hq1; rfl
    have hq0 : q.1 = 0 := by
     rw [hqe] at hqs
     simpa using hqs
    subst hqe
    obtain ⟨q0, x⟩ := q
    simp only at hq0 hq2
    subst hq0
    cases hq2 with
    | @arr _ _ a0 n0 c0 rp hp0 hμp =>
     have hx := whb (e := e) (e2 := e2) h.mem (d := d) (t := t) (l := [[]]) (h := some (0, some p)) (cur := #[.slice a0 n0 c0]) (cap := 1) (free hgd) rfl (Nat.le_refl _) (by unfold maxLen; omega)
      (fun x hx => by simp at hx; exact ⟨_, _, _, hx⟩) (fun j x r hj hx hl => by
       have hj0 : j ≠ 0 := hj 0 (some p) rfl
       cases j with
       | zero => exact absurd rfl hj0
       | succ j => simp at hl) (fun i p' hi => by cases hi; exact ⟨_, rp, hp0, rfl, hμp⟩)
     obtain ⟨μ', k1⟩ := h.newOb hdN hgd hx
     refine ⟨_, _, μ', ?_, k1⟩
     have hsz : i.size = 1 := h2.trans hcnd.1
     have hzc : z.cells.size = 1 := by
      have := wbm h5
      simpa [hcnd.1] using this
     have hfill : Instr.fill (fun i => some (i, 1)) (Array.map (fun x => z.cells[x % z.cells.size]!) (Array.range 1)) [(0, Value.slice a0 n0 c0)] = some #[Value.slice a0 n0 c0] := by
      have key : ∀ (A : Array Value) (v : Value), A.size = 1 → A.setIfInBounds 0 v = #[v] := fun A v h => by
       obtain ⟨l⟩ := A
       match l, h with
       | [y], _ => rfl
      simp [Instr.fill, Value.cells]
      exact key _ _ (by simp)
     simp [Instr.buildSlice, run_underlying hu, sizeOf, typeInfo, zeroValue, h1, hsz, h4, hfill, newRow]
   next => cases hq
  next => cases hq
 ·cases hq
theorem Rel.pullG [Tabs] {s : St} (h : Rel P X lo N w0 s a w μ) {p d k e2 : Nat} {t : Ty} {r : List t.I} {x : Value} {mv : MV} (hμp : μ p = some mv) (hgd : s.g d = none) (hdp : d ≠ p) (hx : a.tmps.getD k undef = x)
  (hrs : ∀ b, wu x = some b → b ∈ mv.rs) (hown : ∃ xs, w.ownsRow 0 e2 t.size x r.length xs ∧ RepL (SS X μ) w t r xs) (hxs : ∃ a n c, x = .slice a n c) :
  ∃ μ', Rel P X lo N w0 { fr := (k, .arr d) :: (s.swap p .undef []).fr, ob := (d, .arr e2 t r) :: (s.swap p .undef []).ob } a w μ' := by
 have hμd : μ d = none := by
  cases hm : μ d with
  | none => rfl
  | some mv' => obtain ⟨y, hy, _⟩ := h.mem.ob d mv' hm; rw [hgd] at hy; cases hy
 obtain ⟨xs, k2, k3⟩ := hown
 obtain ⟨a0, n0, c0, hxe⟩ := hxs
 have hinv : ∀ {q mv'}, again (without μ p) d ⟨x, (wu x).toList, []⟩ q = some mv' → (q = d ∧ mv' = ⟨x, (wu x).toList, []⟩) ∨ (q ≠ d ∧ q ≠ p ∧ μ q = some mv') := fun {q mv'} hq => by
  rcases wag hq with ⟨rfl, rfl⟩ | ⟨hne, hq⟩
  ·exact .inl ⟨rfl, rfl⟩
  ·obtain ⟨h1, h2⟩ := wbn hq
   exact .inr ⟨hne, h1, h2⟩
 have hμ : ∀ q mv', q ≠ p → μ q = some mv' → again (without μ p) d ⟨x, (wu x).toList, []⟩ q = some mv' := fun q mv' hne hq => wdg (fun e => by rw [e, hμd] at hq; cases hq) (weg hne hq)
 have hS : ∀ b, b < w.heap.size → SS X μ b → SS X (again (without μ p) d ⟨x, (wu x).toList, []⟩) b := fun b _ hs => ⟨hs.1, fun q mv' hq hb => by
  rcases hinv hq with ⟨rfl, rfl⟩ | ⟨_, _, h0⟩
  ·exact hs.2 p mv hμp (hrs b (by simpa using hb))
  ·exact hs.2 q mv' h0 hb⟩
 refine ⟨again (without μ p) d ⟨x, (wu x).toList, []⟩, ⟨h.mem.hX, h.mem.hlo, fun q mv' hq => ?_, fun q q' mv1 mv2 b h1 h2 h3 h4 => ?_, h.mem.tab⟩, fun j => ?_, h.bel, h.df, h.sz⟩
 ·rcases hinv hq with ⟨rfl, rfl⟩ | ⟨hne, hnp, h0⟩
  ·exact ⟨.arr e2 t r, by simp [St.g, look], ⟨rfl, rfl⟩, fun b hb => (h.mem.lt hμp (hrs b hb)).1, xs, k2, k3.step fun b hb hs => ⟨hS b hb hs, rfl⟩⟩
  ·obtain ⟨y, hy, hyo⟩ := h.mem.ob q mv' h0
   refine ⟨wcy p .undef y, ?_, wdo h.mem.hlo hμ (fun _ _ => .undef) hS hyo⟩
   simp only [St.g, St.swap, List.nil_append, look, wal (Ne.symm hne), wap]
   rw [wau p s.ob q hnp]
   simp only [St.g] at hy
   rw [hy]
   rfl
 ·rcases hinv h1 with ⟨e1, rfl⟩ | ⟨n1, p1, g1⟩ <;> rcases hinv h2 with ⟨e2', rfl⟩ | ⟨n2, p2, g2⟩
  ·rw [e1, e2']
  ·exact absurd (h.mem.dis p q' mv mv2 b hμp g2 (hrs b (by simpa using h3)) h4).symm p2
  ·exact absurd (h.mem.dis q p mv1 mv b g1 hμp h3 (hrs b (by simpa using h4))) p1
  ·exact h.mem.dis q q' mv1 mv2 b g1 g2 h3 h4
 ·simp only [St.slot, look]
  by_cases hjk : k = j
  ·subst hjk
   rw [wam, hx, hxe]
   exact .arr (rs := (wu (Value.slice a0 n0 c0)).toList) (hs := []) (by rw [wao])
  ·rw [wal hjk]
   simp only [St.swap, wap]
   have := wep (d := .undef) h.mem.hlo hμ (fun _ _ => .undef) hS (h.fr j)
   simp only [St.slot] at this
   cases hl : look s.fr j with
   | none => exact .undef
   | some v => rw [hl] at this; exact this
theorem Rel.pull [Tabs] {s : St} (h : Rel P X lo N w0 s a w μ) (k d : Nat) : ∃ μ', Rel P X lo N w0 (s.pull k d) a w μ' := by
 unfold St.pull
 split
 next p i hk =>
  have hv := h.fr k
  rw [hk] at hv
  generalize hy : a.tmps.getD k undef = y at hv
  split
  next kp e e2 t ix l hgp hgd =>
   cases hv with
   | @row _ _ _ v0 rs hds a0 m0 c0 hμ hx =>
    obtain ⟨_, h1, h2⟩ := h.mem.rowAtP hμ hx hgp
    exact h.pullG hμ hgd (fun e => by rw [e, hgp] at hgd; cases hgd) hy h1 h2 ⟨_, _, _, rfl⟩
  next e e2 t l hgp hgd =>
   cases hv with
   | @row _ _ _ v0 rs hds a0 m0 c0 hμ hx =>
    obtain ⟨hi, h2⟩ := h.mem.rowAt hμ hx hgp
    obtain ⟨y, hy', hob⟩ := h.mem.ob _ _ hμ
    rw [hgp] at hy'
    cases hy'
    obtain ⟨h1, _⟩ := hob.1.row i _ (l.getD i []) (fun j k hk => by cases hk) hx (by simp [List.getD_eq_getElem?_getD, hi])
    exact h.pullG hμ hgd (fun e => by rw [e, hgp] at hgd; cases hgd) hy (fun b hb => (h1 b hb).1) h2 ⟨_, _, _, rfl⟩
  next => exact ⟨μ, h⟩
 next => exact ⟨μ, h⟩
end
end Go.Proofs.Ytnagpmhaddfgmaa
