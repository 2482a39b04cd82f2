/-
 One operation; the operations of a region in the order of the text.
-/
import Derived.Test.YtnagpmhaddfgmaaB36
import Derived.Lib.AppendZeros
namespace Go.Proofs.Ytnagpmhaddfgmaa
open Go.RowKit (Below)
section
variable {P : Program} {tt : Nat → TD} {w : World} {lo : Nat → Prop} {N : Par} {μ : Nat → Option MV} {S : Nat → Prop} {X : Nat → Prop} {g : Nat → Option Ob} {a : Act} {E : Env} {w0 : World}
theorem wof [Tabs] (hT : waj P tt) (hm : Mem P X lo g μ w) {ty rt e b : Nat} {t : Ty} (he : tt ty = .sl e t b) {o : Nat} {l src : List t.I} (hg : g o = some (.arr e t l)) (hb0 : 0 < b) (hle : (l.length + src.length) * b ≤ 140737488355328)
  {xv : AV} (hsrc : wjo g t xv = some src) {va x : Value} (ha : RelV P w lo μ (SS X μ) (.arr o) va) (hx : RelV P w lo μ (SS X μ) xv x) :
  ∃ v' w' mv', (Builtin.append_ #[ty, ty] rt #[va, x]).run P w = .ok v' w' ∧ NxA P X lo μ w o (.arr e t (l ++ src)) w' mv' ∧ RelV P w' lo (again μ o mv') (SS X (again μ o mv')) (.arr o) v' := by
 have hd := hT ty
 rw [he] at hd
 obtain ⟨hu, ⟨i, z, hi, hs, hby, hz, hzz⟩, _⟩ := hd
 have hzc : z.cells.size = t.size := by simpa using wbm hzz
 obtain ⟨ax, c, news, rfl, hnr, hn0, hnews⟩ := wjx hm hsrc hx
 have hnl := hnr.len
 cases ha with
 | @arr _ _ a0 n0 c0 rs _ hμ =>
  obtain ⟨y, hy, hob⟩ := hm.ob _ _ hμ
  rw [hg] at hy
  cases hy
  obtain ⟨⟨hhs, hrs⟩, hnl0, xs, hown, hrep⟩ := hob
  simp only at hrs hnl0 hown
  obtain ⟨v', w', h1, h2, h3, h4, h5, h6, h7, h8, a', n', c', hv'⟩ := wcm (rt := rt) (c := c) hu hi hs hby hz hzc hown (m := src.length) (by rw [hnl]) hn0 hnews hnr.one hle hb0
  have hroot : ∀ k, wu v' = some k → (∃ mv0, μ o = some mv0 ∧ k ∈ mv0.rs) ∨ w.heap.size ≤ k := fun k hk => (h8 k hk).imp (fun h => ⟨_, hμ, by rw [hrs, h]; simp⟩) id
  have hsame : ∀ k, k < w.heap.size → (∀ mv0, μ o = some mv0 → k ∉ mv0.rs) → w'.heap[k]? = w.heap[k]? := fun k hk hn => h7 k hk fun e => hn _ hμ (by rw [hrs, e]; simp)
  have hdata : ∀ k, k < w.heap.size → SS X μ k → SS X (again μ o ⟨v', (wu v').toList, []⟩) k ∧ w'.heap[k]? = w.heap[k]? := fun k hk hS => ⟨⟨hS.1, fun p mv hp hkm => by
   rcases wag hp with ⟨rfl, rfl⟩ | ⟨_, hp⟩
   ·have hkm : wu v' = some k := by simpa using hkm
    rcases hroot k hkm with ⟨mv0, e1, e2⟩ | h
    ·exact hS.2 _ mv0 e1 e2
    ·omega
   ·exact hS.2 p mv hp hkm⟩, hsame k hk fun mv0 h => hS.2 o mv0 h⟩
  have hkept : Kept lo w w' := ⟨h3, h4, h5, h6, fun k hk => hsame k (hm.hlo k hk) fun mv0 h hkm => (hm.lt h hkm).1 hk⟩
  refine ⟨v', w', ⟨v', (wu v').toList, []⟩, h1, ⟨hkept, hdata, ⟨⟨rfl, rfl⟩, fun k hk hl => ?_, xs ++ news, ?_, ?_⟩, fun k hk => hroot k (by simpa using hk), hsame⟩, ?_⟩
  ·rcases hroot k hk with ⟨mv0, e1, e2⟩ | h
   ·exact (hm.lt e1 e2).1 hl
   ·have := hm.hlo k hl; omega
  ·rw [List.length_append]; exact h2
  ·exact (hrep.step fun k hk hS => hdata k hk hS).append (hnr.step fun k hk hS => hdata k hk hS)
  ·rw [hv']
   exact .arr (rs := (wu v').toList) (by rw [wao, hv'])
theorem append_nil [Tabs] (hT : waj P tt) (hm : Mem P X lo g μ w) {ty rt e b d : Nat} {t : Ty} (he : tt ty = .sl e t b) {src : List t.I} (hd0 : g d = none) (hb0 : 0 < b) (hle : src.length * b ≤ 140737488355328)
  {xv : AV} (hsrc : wjo g t xv = some src) {va x : Value} (ha : RelV P w lo μ (SS X μ) .nilsl va) (hx : RelV P w lo μ (SS X μ) xv x) :
  ∃ v' w' μ', (Builtin.append_ #[ty, ty] rt #[va, x]).run P w = .ok v' w' ∧ NxU P X lo g μ w [(d, .arr e t src)] [] w' μ' ∧ RelV P w' lo μ' (SS X μ') (.arr d) v' := by
 have hd := hT ty
 rw [he] at hd
 obtain ⟨hu, ⟨i, z, hi, hs, hby, hz, hzz⟩, _⟩ := hd
 have hzc : z.cells.size = t.size := by simpa using wbm hzz
 obtain ⟨ax, c, news, rfl, hnr, hn0, hnews⟩ := wjx hm hsrc hx
 have hnl := hnr.len
 cases ha
 have hμ0 : μ d = none := by
  cases hm' : μ d with
  | none => rfl
  | some mv => obtain ⟨y, hy, _⟩ := hm.ob d mv hm'; rw [hd0] at hy; cases hy
 obtain ⟨v', w', h1, h2, h3, h4, h5, h6, h7, h8, a', n', c', hv'⟩ := wcm (rt := rt) (c := c) hu hi hs hby hz hzc (World.ownsRow_nil w 0 e t.size) (m := src.length) (by rw [hnl]) hn0 hnews hnr.one (by simpa using hle) hb0
 have hnew : ∀ k, wu v' = some k → w.heap.size ≤ k := fun k hk => (h8 k hk).elim (fun h => by simp [wu] at h) id
 have hsame : ∀ k, k < w.heap.size → w'.heap[k]? = w.heap[k]? := fun k hk => h7 k hk (by simp [wu])
 have hkept : Kept lo w w' := ⟨h3, h4, h5, h6, fun k hk => hsame k (hm.hlo k hk)⟩
 have hdata : ∀ k, k < w.heap.size → SS X μ k → SS X (again μ d ⟨v', (wu v').toList, []⟩) k ∧ w'.heap[k]? = w.heap[k]? := fun k hk hS => ⟨⟨hS.1, fun p mv hp hkm => by
  rcases wag hp with ⟨rfl, rfl⟩ | ⟨_, hp⟩
  ·have hkm : wu v' = some k := by simpa using hkm
   have := hnew k hkm
   omega
  ·exact hS.2 p mv hp hkm⟩, hsame k hk⟩
 have hs' : ∀ p mv, μ p = some mv → again μ d ⟨v', (wu v').toList, []⟩ p = some mv := fun p mv hp => wdg (fun e => by rw [e, hμ0] at hp; cases hp) hp
 refine ⟨v', w', again μ d ⟨v', (wu v').toList, []⟩, h1, ⟨⟨fun p mv hp => ⟨mv.rs, mv.hs, hs' p mv hp, fun _ => Ext.refl _⟩, fun _ _ hk => (by cases hk)⟩, fun p mv hp => ?_, fun p mv k hp hk => ?_, hkept, fun k hk _ => hsame k hk, fun g' k1 k2 => ⟨hm.hX, fun b hb => Nat.lt_of_lt_of_le (hm.hlo b hb) h6, fun p mv hp => ?_, fun p q mv1 mv2 k hp hq hk1 hk2 => ?_, hm.tab.step hkept.block⟩⟩, ?_⟩
 ·rcases wag hp with ⟨rfl, rfl⟩ | ⟨_, hp⟩
  ·exact .inr ⟨_, List.mem_cons_self, rfl⟩
  ·exact .inl ⟨mv, hp⟩
 ·rcases wag hp with ⟨rfl, rfl⟩ | ⟨_, hp⟩
  ·exact .inl (hnew k (by simpa using hk))
  ·exact .inr ⟨p, mv, hp, hk⟩
 ·rcases wag hp with ⟨rfl, rfl⟩ | ⟨hne, hp⟩
  ·refine ⟨_, k1 (p, .arr e t src) (by simp), ⟨rfl, rfl⟩, fun k hk hl => ?_, news, ?_, hnr.step fun k hk hS => hdata k hk hS⟩
   ·have := hnew k hk
    have := hm.hlo k hl
    omega
   ·simpa using h2
  ·obtain ⟨y, hy, hyo⟩ := hm.ob p mv hp
   have hne' : ∀ q ∈ [(d, Ob.arr e t src)], q.1 ≠ p := fun q hq e => by
    simp only [List.mem_singleton] at hq
    subst hq
    exact hne e.symm
   exact ⟨y, by rw [k2 p mv hp hne', hy]; rfl, hyo.step hm.hlo hs' hdata hkept.block fun k hk => hsame k (hm.lt hp hk).2⟩
 ·rcases wag hp with ⟨e1, e2⟩ | ⟨hne, z1⟩ <;> rcases wag hq with ⟨e3, e4⟩ | ⟨hne', z2⟩
  ·rw [e1, e3]
  ·rw [e2] at hk1
   have := hnew k (by simpa using hk1)
   have := (hm.lt z2 hk2).2
   omega
  ·rw [e4] at hk2
   have := hnew k (by simpa using hk2)
   have := (hm.lt z1 hk1).2
   omega
  ·exact hm.dis _ _ _ _ k z1 z2 hk1 hk2
 ·rw [hv']
  exact .arr (rs := (wu v').toList) (by rw [wao, hv'])
theorem wzr [Tabs] (hT : waj P tt) {s s' : St} (h : Rel P X lo N w0 s a w μ) {d ty rt : Nat} (hdN : N.has d) {av xv : AV} (hq : (wta tt d ty av xv s).ev = some s') {va x : Value} (ha : RelV P w lo μ (SS X μ) av va) (hx : RelV P w lo μ (SS X μ) xv x) :
  ∃ v' w' μ', (Builtin.append_ #[ty, ty] rt #[va, x]).run P w = .ok v' w' ∧ Rel P X lo N w0 s' (a.put (some d) v') w' μ' := by
 unfold wta at hq
 split at hq
 ·rename_i p i
  rw [Tr.ev_bind] at hq
  obtain ⟨u, hu, hq⟩ := Option.bind_eq_some_iff.1 hq
  simp only [Tr.ev_l, Option.some.injEq] at hq
  subst hq
  obtain ⟨k1, k2, k3, _, v', w', μ', k4, k5, k6⟩ := wlc (rt := rt) hT h.mem hu ha hx
  exact ⟨v', w', μ', k4, h.upd k3 k1 k5 k2 (fun d' hd' => by cases hd'; exact hdN) k6⟩
 split at hq
 ·rename_i e t b he
  split at hq
  next src hsrc =>
   split at hq
   ·rename_i o _
    split at hq
    next e' t' l hg =>
     split at hq
     next l' hcast =>
      obtain ⟨et, hl'⟩ := Ty.cast_spec hcast
      cases et
      have hl' : l' = l := hl'
      subst hl'
      split at hq
      next hee =>
       obtain ⟨rfl, hb0⟩ := hee
       obtain ⟨hle, hq⟩ := ev_g hq
       simp only [decide_eq_true_eq] at hle
       simp only [Tr.ev_l, Option.some.injEq] at hq
       subst hq
       obtain ⟨v', w', mv', h1, h2, h3⟩ := wof (rt := rt) hT h.mem he hg hb0 hle hsrc ha hx
       refine ⟨v', w', again μ o mv', h1, ?_⟩
       have hrel := h.appd h2
       exact hrel.put hdN h3
      next => cases hq
     next => cases hq
    next => cases hq
   ·split at hq
    next hg =>
     split at hq
     next hb0 =>
      obtain ⟨hle, hq⟩ := ev_g hq
      simp only [decide_eq_true_eq] at hle
      simp only [Tr.ev_l, Option.some.injEq] at hq
      subst hq
      obtain ⟨v', w', μ', h1, h2, h3⟩ := append_nil (rt := rt) hT h.mem he hg hb0 hle hsrc ha hx
      exact ⟨v', w', μ', h1, h.upd (u := ⟨some (d, .arr d), none, [(d, .arr e t src)]⟩) (by simp) rfl h2 rfl (fun d' hd' => by cases hd'; exact hdN) fun p hp => by cases hp; exact h3⟩
     next => cases hq
    next => cases hq
   ·cases hq
  next => cases hq
 ·cases hq
theorem wij {g : Nat → Option Ob} {l : List (Nat × Ob)} (h : fresh g l = true) : (∀ p ∈ l, g p.1 = none) ∧ (l.map (·.1)).Nodup := by
 simp only [fresh, Bool.and_eq_true, List.all_eq_true, decide_eq_true_eq] at h
 refine ⟨fun p hp => ?_, h.2⟩
 have := h.1 p hp
 split at this
 ·assumption
 ·cases this
theorem wwb [Tabs] (hm : Mem P X lo g μ w) {o : Nat} (h : g o = none) : μ o = none := by
 cases hμ : μ o with
 | none => rfl
 | some mv => obtain ⟨y, hy, _⟩ := hm.ob _ mv hμ; rw [h] at hy; cases hy
theorem wach [Tabs] {ρ : List Nat} {d : Nat} {res : List AV × List (Nat × Ob)} (hn : ρ.Nodup) (hok : wabg ρ.length res = true) (hf : fresh g (wdx ρ d res).1.2 = true) (hρ : ∀ o ∈ ρ, ∃ x, g o = some x) :
  (((wdx ρ d res).1.2 ++ (wdx ρ d res).2).map (·.1)).Nodup := by
 obtain ⟨h1, h2⟩ := wij hf
 simp only [wabg, Bool.and_eq_true, List.all_eq_true, decide_eq_true_eq] at hok
 obtain ⟨⟨⟨hok1, hok2⟩, _⟩, _⟩ := hok
 have hin : ∀ q ∈ res.2, 64 ≤ q.1 → ∃ o, nth ρ (q.1 - 64) = some o ∧ rn ρ d q.1 = o := fun q hq hge => by
  have hl := (hok1 q hq).1
  have hx : nth ρ (q.1 - 64) = some (ρ[q.1 - 64]'(by omega)) := by rw [wo]; simp
  exact ⟨_, hx, by unfold rn; rw [if_neg (by omega), hx]; rfl⟩
 rw [List.map_append]
 refine List.nodup_append.2 ⟨h2, ?_, fun o ho p hp e => ?_⟩
 ·have : ∀ l : List (Nat × Ob), (∀ q ∈ l, q ∈ res.2 ∧ 64 ≤ q.1) → (l.map (·.1)).Nodup → ((l.map fun p => (rn ρ d p.1, wow ρ d p.2)).map (·.1)).Nodup := by
   intro l
   induction l with
   | nil => intro _ _; exact List.nodup_nil
   | cons q l ih =>
    intro hl hnd
    simp only [List.map_cons, List.nodup_cons] at hnd ⊢
    refine ⟨fun hmem => ?_, ih (fun q hq => hl q (List.mem_cons_of_mem _ hq)) hnd.2⟩
    rw [List.map_map] at hmem
    obtain ⟨q', hq', e⟩ := List.mem_map.1 hmem
    obtain ⟨o1, k1, k2⟩ := hin q (hl q (List.mem_cons_self)).1 (hl q (List.mem_cons_self)).2
    obtain ⟨o2, k3, k4⟩ := hin q' (hl q' (List.mem_cons_of_mem _ hq')).1 (hl q' (List.mem_cons_of_mem _ hq')).2
    simp only [Function.comp_apply] at e
    rw [k2, k4] at e
    subst e
    have e1 := wem (k := 64) hn k1
    have e2 := wem (k := 64) hn k3
    rw [e1] at e2
    have := (hl q (List.mem_cons_self)).2
    have := (hl q' (List.mem_cons_of_mem _ hq')).2
    have e3 : q.1 = q'.1 := by
     have : 64 + (q.1 - 64) = 64 + (q'.1 - 64) := Option.some.inj e2
     omega
    exact hnd.1 (by rw [e3]; exact List.mem_map_of_mem hq')
  simp only [wdx]
  refine this _ (fun q hq => ?_) ?_
  ·obtain ⟨k1, k2⟩ := List.mem_filter.1 hq
   exact ⟨k1, by simpa using k2⟩
  ·exact List.Sublist.nodup (List.Sublist.map _ List.filter_sublist) hok2
 ·subst e
  obtain ⟨q, hq, rfl⟩ := List.mem_map.1 ho
  obtain ⟨q', hq', e⟩ := List.mem_map.1 hp
  obtain ⟨q2, hq2, rfl⟩ := List.mem_map.1 hq'
  obtain ⟨k1, k2⟩ := List.mem_filter.1 hq2
  obtain ⟨o, k3, k4⟩ := hin q2 k1 (by simpa using k2)
  simp only at e
  rw [k4] at e
  rw [wo] at k3
  obtain ⟨x, hx⟩ := hρ o (List.mem_of_getElem? k3)
  have := h1 q hq
  rw [← e, hx] at this
  cases this
theorem waci [Tabs] {d : Nat} {h : AV} {args : List AV} {q : QR × List (Nat × Ob)} (hq : (wkj E g d h args).ev = some q) (hf : fresh g q.1.2 = true) : ((q.1.2 ++ q.2).map (·.1)).Nodup := by
 unfold wkj at hq
 split at hq
 ·split at hq
  next ρ hρ =>
   split at hq
   next hchk =>
    simp only [Bool.and_eq_true, decide_eq_true_eq, List.all_eq_true] at hchk
    split at hq
    next cr hcr =>
     simp only [Tr.ev_c] at hq
     cases hx0 : cr.x with
     | none => rw [hx0] at hq; cases hq
     | some r =>
      rw [hx0] at hq
      simp only [Option.bind_some] at hq
      rw [Tr.ev_bind, cr.spok r, Option.bind_some] at hq
      obtain ⟨hc1, hq⟩ := ev_g hq
      simp only [Tr.ev_l, Option.some.injEq] at hq
      subst hq
      simp only [Bool.and_eq_true] at hc1
      refine wach hchk.1.2 hc1.1 hf fun o ho => ?_
      have := hchk.2 o ho
      unfold wqq at this
      split at this
      ·exact ⟨_, by assumption⟩
      ·exact ⟨_, by assumption⟩
      ·cases this
      ·exact ⟨_, by assumption⟩
      ·exact ⟨_, by assumption⟩
      ·cases this
      ·exact ⟨_, by assumption⟩
      ·cases this
    next => cases hq
   next => cases hq
  next => cases hq
 ·split at hq
  next =>
   split at hq
   next =>
    simp only [Tr.ev_c] at hq
    obtain ⟨y, _, hq⟩ := Option.bind_eq_some_iff.1 hq
    simp only [Tr.ev_l, Option.some.injEq] at hq
    subst hq
    exact List.nodup_nil
   next => cases hq
  next => cases hq
 ·cases hq
theorem wrf {g : Nat → Option Ob} {l : List (Nat × Ob)} (h : ∀ p ∈ l, g p.1 = none) : wbk g l = [] := by
 unfold wbk
 rw [List.map_eq_nil_iff, List.filter_eq_nil_iff]
 intro p hp
 unfold wkm
 rw [h p hp]
 split <;> simp
theorem wamr [Tabs] (hE : wfe P E) (hT : waj P tt) (hm : Mem P X lo g μ w) {f : Operand → AV} (hf : ∀ x, RelV P w lo μ (SS X μ) (f x) (a.eval x)) {o : Oper} (hna : wcq o = false) {u : LU} (h : (alu E tt g f o).ev = some u) :
  u.und = none ∧ o.dst = u.d.map (·.1) ∧ (u.objs.map (·.1)).Nodup ∧ QOK P o a w (fun x w' => ∃ μ', NxU P X lo g μ w u.objs (wbk g u.objs) w' μ' ∧ ∀ p, u.d = some p → RelV P w' lo μ' (SS X μ') p.2 x) := by
 unfold alu at h
 split at h
 ·rename_i ty av vv ho hd
  obtain ⟨w', h1, h2, h2', h3, h4, h5⟩ := wacg hT hm h (hf av) (hf vv)
  refine ⟨h4, by rw [hd, h3]; rfl, h5, ?_⟩
  intro K Q hK
  unfold Oper.wp execOp
  simp only [ho, Sem.run_bind, h1, Result.andThen_ok, Sem.run_pure]
  exact hK _ w' ⟨μ, by rw [h2']; exact h2, fun p hp => by rw [h3] at hp; cases hp⟩
 ·rename_i ho _
  unfold wcq at hna
  rw [ho] at hna
  cases hna
 ·rename_i H as ts d ho hd
  rw [Tr.ev_bind] at h
  cases hq : (wkj E g d (f H) (as.toList.map f)).ev with
  | none => rw [hq] at h; cases h
  | some q =>
   rw [hq] at h
   simp only [Option.bind_some] at h
   split at h
   next hfr =>
    simp only [Tr.ev_l, Option.some.injEq] at h
    subst h
    obtain ⟨h1, h2⟩ := wij hfr
    obtain ⟨_, h3⟩ := wha a hf as
    refine ⟨rfl, by rw [hd]; rfl, waci hq hfr, ?_⟩
    have := waid hE hm hq (fun p hp => wwb hm (h1 p hp)) ho rfl (hf H) (by simp) h3
    exact fun K Q hK => this K Q fun x w' ⟨μ', k1, k2⟩ => hK x w' ⟨μ', k1, fun p hp => by cases hp; exact k2⟩
   next => cases h
 ·rename_i d hd _ _
  rw [Tr.ev_bind] at h
  cases hq : (aq tt g f o).ev with
  | none => rw [hq] at h; cases h
  | some q =>
   rw [hq] at h
   simp only [Option.bind_some] at h
   split at h
   next hfr =>
    simp only [Tr.ev_l, Option.some.injEq] at h
    subst h
    obtain ⟨h1, h2⟩ := wij hfr
    refine ⟨rfl, by rw [hd]; rfl, h2, ?_⟩
    have hμ : ∀ p ∈ q.2, μ p.1 = none := fun p hp => wwb hm (h1 p hp)
    have := wbga hT hm hf hq hμ
    exact fun K Q hK => this K Q fun x w' hx => by
     obtain ⟨μ', k1, k2⟩ := NxU.of hm hμ hx
     exact hK x w' ⟨μ', by rw [wrf h1]; exact k1, fun p hp => by cases hp; exact k2⟩
   next => cases h
 ·cases h
theorem waot [Tabs] (hE : wfe P E) (hT : waj P tt) (hm : Mem P X lo g μ w) {f : Operand → AV} (hf : ∀ x, RelV P w lo μ (SS X μ) (f x) (a.eval x)) {o : Oper} (hna : wcq o = false) {c : Bool} {u : LU} (h : (wzc E tt g f o c).ev = some u) :
  (u.und = none ∨ ∃ b d, o.op = .move (.tmp b) ∧ o.dst = some d ∧ u = ⟨some (d, f (.tmp b)), some b, []⟩) ∧ o.dst = u.d.map (·.1) ∧ (u.objs.map (·.1)).Nodup ∧ QOK P o a w (fun x w' => ∃ μ', NxU P X lo g μ w u.objs (wbk g u.objs) w' μ' ∧ ∀ p, u.d = some p → RelV P w' lo μ' (SS X μ') p.2 x) := by
 cases c with
 | false =>
  obtain ⟨h1, h2, h3, h4⟩ := wamr hE hT hm hf hna h
  exact ⟨.inl h1, h2, h3, h4⟩
 | true =>
  simp only [wzc] at h
  split at h
  next ty n ps d ho hd =>
   rw [Tr.ev_bind] at h
   cases hq : (whx tt ty n (ps.toList.map fun p => (p.1, f p.2))).ev with
   | none => rw [hq] at h; cases h
   | some v =>
    rw [hq] at h
    simp only [Option.bind_some, Tr.ev_l, Option.some.injEq] at h
    subst h
    obtain ⟨h1, h2⟩ := wkv a hf ps
    obtain ⟨x, w', h3, h4⟩ := wzk hT hm hq h1 h2
    refine ⟨.inl rfl, by rw [hd]; rfl, List.nodup_nil, ?_⟩
    have : QOK P o a w (Nx P X lo g μ w (v, [])) := QOK.val (by simp only [execOp, ho, Sem.run_bind, h3, Result.andThen_ok, Sem.run_pure]) h4
    exact fun K Q hK => this K Q fun x w' hx => by
     obtain ⟨μ', k1, k2⟩ := NxU.of hm (fun p hp => by cases hp) hx
     exact hK x w' ⟨μ', k1, fun p hp => by cases hp; exact k2⟩
  next b d ho hd =>
   simp only [Tr.ev_l, Option.some.injEq] at h
   subst h
   refine ⟨.inr ⟨b, d, ho, hd, rfl⟩, by rw [hd]; rfl, List.nodup_nil, ?_⟩
   have : QOK P o a w (Nx P X lo g μ w (f (.tmp b), [])) := QOK.val (x := a.eval (.tmp b)) (by simp [execOp, ho]) (Nx.pure hm (hf (.tmp b)))
   exact fun K Q hK => this K Q fun x w' hx => by
    obtain ⟨μ', k1, k2⟩ := NxU.of hm (fun p hp => by cases hp) hx
    exact hK x w' ⟨μ', k1, fun p hp => by cases hp; exact k2⟩
  next => cases h
theorem wtu [Tabs] (hT : waj P tt) {s s' : St} (h : Rel P X lo N w0 s a w μ) {d ty ty' rt : Nat} (hdN : N.has d) {av nv : AV} (hq : (woz tt d ty ty' av nv s).ev = some s') {va vn : Value} (ha : RelV P w lo μ (SS X μ) av va) (hn : RelV P w lo μ (SS X μ) nv vn) :
  ∃ v' w' μ', (Builtin.append_ #[ty, ty'] rt #[va, vn]).run P w = .ok v' w' ∧ Rel P X lo N w0 s' (a.put (some d) v') w' μ' := by
 unfold woz at hq
 split at hq
 ·rename_i k n
  split at hq
  next e t b k' hty hty' hgd =>
   obtain ⟨hb, hq⟩ := ev_g hq
   simp only [Bool.and_eq_true, decide_eq_true_eq] at hb
   split at hq
   next hb0 =>
    simp only [Tr.ev_l, Option.some.injEq] at hq
    subst hq
    have e1 := hn.int
    subst e1
    cases ha
    have hd1 := hT ty
    have hd2 := hT ty'
    rw [hty] at hd1
    rw [hty'] at hd2
    obtain ⟨hu, ⟨i, z, h1, h2, h3, h4, h5⟩, _⟩ := hd1
    obtain ⟨d2, q1, q2, _⟩ := hd2
    simp only [wsx, Option.some.injEq] at q1
    subst q1
    exact mk h hgd hdN hu q2 h1 h2 h3 h4 h5 n hb.1 hb.2 hb0
   next => cases hq
  next => cases hq
 ·cases hq
where
 mk {s : St} {ty ty' d e b rt : Nat} {t : Ty} {i : TypeInfo} {z : Value} {k k' : IntKind} (h : Rel P X lo N w0 s a w μ) (hgd : s.g d = none) (hdN : N.has d) (hu : P.underlying ty = some (.slice e)) (hu' : P.underlying ty' = some (.int k')) (h1 : P.info? e = some i) (h2 : i.size = t.size) (h3 : i.bytes = b) (h4 : i.zero = some z) (h5 : isZ t z.cells.toList = true)
   (n : Int) (hn : 0 < n) (hnb : n * (b : Int) ≤ 281474976710656) (hb0 : 0 < b) :
   ∃ v w' μ', (Builtin.append_ #[ty, ty'] rt #[.slice none 0 0, .int k n]).run P w = .ok v w' ∧ Rel P X lo N w0 { fr := (d, .arr d) :: s.fr, ob := (d, .arr e t (List.replicate n.toNat t.dflt)) :: s.ob } (a.put (some d) v) w' μ' := by
  obtain ⟨m, rfl⟩ : ∃ m : Nat, n = (m : Int) := ⟨n.toNat, by omega⟩
  have hm48 : m * b ≤ 281474976710656 := Int.ofNat_le.1 (by rw [Int.natCast_mul]; exact hnb)
  have hmb : m ≤ m * b := Nat.le_mul_of_pos_right m hb0
  have hrun := Lib.run_append_nil_zeros (P := P) w ty ty' rt e i z k k' hu hu' h1 h4 m (by omega) (by rw [h2]; exact t.size_pos) (by omega) (by rw [h3]; exact hm48)
  have hμd : μ d = none := by
   cases hm : μ d with
   | none => rfl
   | some mv => obtain ⟨y, hy, _⟩ := h.mem.ob d mv hm; rw [hgd] at hy; cases hy
  have hge := grownCap_ge w m 0 e
  have hzc : z.cells.size = t.size := by simpa using wbm h5
  have hnx : Nx P X lo s.g μ w (.arr d, [(d, .arr e t (List.replicate (Int.toNat (m : Int)) t.dflt))]) (.slice (some ⟨w.heap.size, 0, none⟩) m (grownCap w m 0 e)) (w.drew.alloc (.cells (Builtin.zeroCells z.cells m ++ Builtin.zeroCells z.cells (grownCap w m 0 e - m)) e)) := by
   have hb : Below w.heap.size w (w.drew.alloc (.cells (Builtin.zeroCells z.cells m ++ Builtin.zeroCells z.cells (grownCap w m 0 e - m)) e)) := ⟨rfl, rfl, rfl, by simp, fun k hk => heap_alloc_old w.drew _ hk⟩
   refine Nx.made h.mem hb (mv := ⟨.slice (some ⟨w.heap.size, 0, none⟩) m (grownCap w m 0 e), [w.heap.size], []⟩) hμd rfl (fun μ' hμ hS => ?_) fun μ' h => .arr h
   have hr0 := wgx (S := SS X μ) (w := w) h5 m m (Nat.le_refl _)
   have hz0 : Builtin.zeroCells z.cells m = madeCells z.cells (m * t.size) := by
    unfold Builtin.zeroCells madeCells
    rw [hzc]
   rw [← hz0, List.take_of_length_le (by simp [size_zeroCells, hzc])] at hr0
   refine ⟨⟨rfl, rfl⟩, fun b hb' hl => by simp [wu] at hb'; exact Nat.lt_irrefl _ (hb' ▸ h.mem.hlo b hl), (Builtin.zeroCells z.cells m).toList, ⟨?_, .inr ⟨w.heap.size, _, _, ?_, Nat.zero_le _, heap_alloc_new w.drew _, by simpa using hge, ?_, ?_, ?_⟩⟩, hr0.step fun b hlt hSb => ⟨hS b hlt hSb, hb.block b hlt⟩⟩
   ·simp [size_zeroCells, hzc]
   ·simp
   ·exact grownCap_le_maxLen w m 0 e (by unfold maxLen; omega)
   ·simp only [Array.size_append, size_zeroCells, hzc, ← Nat.add_mul]
    congr 1
    omega
   ·simp only [Array.toList_append, List.length_replicate, Int.toNat_natCast]
    rw [List.take_append_of_le_length (by simp [size_zeroCells, hzc]), List.take_of_length_le (by simp [size_zeroCells, hzc])]
  obtain ⟨μ', k1⟩ := h.newOb hdN hgd hnx
  exact ⟨_, _, μ', hrun, k1⟩
theorem wacj [Tabs] (hT : waj P tt) {s s' : St} (h : Rel P X lo N w0 s a w μ) {ty d : Nat} (hdN : N.has d) {xv hv : AV} {r : Tr St} (hr : wabk tt ty xv hv d s = some r) (hq : r.ev = some s') {vx vh : Value} (hx : RelV P w lo μ (SS X μ) xv vx) (hh : RelV P w lo μ (SS X μ) hv vh) :
  ∃ v μ', (Instr.sliceAt ty vx none (some vh) none).run P w = .ok v w ∧ Rel P X lo N w0 s' (a.put (some d) v) w μ' := by
 unfold wabk at hr
 split at hr
 ·rename_i o k n
  split at hr
  next e0 t0 b e t l hty hg =>
   simp only [Option.some.injEq] at hr
   subst hr
   split at hq
   next hc =>
    obtain ⟨rfl, hsz⟩ := hc
    obtain ⟨hb, hq⟩ := ev_g hq
    simp only [Bool.and_eq_true, decide_eq_true_eq] at hb
    obtain ⟨hn0, hnl⟩ := hb
    simp only [Tr.ev_l, Option.some.injEq] at hq
    subst hq
    have e1 := hh.int
    subst e1
    have hd1 := hT ty
    rw [hty] at hd1
    obtain ⟨hu, ⟨i, z, h1, h2, h3, h4, h5⟩, _⟩ := hd1
    cases hx with
    | @arr _ _ a0 n0 c0 rs hs hμ =>
     obtain ⟨y, hy, hob⟩ := h.mem.ob _ _ hμ
     rw [hg] at hy
     cases hy
     obtain ⟨⟨hhs, hrs⟩, hnlo, xs, hown, hrep⟩ := hob
     simp only at hrs hhs hnlo hown
     have aux : ∀ m : Int, 0 ≤ m → m ≤ (l.length : Int) → m.toNat ≤ l.length := fun m _ _ => by omega
     have hlen : Int.toNat n ≤ l.length := aux n hn0 hnl
     -- the header that is handed back
     have key : ∃ c1, n0 = l.length ∧ n0 ≤ c1 ∧ (Instr.sliceAt ty (.slice a0 n0 c0) none (some (.int k n)) none).run P w = .ok (.slice a0 n.toNat c1) w ∧ w.ownsRow 0 e0 t.size (.slice a0 n.toNat c1) n.toNat (xs.take (n.toNat * t.size)) := by
      have hxl := hown.1
      have htl : (xs.take (n.toNat * t.size)).length = n.toNat * t.size := by
       rw [List.length_take, hxl]
       exact Nat.min_eq_left (Nat.mul_le_mul_right _ hlen)
      rcases hown.2 with ⟨ev, e0'⟩ | ⟨gb, cap, cur, ev, k1, k2, k3, k4, k5, k6⟩
      ·cases ev
       have hn : n.toNat = 0 := by omega
       obtain ⟨_, _, z3⟩ := wtm (P := P) (w := w) (len := 0) (cap := 0) (Nat.le_refl 0) k n hn0 (by omega) true
       refine ⟨0, e0'.symm, Nat.le_refl _, ?_, htl, .inl ⟨by rw [hn], hn⟩⟩
       simp [Instr.sliceAt, Instr.slice, run_underlying hu, z3, sizeOf, typeInfo, h1, h2]
      ·simp only [Value.slice.injEq] at ev
       obtain ⟨rfl, rfl, rfl⟩ := ev
       obtain ⟨_, _, z3⟩ := wtm (P := P) (w := w) (len := l.length) (cap := c0) k3 k n hn0 hnl true
       refine ⟨c0, rfl, k3, ?_, htl, .inr ⟨gb, c0, cur, rfl, k1, k2, by omega, k4, k5, ?_⟩⟩
       ·simp only [Instr.sliceAt, Instr.slice, Sem.run_bind, run_underlying hu, Result.andThen_ok, z3, sizeOf, typeInfo, h1, Sem.run_pure, Nat.zero_mul, Nat.sub_zero]
        by_cases e : c0 = 0
        ·simp [e, h1]
        ·simp [e, h1, Addr.add_lit]
       ·rw [← k6, List.take_take, Nat.min_eq_left (Nat.mul_le_mul_right _ hlen)]
     obtain ⟨c1, z1, z2, z3, z4⟩ := key
     have hnx : NxA P X lo μ w o (.arr e0 t (l.take n.toNat)) w ⟨.slice a0 n.toNat c1, rs, []⟩ := by
      refine ⟨Kept.refl _ _, fun k hk hS => ⟨⟨hS.1, fun p mv hp hkm => ?_⟩, rfl⟩, ⟨⟨rfl, ?_⟩, ?_, xs.take (n.toNat * t.size), ?_, ?_⟩, fun k hk => .inl ⟨_, hμ, hk⟩, fun _ _ _ => rfl⟩
      ·rcases wag hp with ⟨rfl, rfl⟩ | ⟨_, hp⟩
       ·exact hS.2 _ _ hμ hkm
       ·exact hS.2 p mv hp hkm
      ·rw [hrs]
       cases a0 <;> rfl
      ·intro b hb
       refine hnlo b ?_
       cases a0 <;> exact hb
      ·rw [List.length_take, Nat.min_eq_left hlen]
       exact z4
      ·have : ∀ (l : List t.I) (cs : List Value) (m : Nat), RepL (SS X μ) w t l cs → RepL (SS X μ) w t (l.take m) (cs.take (m * t.size)) := by
        intro l
        induction l with
        | nil => intro cs m hh; simp only [RepL] at hh; subst hh; simp [RepL]
        | cons x l ih =>
         intro cs m hh
         obtain ⟨c, r, rfl, g1, g2⟩ := hh
         cases m with
         | zero => simp [RepL]
         | succ m =>
          have hl := g1.len
          rw [List.take_succ_cons, Nat.add_mul, Nat.one_mul, List.take_append, List.take_of_length_le (l := c) (by omega), show m * t.size + t.size - c.length = m * t.size by omega]
          exact ⟨c, _, rfl, g1, ih r m g2⟩
       exact (this l xs n.toNat hrep).step fun k hk hS => ⟨⟨hS.1, fun p mv hp hkm => by
        rcases wag hp with ⟨rfl, rfl⟩ | ⟨_, hp⟩
        ·exact hS.2 _ _ hμ hkm
        ·exact hS.2 p mv hp hkm⟩, rfl⟩
     exact ⟨_, _, z3, (h.appd hnx).put hdN (.arr wao)⟩
   next => cases hq
  next e0 t0 b kp e e2 t ix l hty hg =>
   simp only [Option.some.injEq] at hr
   subst hr
   split at hq
   next hc =>
    obtain ⟨rfl, hsz⟩ := hc
    obtain ⟨hb, hq⟩ := ev_g hq
    simp only [Bool.and_eq_true, decide_eq_true_eq] at hb
    obtain ⟨hn0, hnl⟩ := hb
    simp only [Tr.ev_l, Option.some.injEq] at hq
    subst hq
    have e1 := hh.int
    subst e1
    have hd1 := hT ty
    rw [hty] at hd1
    obtain ⟨hu, ⟨i, z, h1, h2, h3, h4, h5⟩, _⟩ := hd1
    cases hx with
    | @arr _ _ a0 n0 c0 rs hs hμ =>
     obtain ⟨y, hy, hob⟩ := h.mem.ob _ _ hμ
     rw [hg] at hy
     cases hy
     have hp : PermOK w lo (SS X μ) e0 e2 t ix l ⟨.slice a0 n0 c0, rs, hs⟩ := hob
     have hown := hp.own
     have aux : ∀ m : Int, 0 ≤ m → m ≤ (ix.length : Int) → m.toNat ≤ ix.length := fun m _ _ => by omega
     have hlen : Int.toNat n ≤ ix.length := aux n hn0 hnl
     have key : ∃ c1, n0 = ix.length ∧ n0 ≤ c1 ∧ (Instr.sliceAt ty (.slice a0 n0 c0) none (some (.int k n)) none).run P w = .ok (.slice a0 n.toNat c1) w ∧ w.ownsRow 0 e0 1 (.slice a0 n.toNat c1) (ix.take n.toNat).length ((ix.take n.toNat).map fun i => hs.getD i (.slice none 0 0)) := by
      have hl2 : (ix.take n.toNat).length = n.toNat := by rw [List.length_take]; exact Nat.min_eq_left hlen
      rw [hl2]
      rcases hown.2 with ⟨ev, e0'⟩ | ⟨gb, cap, cur, ev, k1, k2, k3, k4, k5, k6⟩
      ·cases ev
       have hn : n.toNat = 0 := by omega
       obtain ⟨_, _, z3⟩ := wtm (P := P) (w := w) (len := 0) (cap := 0) (Nat.le_refl 0) k n hn0 (by omega) true
       refine ⟨0, e0'.symm, Nat.le_refl _, ?_, by simp [hn], .inl ⟨by rw [hn], hn⟩⟩
       simp [Instr.sliceAt, Instr.slice, run_underlying hu, z3, sizeOf, typeInfo, h1, h2]
      ·simp only [Value.slice.injEq] at ev
       obtain ⟨rfl, rfl, rfl⟩ := ev
       obtain ⟨_, _, z3⟩ := wtm (P := P) (w := w) (len := ix.length) (cap := c0) k3 k n hn0 hnl true
       refine ⟨c0, rfl, k3, ?_, by simp [Nat.min_eq_left hlen], .inr ⟨gb, c0, cur, rfl, k1, k2, by omega, k4, k5, ?_⟩⟩
       ·simp only [Instr.sliceAt, Instr.slice, Sem.run_bind, run_underlying hu, Result.andThen_ok, z3, sizeOf, typeInfo, h1, Sem.run_pure, Nat.zero_mul, Nat.sub_zero]
        by_cases e : c0 = 0
        ·simp [e, h1]
        ·simp [e, h1, Addr.add_lit]
       ·simp only [Nat.mul_one] at k6 ⊢
        rw [List.map_take, ← k6, List.take_take, Nat.min_eq_left hlen]
     obtain ⟨c1, z1, z2, z3, z4⟩ := key
     have hroot : ∀ b, wu (.slice a0 n.toNat c1) = some b → wu (.slice a0 n0 c0) = some b := fun b hb => by cases a0 <;> exact hb
     have hroot2 : ∀ b, wu (.slice a0 n0 c0) ≠ some b → wu (.slice a0 n.toNat c1) ≠ some b := fun b hb hc => hb (hroot b hc)
     have hS2 : ∀ k, SS X μ k → SS X (again μ o ⟨.slice a0 n.toNat c1, rs, hs⟩) k := fun k hS => ⟨hS.1, fun p mv hp hkm => by
      rcases wag hp with ⟨rfl, rfl⟩ | ⟨_, hp⟩
      ·exact hS.2 _ _ hμ hkm
      ·exact hS.2 p mv hp hkm⟩
     have hnx : NxA P X lo μ w o (.perm false e0 e2 t (ix.take n.toNat) l) w ⟨.slice a0 n.toNat c1, rs, hs⟩ := by
      refine ⟨Kept.refl _ _, fun k hk hS => ⟨hS2 k hS, rfl⟩, ⟨z4, hp.len, fun b hb => hp.top b (hroot b hb), hp.low, hp.slc, fun j x r hx hl => ?_, hp.apart⟩, fun k hk => .inl ⟨_, hμ, hk⟩, fun _ _ _ => rfl⟩
      obtain ⟨m1, xs, m2, m3⟩ := hp.row j x r hx hl
      exact ⟨fun b hb => ⟨(m1 b hb).1, hroot2 b (m1 b hb).2⟩, xs, m2, m3.step fun k hk hS => ⟨hS2 k hS, rfl⟩⟩
     exact ⟨_, _, z3, (h.appd hnx).put hdN (.arr wao)⟩
   next => cases hq
  next => cases hr
 ·cases hr
theorem waou [Tabs] (hT : waj P tt) {s s' : St} (h : Rel P X lo N w0 s a w μ) {ty rt d : Nat} (hdN : N.has d) {xv yv : AV} {r : Tr St} (hr : acut tt ty d xv yv s = some r) (hq : r.ev = some s') {va x : Value} (ha : RelV P w lo μ (SS X μ) xv va) (hx : RelV P w lo μ (SS X μ) yv x) :
  ∃ v' w' μ', (Builtin.append_ #[ty, ty] rt #[va, x]).run P w = .ok v' w' ∧ Rel P X lo N w0 s' (a.put (some d) v') w' μ' := by
 unfold acut at hr
 split at hr
 ·rename_i o i p j z
  split at hr
  next e0 t0 b e t l hpo hty hg =>
   have hpo := Nat.eq_of_beq_eq_true hpo
   subst hpo
   simp only [Option.some.injEq] at hr
   subst hr
   split at hq
   next hc =>
    obtain ⟨rfl, hsz, rfl, hb0⟩ := hc
    obtain ⟨hle, hq⟩ := ev_g hq
    simp only [decide_eq_true_eq] at hle
    simp only [Tr.ev_l, Option.some.injEq] at hq
    subst hq
    have hd1 := hT ty
    rw [hty] at hd1
    obtain ⟨hu, ⟨ii, zz, hi, hs, hby, hz, hzz⟩, _⟩ := hd1
    have hzc : zz.cells.size = t.size := by rw [← hsz]; simpa using wbm hzz
    rw [hsz] at hs
    have hm := h.mem
    cases ha with
    | @pre _ _ _ a0 n0 c0 rs hhs' hμ hi1 =>
     cases hx with
     | @suf _ _ _ _ a2 n2 c2 rs2 hs2 a' m k hμ2 hj ha' =>
      rw [hμ] at hμ2
      cases hμ2
      obtain ⟨y, hy, hob⟩ := hm.ob _ _ hμ
      rw [hg] at hy
      cases hy
      obtain ⟨⟨hhs, hrs⟩, hnl0, xs, hown, hrep⟩ := hob
      simp only at hrs hhs hnl0 hown
      have hxl := hown.1
      have hn0 : n0 = l.length := by
       rcases hown.2 with ⟨ev, e0'⟩ | ⟨gb, cap, cur, ev, _⟩
       ·cases ev; exact e0'.symm
       ·simp only [Value.slice.injEq] at ev; exact ev.2.1
      obtain ⟨hjn, rfl⟩ := hj
      have hil : i ≤ l.length := by omega
      have hjl : j ≤ l.length := by omega
      have htl : (xs.take (i * t.size)).length = i * t.size := by
       rw [List.length_take, hxl]
       exact Nat.min_eq_left (Nat.mul_le_mul_right _ hil)
      have hown1 : w.ownsRow 0 e0 t.size (.slice a0 i c0) i (xs.take (i * t.size)) := by
       refine ⟨htl, ?_⟩
       rcases hown.2 with ⟨ev, e0'⟩ | ⟨gb, cap, cur, ev, k1, k2, k3, k4, k5, k6⟩
       ·cases ev
        have : i = 0 := by omega
        subst this
        exact .inl ⟨rfl, rfl⟩
       ·simp only [Value.slice.injEq] at ev
        obtain ⟨rfl, rfl, rfl⟩ := ev
        exact .inr ⟨gb, c0, cur, rfl, k1, k2, by omega, k4, k5, by rw [← k6, List.take_take, Nat.min_eq_left (Nat.mul_le_mul_right _ hil)]⟩
      have hnl : (xs.drop (j * t.size)).length = (n0 - j) * t.size := by
       rw [List.length_drop, hxl, ← Nat.sub_mul, hn0]
      have hone : ∀ u ∈ xs, u.oneCell' = true := RepL.one hrep
      have hle' : (i + (n0 - j)) * b ≤ 140737488355328 := by rw [hn0]; exact hle
      obtain ⟨v', w', h1, h2, h3, h4, h5, h6, h7, h8, a1, n', c', hv'⟩ := wcm (rt := rt) (c := k) hu hi hs hby hz hzc hown1 (ax := a') (m := n0 - j) (news := xs.drop (j * t.size)) hnl
       (fun e => by
        rcases ha' with ha' | ⟨gb, _, e2⟩
        ·omega
        ·rw [e] at e2; cases e2)
       (fun ad e q u hu' => by
        rcases ha' with ha' | ⟨gb, e1, e2⟩
        ·have : xs.drop (j * t.size) = [] := List.eq_nil_of_length_eq_zero (by rw [hnl]; simp [ha'])
         rw [this] at hu'
         cases hu'
        ·rw [e] at e2
         cases e2
         rw [List.getElem?_drop] at hu'
         have := hown.cells (g := gb) (by rw [e1]; rfl) (j * t.size + q) u hu'
         simpa [Addr.add_lit] using this)
       (fun u hu' => hone u (List.mem_of_mem_drop hu')) hle' hb0
      have hroot0 : wu (.slice a0 i c0) = wu (.slice a0 n0 c0) := by cases a0 <;> rfl
      rw [hroot0] at h7 h8
      have hroot : ∀ k, wu v' = some k → (∃ mv0, μ p = some mv0 ∧ k ∈ mv0.rs) ∨ w.heap.size ≤ k := fun k hk => (h8 k hk).imp (fun h => ⟨_, hμ, by rw [hrs, h]; simp⟩) id
      have hsame : ∀ k, k < w.heap.size → (∀ mv0, μ p = some mv0 → k ∉ mv0.rs) → w'.heap[k]? = w.heap[k]? := fun k hk hn => h7 k hk fun e => hn _ hμ (by rw [hrs, e]; simp)
      have hdata : ∀ k, k < w.heap.size → SS X μ k → SS X (again μ p ⟨v', (wu v').toList, []⟩) k ∧ w'.heap[k]? = w.heap[k]? := fun k hk hS => ⟨⟨hS.1, fun q mv hp hkm => by
       rcases wag hp with ⟨rfl, rfl⟩ | ⟨_, hp⟩
       ·have hkm : wu v' = some k := by simpa using hkm
        rcases hroot k hkm with ⟨mv0, e1, e2⟩ | h
        ·exact hS.2 _ mv0 e1 e2
        ·omega
       ·exact hS.2 q mv hp hkm⟩, hsame k hk fun mv0 h => hS.2 p mv0 h⟩
      have hkept : Kept lo w w' := ⟨h3, h4, h5, h6, fun k hk => hsame k (hm.hlo k hk) fun mv0 h hkm => (hm.lt h hkm).1 hk⟩
      have hcut : ∀ (l : List t.I) (cs : List Value) (m : Nat), RepL (SS X μ) w t l cs → RepL (SS X μ) w t (l.take m) (cs.take (m * t.size)) ∧ RepL (SS X μ) w t (l.drop m) (cs.drop (m * t.size)) := by
       intro l
       induction l with
       | nil => intro cs m hh; simp only [RepL] at hh; subst hh; simp [RepL]
       | cons x l ih =>
        intro cs m hh
        obtain ⟨c, r, rfl, g1, g2⟩ := hh
        cases m with
        | zero =>
         rw [Nat.zero_mul]
         exact ⟨rfl, ⟨c, r, rfl, g1, g2⟩⟩
        | succ m =>
         have hl := g1.len
         obtain ⟨i1, i2⟩ := ih r m g2
         rw [List.take_succ_cons, List.drop_succ_cons, Nat.add_mul, Nat.one_mul, List.take_append, List.drop_append, List.take_of_length_le (l := c) (by omega), List.drop_of_length_le (l := c) (by omega), show m * t.size + t.size - c.length = m * t.size by omega]
         exact ⟨⟨c, _, rfl, g1, i1⟩, i2⟩
      have hnx : NxA P X lo μ w p (.arr e0 t (l.take i ++ l.drop j)) w' ⟨v', (wu v').toList, []⟩ := by
       refine ⟨hkept, hdata, ⟨⟨rfl, rfl⟩, fun k hk hl => ?_, xs.take (i * t.size) ++ xs.drop (j * t.size), ?_, ?_⟩, fun k hk => hroot k (by simpa using hk), hsame⟩
       ·rcases hroot k hk with ⟨mv0, e1, e2⟩ | h
        ·exact (hm.lt e1 e2).1 hl
        ·have := hm.hlo k hl; omega
       ·have hln : (l.take i ++ l.drop j).length = i + (n0 - j) := by rw [List.length_append, List.length_take, List.length_drop, hn0, Nat.min_eq_left hil]
        rw [hln]
        exact h2
       ·exact ((hcut l xs i hrep).1.step fun k hk hS => hdata k hk hS).append ((hcut l xs j hrep).2.step fun k hk hS => hdata k hk hS)
      refine ⟨v', w', _, h1, (h.appd hnx).put hdN ?_⟩
      rw [hv']
      exact .arr (rs := (wu v').toList) (by rw [wao, hv'])
   next => cases hq
  next e0 t0 b e e2 t l hpo hty hg =>
   have hpo := Nat.eq_of_beq_eq_true hpo
   subst hpo
   simp only [Option.some.injEq] at hr
   subst hr
   split at hq
   next hc =>
    obtain ⟨rfl, hte, rfl, hb0⟩ := hc
    obtain ⟨hle, hq⟩ := ev_g hq
    simp only [Bool.and_eq_true, decide_eq_true_eq] at hle
    obtain ⟨hij, hle⟩ := hle
    simp only [Tr.ev_l, Option.some.injEq] at hq
    subst hq
    have hd1 := hT ty
    rw [hty] at hd1
    obtain ⟨hu, ⟨ii, zz, hi, hs, hby, hz, hzz⟩, _⟩ := hd1
    have hzc : zz.cells.size = t0.size := by simpa using wbm hzz
    have hm := h.mem
    cases ha with
    | @pre _ _ _ a0 n0 c0 rs hds hμ hi1 =>
     cases hx with
     | @suf _ _ _ _ a2 n2 c2 rs2 hs2 a' m k hμ2 hj ha' =>
      rw [hμ] at hμ2
      cases hμ2
      obtain ⟨y, hy, hob⟩ := hm.ob _ _ hμ
      rw [hg] at hy
      cases hy
      obtain ⟨hro, _⟩ := hob
      have hlen := hro.len
      have hown := hro.own
      simp only at hlen hown
      have hn0 : n0 = l.length := by
       rcases hown.2 with ⟨ev, e0'⟩ | ⟨gb, cap, cur, ev, _⟩
       ·cases ev; exact e0'.symm
       ·simp only [Value.slice.injEq] at ev; exact ev.2.1
      obtain ⟨hjn, rfl⟩ := hj
      have hil : i ≤ l.length := by omega
      have hown1 : w.ownsRow 0 e0 t0.size (.slice a0 i c0) i (hds.take i) := by
       rw [hte]
       refine ⟨by rw [List.length_take, hlen, Nat.mul_one]; exact Nat.min_eq_left hil, ?_⟩
       rcases hown.2 with ⟨ev, e0'⟩ | ⟨gb, cap, cur, ev, k1, k2, k3, k4, k5, k6⟩
       ·cases ev
        have : i = 0 := by omega
        subst this
        exact .inl ⟨rfl, rfl⟩
       ·simp only [Value.slice.injEq] at ev
        obtain ⟨rfl, rfl, rfl⟩ := ev
        exact .inr ⟨gb, c0, cur, rfl, k1, k2, by omega, k4, k5, by rw [← k6, List.take_take]; congr 1; omega⟩
      have hone : ∀ u ∈ hds, u.oneCell' = true := fun u hu => by
       obtain ⟨a2, n2, c2, rfl⟩ := hro.slc u hu
       rfl
      have hle' : (i + (n0 - j)) * b ≤ 140737488355328 := by rw [hn0]; exact hle
      obtain ⟨v', w', m1, m2, m3, m4, m5, m6, m7, m8, a1, n', c', hv'⟩ := wcm (rt := rt) (c := k) (t := t0) hu hi hs hby hz hzc hown1 (ax := a') (m := n0 - j) (news := hds.drop j) (by rw [List.length_drop, hlen, hte, hn0, Nat.mul_one])
       (fun e => by
        rcases ha' with ha' | ⟨gb, _, e2⟩
        ·omega
        ·rw [e] at e2; cases e2)
       (fun ad e q u hu' => by
        rcases ha' with ha' | ⟨gb, e1, e2⟩
        ·have : hds.drop j = [] := List.eq_nil_of_length_eq_zero (by rw [List.length_drop, hlen]; omega)
         rw [this] at hu'
         cases hu'
        ·rw [e] at e2
         cases e2
         rw [List.getElem?_drop] at hu'
         have := hown.cells (g := gb) (by rw [e1]; rfl) (j + q) u hu'
         simpa [Addr.add_lit] using this)
       (fun u hu' => hone u (List.mem_of_mem_drop hu')) hle' hb0
      rw [hte] at m2
      have hroot0 : wu (.slice a0 i c0) = wu (.slice a0 n0 c0) := by cases a0 <;> rfl
      rw [hroot0] at m7 m8
      have hcutat : ∀ {α : Type} (l : List α) (n : Nat), i ≤ l.length → (l.take i ++ l.drop j)[n]? = l[if n < i then n else j + (n - i)]? := fun {α} l n hi => by
       have hlt : (l.take i).length = i := by rw [List.length_take]; omega
       by_cases hn : n < i
       ·rw [List.getElem?_append_left (by omega), List.getElem?_take_of_lt hn, if_pos hn]
       ·rw [List.getElem?_append_right (by omega), hlt, List.getElem?_drop, if_neg hn]
      have hno : ∀ j, wcf none j := fun j i k hk => by cases hk
      have hrootv : ∀ k, wu v' = some k → k ∈ rs ∨ w.heap.size ≤ k := fun k hk => (m8 k hk).imp (fun h => hro.top k h) id
      have hrsI : ∀ k, k ∈ (wu v').toList ++ rs → k ∈ rs ∨ w.heap.size ≤ k := fun k hk => by
       rcases List.mem_append.1 hk with hk | hk
       ·exact hrootv k (by simpa using hk)
       ·exact .inl hk
      have hkept : Kept lo w w' := ⟨m3, m4, m5, m6, fun k hk => m7 k (hm.hlo k hk) fun e => (hro.low k (hro.top k e)).1 hk⟩
      have hdata : ∀ k, k < w.heap.size → SS X μ k → SS X (again μ p ⟨v', (wu v').toList ++ rs, hds.take i ++ hds.drop j⟩) k ∧ w'.heap[k]? = w.heap[k]? := fun k hk hS => ⟨⟨hS.1, fun p' mv hp hkm => by
       rcases wag hp with ⟨rfl, rfl⟩ | ⟨_, hp⟩
       ·rcases hrsI k hkm with h' | h'
        ·exact hS.2 _ _ hμ h'
        ·omega
       ·exact hS.2 p' mv hp hkm⟩, m7 k hk fun e => hS.2 p _ hμ (hro.top k e)⟩
      have hnx : NxA P X lo μ w p (.rows e0 e2 t (l.take i ++ l.drop j) none) w' ⟨v', (wu v').toList ++ rs, hds.take i ++ hds.drop j⟩ := by
       refine ⟨hkept, hdata, ⟨⟨?_, fun k hk => List.mem_append_left _ (by simp [show wu v' = some k from hk]), fun k hk => ?_, fun y hy => ?_, fun q y r hj' hy hq => ?_, fun q q' y z kb hj' hk hy hz h3 h4 => ?_⟩, fun i' d' hd' => by cases hd'⟩, fun k hk => ?_, fun k hk hn => ?_⟩
       ·rw [show (l.take i ++ l.drop j).length = i + (n0 - j) by rw [List.length_append, List.length_take, List.length_drop, hn0, Nat.min_eq_left hil]]
        exact m2
       ·rcases hrsI k hk with h' | h'
        ·exact ⟨(hro.low k h').1, Nat.lt_of_lt_of_le (hro.low k h').2 m6⟩
        ·refine ⟨fun hl => by have := hm.hlo k hl; omega, ?_⟩
         have hk' : wu v' = some k := by
          rcases List.mem_append.1 hk with hk | hk
          ·simpa using hk
          ·have := (hro.low k hk).2; omega
         rcases m2.2 with ⟨e1, _⟩ | ⟨gb, cap, cur, e1, _, hh, _⟩
         ·rw [e1] at hk'; simp [wu] at hk'
         ·rw [e1] at hk'
          simp only [wu, Option.some.injEq] at hk'
          subst hk'
          exact (Array.getElem?_eq_some_iff.1 hh).1
       ·rcases List.mem_append.1 hy with hy | hy
        ·exact hro.slc y (List.mem_of_mem_take hy)
        ·exact hro.slc y (List.mem_of_mem_drop hy)
       ·simp only at hy
        rw [hcutat _ _ (by omega)] at hy hq
        obtain ⟨z1, ys, z2, z3⟩ := hro.row _ y r (hno _) hy hq
        refine ⟨fun k hk => ⟨List.mem_append_right _ (z1 k hk).1, fun hk2 => ?_⟩, ys, waf z2 fun k hk => m7 k (hro.low k (z1 k hk).1).2 (z1 k hk).2, z3.step fun k hk hs => hdata k hk hs⟩
        rcases m8 k hk2 with h' | h'
        ·exact (z1 k hk).2 h'
        ·have := (hro.low k (z1 k hk).1).2; omega
       ·simp only at hy hz
        rw [hcutat _ _ (by omega)] at hy hz
        have := hro.apart _ _ y z kb (hno _) (hno _) hy hz h3 h4
        split at this <;> split at this <;> omega
       ·rcases hrsI k hk with h' | h'
        ·exact .inl ⟨_, hμ, h'⟩
        ·exact .inr h'
       ·exact m7 k hk fun e => hn _ hμ (hro.top k e)
      refine ⟨v', w', _, m1, (h.appd hnx).put hdN ?_⟩
      rw [hv']
      exact .arr (rs := (wu v').toList ++ rs) (hs := hds.take i ++ hds.drop j) (by rw [wao, hv'])
   next => cases hq
  next => cases hr
 ·cases hr
theorem waov [Tabs] (hT : waj P tt) {s s' : St} (h : Rel P X lo N w0 s a w μ) {ty d : Nat} (hdN : N.has d) {xv lv : AV} {r : Tr St} (hr : asuf tt ty xv lv d s = some r) (hq : r.ev = some s') {vx vl : Value} (hx : RelV P w lo μ (SS X μ) xv vx) (hl : RelV P w lo μ (SS X μ) lv vl) :
  ∃ v μ', (Instr.sliceAt ty vx (some vl) none none).run P w = .ok v w ∧ Rel P X lo N w0 s' (a.put (some d) v) w μ' := by
 unfold asuf at hr
 split at hr
 ·rename_i o k n
  have e1 := hl.int
  subst e1
  split at hr
  next e0 t0 b e t l hty hg =>
   simp only [Option.some.injEq] at hr
   subst hr
   split at hq
   next hc =>
    obtain ⟨hb, hq⟩ := ev_g hq
    simp only [Bool.and_eq_true, decide_eq_true_eq] at hb
    simp only [Tr.ev_l, Option.some.injEq] at hq
    subst hq
    cases hx with
    | @arr _ _ a0 n0 c0 rs hs hμ =>
     obtain ⟨y, hy, hob⟩ := h.mem.ob _ _ hμ
     rw [hg] at hy
     cases hy
     obtain ⟨_, _, xs, hown, _⟩ := hob
     obtain ⟨v, h1, h2⟩ := wvw (P := P) (w := w) (lo := lo) (S := SS X μ) hT hty hc hμ hown rfl hb.1 hb.2
     exact ⟨v, μ, h1, h.put hdN h2⟩
   next => cases hq
  next e0 t0 b kp e e2 t ix l hty hg =>
   simp only [Option.some.injEq] at hr
   subst hr
   split at hq
   next hc =>
    obtain ⟨hb, hq⟩ := ev_g hq
    simp only [Bool.and_eq_true, decide_eq_true_eq] at hb
    simp only [Tr.ev_l, Option.some.injEq] at hq
    subst hq
    cases hx with
    | @arr _ _ a0 n0 c0 rs hs hμ =>
     obtain ⟨y, hy, hob⟩ := h.mem.ob _ _ hμ
     rw [hg] at hy
     cases hy
     obtain ⟨v, h1, h2⟩ := wvw (P := P) (w := w) (lo := lo) (S := SS X μ) hT hty hc hμ (PermOK.own hob) rfl hb.1 hb.2
     exact ⟨v, μ, h1, h.put hdN h2⟩
   next => cases hq
  next => cases hr
 ·cases hr
theorem waik [Tabs] {t : Ty} {z : Array Value} (hz : isZ t z.toList = true) (n : Nat) : RepL S w t (List.replicate n t.dflt) (Builtin.zeroCells z n).toList := by
 have hzc : z.size = t.size := by simpa using wbm hz
 have hr0 := wgx (S := S) (w := w) hz n n (Nat.le_refl _)
 have hz0 : Builtin.zeroCells z n = madeCells z (n * t.size) := by
  unfold Builtin.zeroCells madeCells
  rw [hzc]
 rw [← hz0, List.take_of_length_le (by simp [size_zeroCells, hzc])] at hr0
 exact hr0
theorem wack [Tabs] (hT : waj P tt) {s s' : St} (h : Rel P X lo N w0 s a w μ) {ty rt : Nat} {xv : AV} {r : Tr St} (hr : wabl tt ty xv s = some r) (hq : r.ev = some s') {vx : Value} (hx : RelV P w lo μ (SS X μ) xv vx) :
  ∃ w', (Builtin.clear_ #[ty] rt #[vx]).run P w = .ok (.tuple #[]) w' ∧ ∀ v, Rel P X lo N w0 s' (a.put none v) w' μ := by
 unfold wabl at hr
 split at hr
 ·rename_i o i z
  cases hx with
  | @suf _ _ _ _ a0 n c rs hs a' m k hμ hi ha =>
   obtain ⟨hin, rfl⟩ := hi
   have hsame : ∀ x, s.g o = some x → Rel P X lo N w0 ⟨s.fr, (o, x) :: s.ob⟩ a w μ := fun x hx => by
    have e : (⟨s.fr, (o, x) :: s.ob⟩ : St).g = s.g := by
     funext p
     simp only [St.g, look]
     by_cases hp : o = p
     ·subst hp; rw [wam]; exact hx.symm
     ·rw [wal hp]
    show RelF P X lo N w0 (⟨s.fr, (o, x) :: s.ob⟩ : St).slot (⟨s.fr, (o, x) :: s.ob⟩ : St).g a w μ
    rw [e]
    exact h
   split at hr
   next e0 t0 b e t l hty hg =>
    simp only [Option.some.injEq] at hr
    subst hr
    split at hq
    next hte =>
     split at hq
     next hc =>
      obtain ⟨rfl, rfl⟩ := hc
      simp only [Tr.ev_l, Option.some.injEq] at hq
      subst hq
      obtain ⟨⟨ett⟩⟩ : Nonempty (PLift (t0 = t)) := ⟨by assumption⟩
      subst ett
      have hd1 := hT ty
      rw [hty] at hd1
      obtain ⟨hu, ⟨inf, zz, g1, g2, g3, g4, g5⟩, _⟩ := hd1
      have hzc : zz.cells.size = t0.size := by simpa using wbm g5
      obtain ⟨y, hy, hob⟩ := h.mem.ob _ _ hμ
      rw [hg] at hy
      cases hy
      obtain ⟨⟨hhs, hrs⟩, hnl, xs, hown, hrep⟩ := hob
      simp only at hrs hhs hown
      subst hhs
      by_cases hm0 : n - i = 0
      ·have hin' : i = n := by omega
       subst hin'
       have hnl2 : i = l.length := by
        rcases hown.2 with ⟨ev, e0'⟩ | ⟨gb, cap, cur, ev, _⟩
        ·cases ev; omega
        ·cases ev; rfl
       have el : l.take i ++ List.replicate (l.length - i) t0.dflt = l := by rw [hnl2]; simp
       rw [el]
       refine ⟨w, ?_, fun v => hsame _ hg⟩
       rw [hm0]
       cases a' <;> simp [Builtin.clear_, run_underlying hu]
      ·rcases ha with ha | ⟨b0, rfl, rfl⟩
       ·omega
       ·rcases hown.2 with ⟨e1, _⟩ | ⟨b', cap, cur, ev, hlb, hh, hnc, hcm, hcs, htake⟩
        ·cases e1
        ·simp only [Value.slice.injEq, Option.some.injEq, Addr.mk.injEq, and_true] at ev
         obtain ⟨rfl, rfl, rfl⟩ := ev
         simp only [wu, Option.toList] at hrs
         subst hrs
         have hzl : (Builtin.zeroCells zz.cells (l.length - i)).toList.length = (l.length - i) * t0.size := by simp [size_zeroCells, hzc]
         have hzr := waik (S := SS X μ) (w := w) g5 (l.length - i)
         have hmul : i * t0.size + (l.length - i) * t0.size = l.length * t0.size := by rw [← Nat.add_mul]; congr 1; omega
         have hle2 : l.length * t0.size ≤ c * t0.size := Nat.mul_le_mul_right _ hnc
         have hrun := run_storeCells_at P b0 (i * t0.size) e0 (Builtin.zeroCells zz.cells (l.length - i)).toList 0 cur w hh (by rw [hzl, hcs]; omega) hzr.one
         simp only [Nat.add_zero] at hrun
         have hclr : (Builtin.clear_ #[ty] rt #[.slice (some ⟨b0, i * t0.size, none⟩) (l.length - i) k]).run P w = .ok (.tuple #[]) (w.setRow b0 (cur.toList.take (i * t0.size) ++ (Builtin.zeroCells zz.cells (l.length - i)).toList ++ cur.toList.drop (i * t0.size + (Builtin.zeroCells zz.cells (l.length - i)).toList.length)).toArray) := by
          have hz1 : (zeroValue e0).run P w = .ok zz w := by simp [zeroValue, typeInfo, g1, g4]
          cases hmm : l.length - i with
          | zero => omega
          | succ mm =>
           rw [hmm] at hrun
           simp [Builtin.clear_, run_underlying hu, hz1, hrun]
         refine ⟨_, hclr, fun v => h.upd (u := ⟨none, none, [(o, .arr e0 t0 (l.take i ++ List.replicate (l.length - i) t0.dflt))]⟩) (by simp) rfl (NxU.wrote h.mem hμ (by simp) ⟨⟨rfl, rfl⟩, hnl, xs.take (i * t0.size) ++ (Builtin.zeroCells zz.cells (l.length - i)).toList, ⟨?_, .inr ⟨b0, c, _, ?_, hlb, setRow_heap w b0 cur _ e0 _ hh, ?_, hcm, ?_, ?_⟩⟩, ?_⟩) (dst := none) rfl (fun d hd => by cases hd) (x := v) (fun p hp => by cases hp)⟩
         ·have := hown.1
          simp only [List.length_append, List.length_take, hzl, List.length_replicate, this]
          rw [Nat.min_eq_left (by omega), Nat.min_eq_left (by omega), ← Nat.add_mul]
         ·simp only [List.length_append, List.length_take, List.length_replicate]
          congr 1
          omega
         ·simp only [List.length_append, List.length_take, List.length_replicate]
          omega
         ·simp only [List.size_toArray, List.length_append, List.length_take, List.length_drop, Array.length_toList, hcs, size_zeroCells, hzc]
          omega
         ·have e3 : (l.take i ++ List.replicate (l.length - i) t0.dflt).length * t0.size = l.length * t0.size := by
           simp only [List.length_append, List.length_take, List.length_replicate]
           congr 1
           omega
          rw [e3]
          have h1 := wbo cur.toList (Builtin.zeroCells zz.cells (l.length - i)).toList (i * t0.size) ((l.length - i) * t0.size) (l.length * t0.size) hzl (by omega) (by simp [hcs]; omega)
          rw [hzl]
          rw [h1, htake]
          have hd : xs.drop (i * t0.size + (l.length - i) * t0.size) = [] := List.drop_eq_nil_of_le (by rw [hown.1]; omega)
          rw [hd, List.append_nil]
         ·have : ∀ (l : List t0.I) (cs : List Value) (m : Nat), RepL (SS X μ) w t0 l cs → RepL (SS X μ) w t0 (l.take m) (cs.take (m * t0.size)) := by
           intro l
           induction l with
           | nil => intro cs m hh; simp only [RepL] at hh; subst hh; simp [RepL]
           | cons x l ih =>
            intro cs m hh
            obtain ⟨c, r, rfl, g1, g2⟩ := hh
            cases m with
            | zero => simp [RepL]
            | succ m =>
             have hl := g1.len
             rw [List.take_succ_cons, Nat.add_mul, Nat.one_mul, List.take_append, List.take_of_length_le (l := c) (by omega), show m * t0.size + t0.size - c.length = m * t0.size by omega]
             exact ⟨c, _, rfl, g1, ih r m g2⟩
          exact ((this l xs i hrep).append hzr).step fun m hm' hS => ⟨hS, setRow_other w b0 m _ fun e => by subst e; exact hS.2 o _ hμ (by simp)⟩
     next => cases hq
    next => cases hq
   next e0 t0 b kp e e2 t ix l hty hg =>
    simp only [Option.some.injEq] at hr
    subst hr
    split at hq
    next tz =>
     split at hq
     next hc =>
      obtain ⟨rfl, rfl⟩ := hc
      simp only [Tr.ev_l, Option.some.injEq] at hq
      subst hq
      have hd1 := hT ty
      rw [hty] at hd1
      obtain ⟨hu, ⟨inf, zz, g1, g2, g3, g4, g5⟩, _⟩ := hd1
      obtain ⟨y, hy, hob⟩ := h.mem.ob _ _ hμ
      rw [hg] at hy
      cases hy
      have hp : PermOK w lo (SS X μ) e0 e2 t ix l ⟨.slice a0 n c, rs, hs⟩ := hob
      have hown := hp.own
      have hxl : hs.length = l.length := hp.len
      have hbig : hs.getD l.length (.slice none 0 0) = .slice none 0 0 := by rw [List.getD_eq_getElem?_getD, List.getElem?_eq_none (by omega)]; rfl
      by_cases hm0 : n - i = 0
      ·have hin' : i = n := by omega
       subst hin'
       have hnl2 : i = ix.length := by
        rcases hown.2 with ⟨ev, e0'⟩ | ⟨gb, cap, cur, ev, _⟩
        ·cases ev; omega
        ·cases ev; rfl
       have el : ix.take i ++ List.replicate (ix.length - i) l.length = ix := by rw [hnl2]; simp
       rw [el]
       refine ⟨w, ?_, fun v => ?_⟩
       ·rw [hm0]
        cases a' <;> simp [Builtin.clear_, run_underlying hu]
       ·have h2 : Rel P X lo N w0 ⟨s.fr, (o, .perm kp e0 e2 t ix l) :: s.ob⟩ a w μ := hsame _ hg
        refine ⟨⟨h2.mem.hX, h2.mem.hlo, fun p mv hp => ?_, h2.mem.dis, h2.mem.tab⟩, h2.fr, h2.bel, h2.df, h2.sz⟩
        obtain ⟨x, k1, k2⟩ := h2.mem.ob p mv hp
        by_cases hpo : o = p
        ·subst hpo
         simp only [St.g, look, wam, Option.some.injEq] at k1
         subst k1
         exact ⟨.perm false e0 e2 t ix l, by simp [St.g, look], k2⟩
        ·refine ⟨x, ?_, k2⟩
         simp only [St.g, look, wal hpo] at k1 ⊢
         exact k1
      ·rcases ha with ha | ⟨b0, rfl, rfl⟩
       ·omega
       ·rcases hown.2 with ⟨e1, _⟩ | ⟨b', cap, cur, ev, hlb, hh, hnc, hcm, hcs, htake⟩
        ·cases e1
        ·simp only [Value.slice.injEq, Option.some.injEq, Addr.mk.injEq, and_true] at ev
         obtain ⟨rfl, rfl, rfl⟩ := ev
         have hbr : b0 ∈ rs := hp.top b0 rfl
         simp only [Nat.mul_one] at hcs htake
         obtain ⟨zx, hzx⟩ := wch (t := .slice tz) rfl g5
         rw [hzx] at g5
         have hzs := wig g5
         subst hzs
         have hzc : zz.cells.size = 1 := by rw [← Array.length_toList, hzx]; rfl
         have hzl : (Builtin.zeroCells zz.cells (ix.length - i)).toList = List.replicate (ix.length - i) (.slice none 0 0) := by
          have hz0 : zz.cells = #[.slice none 0 0] := by rw [← Array.toArray_toList (xs := zz.cells), hzx]
          rw [hz0]
          apply List.ext_getElem
          ·simp [Builtin.zeroCells]
          ·intro j h1 h2
           simp only [Builtin.zeroCells, Array.toList_map, List.getElem_map, List.getElem_replicate, List.size_toArray, List.length_cons, List.length_nil, Nat.zero_add, Nat.mod_one]
           rfl
         have hrun := run_storeCells_at P b0 (i * 1) e0 (Builtin.zeroCells zz.cells (ix.length - i)).toList 0 cur w hh (by rw [hzl, hcs]; simp; omega) (fun u hu => by rw [hzl] at hu; rw [(List.mem_replicate.1 hu).2]; rfl)
         simp only [Nat.add_zero] at hrun
         have hoth : ∀ b', b' ≠ b0 → (w.setRow b0 (cur.toList.take (i * 1) ++ (Builtin.zeroCells zz.cells (ix.length - i)).toList ++ cur.toList.drop (i * 1 + (Builtin.zeroCells zz.cells (ix.length - i)).toList.length)).toArray).heap[b']? = w.heap[b']? := fun b' hne => setRow_other w b0 b' _ hne
         have hclr : (Builtin.clear_ #[ty] rt #[.slice (some ⟨b0, i * 1, none⟩) (ix.length - i) k]).run P w = .ok (.tuple #[]) (w.setRow b0 (cur.toList.take (i * 1) ++ (Builtin.zeroCells zz.cells (ix.length - i)).toList ++ cur.toList.drop (i * 1 + (Builtin.zeroCells zz.cells (ix.length - i)).toList.length)).toArray) := by
          have hz1 : (zeroValue e0).run P w = .ok zz w := by simp [zeroValue, typeInfo, g1, g4]
          cases hmm : ix.length - i with
          | zero => omega
          | succ mm =>
           rw [hmm] at hrun
           simp only [Nat.mul_one] at hrun ⊢
           simp [Builtin.clear_, run_underlying hu, hz1, hrun]
         refine ⟨_, hclr, fun v => h.upd (u := ⟨none, none, [(o, .perm false e0 e2 t (ix.take i ++ List.replicate (ix.length - i) l.length) l)]⟩) (by simp) rfl (NxU.wrote h.mem hμ hbr ⟨?_, hp.len, hp.top, fun b' hb' => ⟨(hp.low b' hb').1, by simpa using (hp.low b' hb').2⟩, hp.slc, fun j' x r hx hl => ?_, hp.apart⟩) (dst := none) rfl (fun d hd => by cases hd) (x := v) (fun p hp => by cases hp)⟩
         ·have hlen2 : (ix.take i ++ List.replicate (ix.length - i) l.length).length = ix.length := by
           simp only [List.length_append, List.length_take, List.length_replicate]
           omega
          refine ⟨by simp, .inr ⟨b0, c, _, by rw [hlen2], hlb, setRow_heap w b0 cur _ e0 _ hh, by rw [hlen2]; exact hnc, hcm, ?_, ?_⟩⟩
          ·rw [hzl]
           simp only [List.size_toArray, List.length_append, List.length_take, List.length_drop, Array.length_toList, List.length_replicate, hcs]
           omega
          ·rw [hlen2, hzl]
           have h1 := wbo cur.toList (List.replicate (ix.length - i) (Value.slice none 0 0)) (i * 1) (ix.length - i) ix.length (by simp) (by omega) (by simp [hcs]; omega)
           simp only [List.length_replicate, Nat.mul_one] at h1 ⊢
           rw [h1, htake, List.map_append, List.map_replicate]
           have hd : (ix.map fun i => hs.getD i (.slice none 0 0)).drop (i + (ix.length - i)) = [] := List.drop_eq_nil_of_le (by simp; omega)
           rw [hd, List.append_nil, List.map_take]
           rw [hbig]
         ·obtain ⟨m1, xs, m2, m3⟩ := hp.row j' x r hx hl
          exact ⟨m1, xs, waf m2 fun b' hb' => hoth b' fun e => (m1 b' hb').2 (by rw [e]; rfl), m3.step fun b' _ hs' => ⟨hs', hoth b' fun e => by subst e; exact hs'.2 _ _ hμ hbr⟩⟩
     next => cases hq
    next => cases hq
   next => cases hr
 ·cases hr
theorem wacl [Tabs] (hT : waj P tt) {m : Bool} {o : Oper} {s s' : St} (hN : ∀ d, o.dst = some d → N.has d) (h : Rel P X lo N w0 s a w μ) {r : Tr St} (hr : wabm tt m o s = some r) (hq : r.ev = some s')
  {K : Act → World → Prop} {Q : Exit → Act → World → Prop} (hK : ∀ a' w' μ', Rel P X lo N w0 s' a' w' μ' → K a' w') : o.wp P a w K Q := by
 unfold wabm at hr
 split at hr
 ·rename_i ty av vv ho hd
  have fin : (∃ w' μ', (Instr.storeAt ty (a.eval av) (a.eval vv)).run P w = .ok () w' ∧ ∀ v, Rel P X lo N w0 s' (a.put none v) w' μ') → o.wp P a w K Q := fun ⟨w', μ', h1, h2⟩ => by
   unfold Oper.wp execOp
   simp only [ho, Sem.run_bind, h1, Result.andThen_ok, Sem.run_pure]
   exact hK _ w' μ' (by rw [hd]; exact h2 _)
  split at hr
  next r' hr' =>
   cases hr
   exact fin (wzo hT h hr' hq (waq h.fr av) (waq h.fr vv))
  next => exact fin (wrc hT h hr hq (waq h.fr av) (waq h.fr vv))
 ·rename_i ty n c d ho hd
  split at hr
  ·cases hr
   obtain ⟨v, w', μ', h1, h2⟩ := wts hT h hq (hN d hd) (waq h.fr n) (waq h.fr c)
   unfold Oper.wp execOp
   simp only [ho, Sem.run_bind, h1, Result.andThen_ok, Sem.run_pure]
   exact hK _ w' μ' (by rw [hd]; exact h2)
  ·cases hr
 ·rename_i ty n ps d ho hd
  split at hr
  ·cases hr
   obtain ⟨v, w', μ', h1, h2⟩ := wrd hT h hq (hN d hd) (qs := ps.map fun p => (p.1, a.eval p.2)) (by simp) (fun j p hp => by
    rw [List.getElem?_map] at hp
    cases hj : ps.toList[j]? with
    | none => rw [hj] at hp; cases hp
    | some z =>
     rw [hj] at hp
     simp only [Option.map_some, Option.some.injEq] at hp
     subst hp
     exact ⟨(z.1, a.eval z.2), by simp [← Array.getElem?_toList, hj], waq h.fr z.2⟩)
   unfold Oper.wp execOp
   simp only [ho, Sem.run_bind, h1, Result.andThen_ok, Sem.run_pure]
   exact hK _ w' μ' (by rw [hd]; exact h2)
  ·cases hr
 ·rename_i as ts d ho hd
  split at hr
  next x y ty ty' has hts =>
   have hcut : ty = ty' ∧ ∃ v' w' μ', (Builtin.append_ #[ty, ty] o.type #[a.eval x, a.eval y]).run P w = .ok v' w' ∧ Rel P X lo N w0 s' (a.put (some d) v') w' μ' := by
    split at hr
    next hty =>
     have hty := Nat.eq_of_beq_eq_true hty
     subst hty
     split at hr
     next r' hr' =>
      cases hr
      exact ⟨rfl, waou hT h (hN d hd) hr' hq (waq h.fr x) (waq h.fr y)⟩
     next => exact woe (rt := o.type) hT h (hN d hd) hr hq (waq h.fr x) (waq h.fr y)
    next => exact woe (rt := o.type) hT h (hN d hd) hr hq (waq h.fr x) (waq h.fr y)
   obtain ⟨rfl, v', w', μ', h2, h3⟩ := hcut
   have e1 : as = #[x, y] := by rw [← Array.toArray_toList (xs := as), has]
   have e2 : ts = #[ty, ty] := by rw [← Array.toArray_toList (xs := ts), hts]
   unfold Oper.wp execOp
   simp only [ho, e1, e2, resolve, invoke, builtin, Sem.run_bind, Sem.run_pure, Result.andThen_ok, List.map_toArray, List.map_cons, List.map_nil, h2]
   exact hK _ w' μ' (by rw [hd]; exact h3)
  next => cases hr
 ·rename_i ty x hh d ho hd
  obtain ⟨v', μ', h2, h3⟩ := wacj hT h (hN d hd) hr hq (waq h.fr x) (waq h.fr hh)
  unfold Oper.wp execOp
  simp only [ho, Sem.run_bind, h2, Result.andThen_ok, Sem.run_pure, Option.map_none, Option.map_some]
  exact hK _ w μ' (by rw [hd]; exact h3)
 ·rename_i ty x ll d ho hd
  obtain ⟨v', μ', h2, h3⟩ := waov hT h (hN d hd) hr hq (waq h.fr x) (waq h.fr ll)
  unfold Oper.wp execOp
  simp only [ho, Sem.run_bind, h2, Result.andThen_ok, Sem.run_pure, Option.map_none, Option.map_some]
  exact hK _ w μ' (by rw [hd]; exact h3)
 ·rename_i as ts ho hd
  split at hr
  next x ty has hts =>
   obtain ⟨w', h2, h3⟩ := wack (rt := o.type) hT h hr hq (waq h.fr x)
   have e1 : as = #[x] := by rw [← Array.toArray_toList (xs := as), has]
   have e2 : ts = #[ty] := by rw [← Array.toArray_toList (xs := ts), hts]
   unfold Oper.wp execOp
   simp only [ho, e1, e2, resolve, invoke, builtin, Sem.run_bind, Sem.run_pure, Result.andThen_ok, List.map_toArray, List.map_cons, List.map_nil, h2]
   exact hK _ w' μ (by rw [hd]; exact h3 _)
  next => cases hr
 ·cases hr
theorem wazz [Tabs] (hE : wfe P E) (hT : waj P tt) {fz : Nat → List Nat} {o : Oper} {i : Nat} {s s' : St} (hN : ∀ d, o.dst = some d → N.has d) (h : Rel P X lo N w0 s a w μ) (hq : (aop E tt fz o i s).ev = some s')
  {K : Act → World → Prop} {Q : Exit → Act → World → Prop} (hK : ∀ a' w' μ', Rel P X lo N w0 s' a' w' μ' → K a' w') : o.wp P a w K Q := by
 obtain ⟨μ1, h1⟩ := Rel.ahead (s0 := s) (fz i) h
 unfold aop at hq
 simp only at hq
 cases hcut : (fz i).any (Nat.beq 140000000) with
 | true => rw [hcut] at hq; cases hq
 | false =>
 rw [hcut] at hq
 simp only at hq
 split at hq
 next r hr => exact wacl hT hN h1 hr hq hK
 split at hq
 ·split at hq
  ·rename_i as ts d ho hd
   split at hq
   next x y ty ty' has hts =>
    split at hq
    next hty =>
     subst hty
     have e1 : as = #[x, y] := by rw [← Array.toArray_toList (xs := as), has]
     have e2 : ts = #[ty, ty] := by rw [← Array.toArray_toList (xs := ts), hts]
     obtain ⟨v', w', μ', h2, h3⟩ := wzr (rt := o.type) hT h1 (hN d hd) hq (waq h1.fr x) (waq h1.fr y)
     unfold Oper.wp execOp
     simp only [ho, e1, e2, resolve, invoke, builtin, Sem.run_bind, Sem.run_pure, Result.andThen_ok, List.map_toArray, List.map_cons, List.map_nil, h2]
     exact hK _ w' μ' (by rw [hd]; exact h3)
    next =>
     have e1 : as = #[x, y] := by rw [← Array.toArray_toList (xs := as), has]
     have e2 : ts = #[ty, ty'] := by rw [← Array.toArray_toList (xs := ts), hts]
     obtain ⟨v', w', μ', h2, h3⟩ := wtu (rt := o.type) hT h1 (hN d hd) hq (waq h1.fr x) (waq h1.fr y)
     unfold Oper.wp execOp
     simp only [ho, e1, e2, resolve, invoke, builtin, Sem.run_bind, Sem.run_pure, Result.andThen_ok, List.map_toArray, List.map_cons, List.map_nil, h2]
     exact hK _ w' μ' (by rw [hd]; exact h3)
   next => cases hq
  ·cases hq
 ·rename_i hna
  rw [Tr.ev_bind] at hq
  cases hu : (alu E tt (St.ahead s s (fz i)).g (opd (St.ahead s s (fz i)).slot) o).ev with
  | none => rw [hu] at hq; cases hq
  | some u =>
   rw [hu] at hq
   simp only [Option.bind_some, Tr.ev_l, Option.some.injEq] at hq
   subst hq
   obtain ⟨k1, k2, k3, k4⟩ := wamr hE hT h1.mem (waq h1.fr) hna hu
   exact k4 K Q fun x w' ⟨μ', k5, k6⟩ => hK _ w' μ' (h1.updK k3 k1 k5 k2 hN k6)
theorem wzs [Tabs] {s : St} (h : Rel P X lo N w0 s a w μ) {ops : Array Oper} {j dj : Nat} (hj : (ops[j]?).bind (·.dst) = some dj) (hN : N.has dj) {b : Bool} (hb : s.slot dj = .dat .bool b) : yielded ops a.tmps j = some b ∧ a.tmps.getD dj undef = .bool b := by
 have hr := h.fr dj
 rw [hb] at hr
 have := hr.bool
 have hlt : dj < a.tmps.size := by rw [h.sz.n]; exact hN.2
 have hget : a.tmps[dj]? = some (.bool b) := by
  have e : a.tmps.getD dj undef = a.tmps[dj] := by simp [hlt]
  rw [e] at this
  rw [Array.getElem?_eq_getElem hlt, this]
 exact ⟨by simp [yielded, hj, hget], this⟩
theorem wrg [Tabs] {s : St} (h : Rel P X lo N w0 s a w μ) {ops : Array Oper} {j dj : Nat} (hj : (ops[j]?).bind (·.dst) = some dj) (hb : s.slot dj = .skip) : yielded ops a.tmps j = none := by
 have hr := h.fr dj
 rw [hb] at hr
 generalize hy : a.tmps.getD dj undef = y at hr
 cases hr
 unfold yielded
 rw [hj]
 cases hg : a.tmps[dj]? with
 | none => simp [hg]
 | some v =>
  have : v = undef := by rw [← hy, Array.getD_eq_getD_getElem?, hg]; rfl
  subst this
  simp [hg]
  rfl
theorem wle [Tabs] (hE : wfe P E) (hT : waj P tt) {fz : Nat → List Nat} {ops : Array Oper} (hN : ∀ (j : Nat) (o : Oper) d, ops[j]? = some o → o.dst = some d → N.has d) {Q : Exit → Act → World → Prop} : ∀ {l : List Oper} {i : Nat} {s s' : St} {a : Act} {w : World} {μ : Nat → Option MV},
  (∀ j, l[j]? = ops[i + j]?) → Rel P X lo N w0 s a w μ → (wtd E tt fz (fun j => ops[j]?) l i s).ev = some s' → (∀ a' w' μ', Rel P X lo N w0 s' a' w' μ' → Q .normal a' w') → wpList P ops Q l a w
 | [], i, s, s', a, w, μ, _, h, hq, hQ => by
  simp only [wtd, Tr.ev_l, Option.some.injEq] at hq
  subst hq
  exact hQ a w μ h
 | o :: l, i, s, s', a, w, μ, hl, h, hq, hQ => by
  have h0 : ops[i]? = some o := by simpa using (hl 0).symm
  have hl' : ∀ j, l[j]? = ops[i + 1 + j]? := fun j => by have := hl (j + 1); simpa [Nat.add_assoc, Nat.add_comm 1 j] using this
  have hNo := fun d hd => hN i o d h0 hd
  simp only [wtd] at hq
  refine wpList_step fun K hK => ?_
  have run : ∀ {s1 : St} {a : Act} {w : World} {μ : Nat → Option MV}, Rel P X lo N w0 s1 a w μ → ((aop E tt fz o i s1).bind (wtd E tt fz (fun j => ops[j]?) l (i + 1))).ev = some s' → (∀ a w, wpList P ops Q l a w → K a w) → o.wp P a w K Q := by
   intro s1 a w μ h1 hq1 hK
   rw [Tr.ev_bind] at hq1
   cases hs : (aop E tt fz o i s1).ev with
   | none => rw [hs] at hq1; cases hq1
   | some s2 =>
    rw [hs] at hq1
    exact wazz hE hT hNo h1 hs fun a' w' μ' h2 => hK _ _ (wle hE hT hN hl' h2 hq1 hQ)
  cases hg : o.guard with
  | none =>
   rw [hg] at hq
   simp only at hq
   simp only [Region.wanted, hg, if_true]
   exact run h hq hK
  | some gd =>
   obtain ⟨j, want⟩ := gd
   rw [hg] at hq
   simp only at hq
   split at hq
   next dj hdj =>
    have skip : ∀ {s1 : St} {a : Act}, Rel P X lo N w0 s1 a w μ → (match o.dst with
      | some d => wtd E tt fz (fun j => ops[j]?) l (i + 1) { s1 with fr := (d, .skip) :: s1.fr }
      | none => wtd E tt fz (fun j => ops[j]?) l (i + 1) s1).ev = some s' → K (a.put o.dst undef) w := by
     intro s1 a h1 hq1
     cases hd : o.dst with
     | none => rw [hd] at hq1; exact hK _ _ (wle hE hT hN hl' (by simpa [Act.put] using h1) hq1 hQ)
     | some d => rw [hd] at hq1; exact hK _ _ (wle hE hT hN hl' (h1.put (hNo d hd) .skip) hq1 hQ)
    split at hq
    next b hb =>
     have hdN : N.has dj := by
      cases hoj : ops[j]? with
      | none => rw [hoj] at hdj; cases hdj
      | some oj => rw [hoj] at hdj; exact hN j oj dj hoj hdj
     obtain ⟨hy, hv⟩ := wzs h hdj hdN hb
     simp only [Region.wanted, hg, hy]
     have hknow : Rel P X lo N w0 { s with fr := (dj, .dat .bool b) :: s.fr } a w μ := h.know (by rw [hv]; exact wbl _)
     cases want <;> cases b
     ·simp only [Tr.ev_t, cond_false] at hq
      simp only [beq_self_eq_true, if_true]
      exact run hknow hq hK
     ·simp only [Tr.ev_t, cond_true] at hq
      rw [if_neg (by simp)]
      refine skip (s1 := { s with fr := (dj, .dat .bool true) :: s.fr }) hknow ?_
      cases hd : o.dst <;> rw [hd] at hq <;> exact hq
     ·simp only [Tr.ev_t, cond_false] at hq
      rw [if_neg (by simp)]
      refine skip (s1 := { s with fr := (dj, .dat .bool false) :: s.fr }) hknow ?_
      cases hd : o.dst <;> rw [hd] at hq <;> exact hq
     ·simp only [Tr.ev_t, cond_true] at hq
      simp only [beq_self_eq_true, if_true]
      exact run hknow hq hK
    next hb =>
     simp only [Region.wanted, hg, wrg h hdj hb]
     rw [if_neg (by simp)]
     refine skip h ?_
     cases hd : o.dst <;> rw [hd] at hq <;> exact hq
    next => cases hq
   next => cases hq
end
end Go.Proofs.Ytnagpmhaddfgmaa
