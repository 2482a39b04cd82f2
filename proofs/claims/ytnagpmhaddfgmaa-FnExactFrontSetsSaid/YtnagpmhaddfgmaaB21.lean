/-
 Regions: the evaluator's answer holds, whether the order is the text's or drawn.
-/
import Derived.Test.YtnagpmhaddfgmaaB20
namespace Go.Proofs.Ytnagpmhaddfgmaa
open Go.RowKit (Below)
section
variable {P : Program} {E : Env} {tt : Nat → TD} {fz : Nat → List Nat} {ops : Array Oper} {p : Nat} {s0 : FS} {us : List (LU × List Nat)} {an : Nat → List Nat}
 {X : Nat → Prop} {lo : Nat → Prop} {N : Par} {w0 : World}
def weq (listed : Array Bool) (m : Nat) : Bool := match listed[m]? with
 | some true => true
 | _ => false
theorem wbq {listed : Array Bool} {m : Nat} : weq listed m = true ↔ listed[m]? = some true := by
 unfold weq
 split
 next h => simp [h]
 next h => exact ⟨fun e => (by cases e), fun e => absurd e h⟩
theorem wada [Tabs] {listed : Array Bool} {i : Nat} (hi : i < listed.size) : weq (listed.setIfInBounds i true) = fun m => weq listed m || Nat.beq i m := by
 funext m
 by_cases e : i = m
 ·subst e
  rw [wam, Bool.or_true]
  exact wbq.2 (by rw [wlj hi]; simp)
 ·rw [wal e, Bool.or_false]
  unfold weq
  rw [wlj hi, if_neg e]
structure Inv [Tabs] (P : Program) (X : Nat → Prop) (lo : Nat → Prop) (N : Par) (w0 : World) (ops : Array Oper) (p : Nat) (s0 : FS) (us : List (LU × List Nat)) (listed : Array Bool) (a : Act) (w : World) : Prop where
 size : listed.size = ops.size
 low : ∀ i, p ≤ i → listed[i]? ≠ some true
 closed : ∀ (i : Nat) (o : Oper), listed[i]? = some true → ops[i]? = some o → ∀ e ∈ wat o, listed[e]? = some true
 rel : ∃ μ, RelF P X lo N w0 (wah s0 us (weq listed) p).1 (wah s0 us (weq listed) p).2 a w μ
theorem wadb {o : Oper} {t : Nat} (h : Operand.tmp t ∈ o.op.operands) : t ∈ o.looksAt ops := by
 unfold Oper.looksAt
 refine List.mem_append_left _ (List.mem_filterMap.2 ⟨.tmp t, by simpa using h, rfl⟩)
theorem wtz {o : Oper} {j dj : Nat} {want : Bool} (h : o.guard = some (j, want)) (hj : (ops[j]?).bind (·.dst) = some dj) : dj ∈ o.looksAt ops := by
 unfold Oper.looksAt
 refine List.mem_append_right _ ?_
 simp only [h, hj]
 simp
theorem Plan.anc_in (h : Plan E tt ops p s0 us an) {listed : Array Bool} (hc : ∀ (i : Nat) (o : Oper), listed[i]? = some true → ops[i]? = some o → ∀ e ∈ wat o, listed[e]? = some true) (hz : listed.size = ops.size) :
  ∀ {i : Nat}, listed[i]? = some true → ∀ n ∈ an i, listed[n]? = some true := by
 intro i
 induction i using Nat.strongRecOn with
 | _ i ih =>
  intro hi n hn
  have hlt : i < ops.size := by
   rw [← hz]
   exact (Array.getElem?_eq_some_iff.1 hi).1
  have ho : ops[i]? = some ops[i] := Array.getElem?_eq_getElem hlt
  rcases h.anc i _ ho n hn with h1 | ⟨e, he, hn'⟩
  ·exact hc i _ hi ho n h1
  ·exact ih e (h.back i _ ho e he) (hc i _ hi ho e he) n hn'
structure Agree (ops : Array Oper) (s0 : FS) (us : List (LU × List Nat)) (an : Nat → List Nat) (p : Nat) (sel : Nat → Bool) (i : Nat) (o : Oper) (x : LU × List Nat) : Prop where
 sl : ∀ t, t ∈ o.looksAt ops → (wah s0 us sel p).1 t = (wah s0 us (fun _ => true) i).1 t
 ob : ∀ n, n ∈ nmOf ops us i ∨ n ∈ x.1.ids → (wah s0 us sel p).2 n = (wah s0 us (fun _ => true) i).2 n
 add : wah s0 us (fun m => sel m || Nat.beq i m) p = wwe (wah s0 us sel p) x.1
theorem Plan.agree [Tabs] (h : Plan E tt ops p s0 us an) {listed : Array Bool} {a : Act} {w : World} (hi : Inv P X lo N w0 ops p s0 us listed a w) {i : Nat} (hip : i < p) {o : Oper} (ho : ops[i]? = some o) (hn : listed[i]? ≠ some true) (he : ∀ e ∈ wat o, listed[e]? = some true)
  {x : LU × List Nat} (hx : nth us i = some x) : Agree ops s0 us an p (weq listed) i o x ∧ (∀ n ∈ an i, listed[n]? = some true) ∧ ∀ m, listed[m]? = some true → i ∉ an m := by
 have hin : ∀ n ∈ an i, listed[n]? = some true := fun n hn => by
  rcases h.anc i _ ho n hn with h1 | ⟨e, hee, hn'⟩
  ·exact he n h1
  ·exact h.anc_in hi.closed hi.size (he e hee) n hn'
 have hout : ∀ m, listed[m]? = some true → i ∉ an m := fun m hm him => hn (h.anc_in hi.closed hi.size hm i him)
 have hsi : weq listed i = false := by
  cases hs : weq listed i with
  | true => exact absurd (wbq.1 hs) hn
  | false => rfl
 have hop : ∀ m y, nth us m = some y → ∃ om, ops[m]? = some om := fun m y hy => by
  have : m < us.length := by rw [wo] at hy; exact (List.getElem?_eq_some_iff.1 hy).1
  exact ⟨_, Array.getElem?_eq_getElem (Nat.lt_of_lt_of_le (by rw [← h.len]; exact this) h.le)⟩
 have eT : wah s0 us (fun _ => true) i = wah s0 us (fun m => decide (m < i)) p := by
  rw [wim (sel := fun m => decide (m < i)) (i := i) (n := p) (by omega) fun m x h1 _ _ => by simp; omega]
  exact wgg fun m hm => by simp [hm]
 have hdiff : ∀ m y, m < p → nth us m = some y → weq listed m ≠ decide (m < i) → (∀ t ∈ y.1.touch, t ∉ o.looksAt ops) ∧ ∀ n ∈ y.1.ids, n ∉ nmOf ops us i ∧ n ∉ x.1.ids := by
  intro m y hm hy hne
  obtain ⟨om, hom⟩ := hop m y hy
  rcases Nat.lt_trichotomy m i with hlt | heq | hgt
  ·have hml : listed[m]? ≠ some true := fun hl => hne (by rw [wbq.2 hl]; simp [hlt])
   rcases h.pair m i om o y x hlt hom ho hy hx with h1 | ⟨h1, _, h3, _⟩
   ·exact absurd (hin m h1) hml
   ·exact ⟨fun t ht => (h1 t ht).1, h3⟩
  ·subst heq
   rw [hsi] at hne
   simp at hne
  ·have hml : listed[m]? = some true := by
    cases hs : weq listed m with
    | true => exact wbq.1 hs
    | false => rw [hs] at hne; simp at hne; omega
   rcases h.pair i m o om x y hgt ho hom hx hy with h1 | ⟨_, h2, h3, h4⟩
   ·exact absurd h1 (hout m hml)
   ·exact ⟨fun t ht => h2 t ht, fun n hn => ⟨h4 n hn, fun hn' => (h3 n hn').2 hn⟩⟩
 refine ⟨⟨fun t ht => ?_, fun n hn => ?_, wrl hx hsi hip fun m y h1 h2 hy hs => ?_⟩, hin, hout⟩
 ·rw [eT]
  exact wzx (T := fun t => t ∈ o.looksAt ops) (fun m y hm hy hne t ht h' => (hdiff m y hm hy hne).1 t h' ht) t ht
 ·rw [eT]
  exact wacv (T := fun n => n ∈ nmOf ops us i ∨ n ∈ x.1.ids) (fun m y hm hy hne n hn h' => hn.elim ((hdiff m y hm hy hne).2 n h').1 ((hdiff m y hm hy hne).2 n h').2) n hn
 ·obtain ⟨om, hom⟩ := hop m y hy
  rcases h.pair i m o om x y h1 ho hom hx hy with h3 | ⟨h3, _, h5, _⟩
  ·exact absurd h3 (hout m (wbq.1 hs))
  ·exact ⟨fun t ht => (h3 t ht).2, fun n hn => (h5 n hn).2⟩
theorem NxU.none [Tabs] {g : Nat → Option Ob} {μ : Nat → Option MV} {w : World} (hm : Mem P X lo g μ w) : NxU P X lo g μ w [] [] w μ :=
 ⟨⟨fun _ mv h => ⟨mv.rs, mv.hs, h, fun _ => Ext.refl _⟩, fun _ _ hk => (by cases hk)⟩, fun _ mv h => .inl ⟨mv, h⟩, fun o mv _ h hb => .inr ⟨o, mv, h, hb⟩, Kept.refl _ _, fun _ _ _ => rfl, fun _ _ h => hm.other fun o mv ho => (h o mv ho fun _ hp => (by cases hp)).trans (by cases g o <;> rfl)⟩
theorem wzz {g : Nat → Option Ob} {l : List Nat} : ∀ {n : Nat}, ∀ x ∈ l, x ∈ reach g n l
 | 0, _, hx => hx
 | _ + 1, _, hx => List.mem_append_left _ hx
theorem Inv.step [Tabs] (hE : wfe P E) (hT : waj P tt) (hN : ∀ (j : Nat) (o : Oper) d, ops[j]? = some o → o.dst = some d → N.has d) (h : Plan E tt ops p s0 us an) {listed : Array Bool} {a : Act} {w : World}
  (hi : Inv P X lo N w0 ops p s0 us listed a w) {i : Nat} (hip : i < p) (hr : i ∈ Region.ready .any ops listed) {K : Act → World → Prop} {Qx : Exit → Act → World → Prop}
  (hK : ∀ a' w', Inv P X lo N w0 ops p s0 us (listed.setIfInBounds i true) a' w' → K a' w') : wpOp P ops Qx i K a w := by
 obtain ⟨o, ho, hn, he⟩ := (wdk hi.size).1 hr
 have hil : i < listed.size := by
  rw [hi.size]
  exact Nat.lt_of_lt_of_le hip h.le
 obtain ⟨x, hx⟩ : ∃ x, nth us i = some x := by
  rw [wo]
  exact ⟨_, List.getElem?_eq_getElem (by rw [h.len]; exact hip)⟩
 obtain ⟨b, hst⟩ := h.step i o x ho hx
 obtain ⟨hag, hin, hout⟩ := h.agree hi hip ho hn he hx
 obtain ⟨μ, hrel⟩ := hi.rel
 generalize hS : wah s0 us (weq listed) p = S at *
 have put : ∀ {v : Value} {w' : World} {μ' : Nat → Option MV}, RelF P X lo N w0 (wwe S x.1).1 (wwe S x.1).2 (a.put o.dst v) w' μ' → K (a.put o.dst v) w' := by
  intro v w' μ' hr'
  refine hK _ _ ⟨by simp [hi.size], fun j hj => ?_, fun j oj hj hoj e hee => ?_, μ', ?_⟩
  ·rw [wlj hil, if_neg (by omega)]
   exact hi.low j hj
  ·rw [wlj hil] at hj ⊢
   split
   ·rfl
   ·split at hj
    next e' => subst e'; rw [ho] at hoj; cases hoj; exact he e hee
    next => exact hi.closed j oj hj hoj e hee
  ·rw [wada hil, hag.add, hS]
   exact hr'
 unfold wpOp
 simp only [ho]
 have hyes : b = true → o.wp P a w K Qx := by
  intro hb
  obtain ⟨c, hrun, hnm, hcl, hri⟩ := hst.run hb
  have hf : ∀ z ∈ o.op.operands, opd S.1 z = opd (wah s0 us (fun _ => true) i).1 z := fun z hz => by
   cases z with
   | tmp t => exact hS ▸ hag.sl t (wadb hz)
   | _ => rfl
  have hin' : ∀ z ∈ o.op.operands, ∀ n ∈ nm1 (opd (wah s0 us (fun _ => true) i).1 z), n ∈ x.2 := fun z hz n hn => by
   rw [hnm]
   exact wzz n (List.mem_flatMap.2 ⟨z, by simpa using hz, hn⟩)
  have hrun' : (wzc E tt S.2 (opd S.1) o c).ev = some x.1 := by
   cases c with
   | true => exact waio hf hrun
   | false =>
   show (alu E tt S.2 (opd S.1) o).ev = some x.1
   have hrun : (alu E tt (wah s0 us (fun _ => true) i).2 (opd (wah s0 us (fun _ => true) i).1) o).ev = some x.1 := hrun
   rcases wacy ho hx with hnx | hmv | ⟨hlo, hst'⟩
   ·by_cases hld : isLoad o = true
    ·exact waip hld hf (fun z hz n hn => hS ▸ hag.ob n (.inl (by rw [hnx]; exact hin' z hz n hn))) hrun fun q hq => hS ▸ hag.ob q.1 (.inr (List.mem_map_of_mem hq))
    have hcl : wgt (wah s0 us (fun _ => true) i).2 x.2 = true := by
     rw [Bool.not_eq_true] at hld
     rw [hld] at hcl
     simpa using hcl
    have hD : Dep (fun n => n ∈ x.2) (wah s0 us (fun _ => true) i).2 S.2 := ⟨fun n hn => hS ▸ hag.ob n (.inl (by rw [hnx]; exact hn)), fun n y hn hy k hk => by
     unfold wgt at hcl
     have := List.all_eq_true.1 hcl n hn
     rw [hy] at this
     exact wil.1 (List.all_eq_true.1 this k hk)⟩
    exact waoy hD hf hin' hrun fun q hq => hS ▸ hag.ob q.1 (.inr (List.mem_map_of_mem hq))
   ·exact wais hmv hf hrun
   ·refine wapa hlo hf (fun z hz n hn => ?_) hrun
    have hop : ∀ k x, nth us k = some x → ∃ o, ops[k]? = some o := fun k x hk => by
     have : k < us.length := by rw [wo] at hk; exact (List.getElem?_eq_some_iff.1 hk).1
     exact ⟨_, Array.getElem?_eq_getElem (Nat.lt_of_lt_of_le (by rw [← h.len]; exact this) h.le)⟩
    have hl := fun sel m => wacz (s0 := s0) (us := us) h.step hop (n := n) (fun k y ok h1 h2 h3 => hst' n (hin' z hz n hn) k y ok h1 h2 h3) sel m
    exact (hl (fun _ => true) i).symm.trans (hS ▸ hl (weq listed) p)
  cases hap : wcq o with
  | false =>
   obtain ⟨k1, k2, k3, k4⟩ := waot hE hT hrel.mem (waq hrel.fr) hap hrun'
   have hri' : wbk S.2 x.1.objs = [] := by
    rw [← hri]
    unfold wbk
    congr 1
    refine List.filter_congr fun q hq => ?_
    unfold wkm
    rw [← hag.ob q.1 (.inr (List.mem_map_of_mem hq)), hS]
   rcases k1 with k1 | ⟨b', d', q1, q2, q3⟩
   ·exact k4 K Qx fun v w' ⟨μ', k5, k6⟩ => put (hrel.upd k3 k1 (by rw [hri'] at k5; exact k5) k2 (fun d hd => hN i o d ho hd) k6)
   ·refine k4 K Qx fun v w' ⟨μ', k5, k6⟩ => put (μ' := μ') ?_
    rw [hri'] at k5
    rw [q3] at k5 k6 ⊢
    exact RelF.forget (hrel.upd (u := ⟨some (d', opd S.1 (.tmp b')), none, []⟩) List.nodup_nil rfl k5 (by rw [q2]; rfl) (fun d hd => hN i o d ho hd) k6)
  | true =>
   have hrun' : (alu E tt S.2 (opd S.1) o).ev = some x.1 := by
    cases c with
    | false => exact hrun'
    | true =>
     rcases whg hrun' with ⟨_, _, _, _, ho', _⟩ | ⟨_, _, ho', _⟩ <;> unfold wcq at hap <;> rw [ho'] at hap <;> cases hap
   rcases wps hT hrel.mem (waq hrel.fr) hap hrun' with ⟨d, bb, q, y, k1, k2, k3⟩ | ⟨k1, k2, k3, k4⟩
   case inr => exact k4 K Qx fun v w' ⟨μ', k5, k6⟩ => put (hrel.upd k3 k1 k5 k2 (fun d hd => hN i o d ho hd) k6)
   refine k3 K Qx fun v w' ⟨mv', k4, k5⟩ => ?_
   obtain ⟨c1, c2, c3⟩ := h.app i x bb hx (by rw [k2]) q (by rw [k2]; simp [LU.ids])
   have key := hrel.app (b := bb) (hN i o d ho k1) k4 k5 (fun t ht => ?_) fun r z hr' hz => ?_
   ·refine put (μ' := again μ q mv') ?_
    rw [k1, k2]
    exact key
   ·have hl := wro (s0 := s0) (us := us) (sel := weq listed) (t := t) p
    unfold waiv at hl
    rw [hS] at hl
    rcases hl with hl | hl | ⟨k, z, z1, z2, z3, z4, z5⟩
    ·rcases c1 t ht with h1 | ⟨m, zz, m2, m3, m4, m5⟩
     ·rw [hl.1]; exact h1
     ·exfalso
      have hml := hin m m2
      have hmp : m < p := by
       rcases Nat.lt_or_ge m p with h | h
       ·exact h
       ·exact absurd hml (hi.low m h)
      refine hl.2 m zz hmp m3 (wbq.2 hml) ?_
      unfold LU.touch
      cases hd : zz.1.d with
      | none => exact absurd hd m5
      | some q' => simp only [m4]; simp
    ·rw [hl]; rfl
    ·have hkl := wbq.1 z3
     rcases (c3 k z z2 (fun e => hn (e ▸ hkl)) (hout k hkl)).1 _ z4 with h1 | h1 | ⟨m, zz, m1, m2, m3, m4, m5⟩
     ·exact h1
     ·exact absurd h1 ht
     ·exfalso
      have hml := hin m m2
      have hmp : m < p := by
       rcases Nat.lt_or_ge m p with h | h
       ·exact h
       ·exact absurd hml (hi.low m h)
      refine z5 m zz m1 hmp m3 (wbq.2 hml) ?_
      unfold LU.touch
      cases hd : zz.1.d with
      | none => exact absurd hd m5
      | some q' => simp only [m4]; simp
   ·have hl := wwh (s0 := s0) (us := us) (sel := weq listed) (q := r) p
    unfold waiw at hl
    rw [hS] at hl
    rcases hl with hl | ⟨k, z', y', z1, z2, z3, z4⟩
    ·exact c2 r z hr' (by rw [← hl]; exact hz)
    ·have hkl := wbq.1 z2
     rw [z4] at hz
     cases hz
     rcases (c3 k z' z1 (fun e => hn (e ▸ hkl)) (hout k hkl)).2 _ z3 with h1 | h1
     ·exact absurd h1 hr'
     ·exact h1
 have hno : b = false → K (a.put o.dst undef) w := fun hb => by
  have e := hst.skip hb
  refine put (μ' := μ) ?_
  rw [e]
  refine hrel.upd (u := ⟨o.dst.map fun d => (d, .skip), none, []⟩) (by simp) rfl (NxU.none hrel.mem) (by cases o.dst <;> rfl) (fun d hd => hN i o d ho hd) fun q hq => ?_
  cases hd : o.dst with
  | none => rw [hd] at hq; cases hq
  | some d => rw [hd] at hq; cases hq; exact .skip
 have hw := hst.want
 unfold Want at hw
 unfold Region.wanted
 cases hg : o.guard with
 | none =>
  rw [hg] at hw
  simp only [if_true]
  exact .inl (hyes hw)
 | some gd =>
  obtain ⟨j, want⟩ := gd
  rw [hg] at hw
  obtain ⟨dj, hdj, hw⟩ := hw
  replace hdj : (ops[j]?).bind (·.dst) = some dj := hdj
  have hlk : S.1 dj = (wah s0 us (fun _ => true) i).1 dj := hS ▸ hag.sl dj (wtz hg hdj)
  have hrl := hrel.fr dj
  rcases hw with ⟨v, hv, hb⟩ | ⟨hv, hb⟩
  case inr =>
   rw [hlk, hv] at hrl
   generalize hyv : a.tmps.getD dj undef = y at hrl
   cases hrl
   have hy : yielded ops a.tmps j = none := by
    unfold yielded
    rw [hdj]
    cases hgt : a.tmps[dj]? with
    | none => simp [hgt]
    | some v =>
     have : v = undef := by rw [← hyv, Array.getD_eq_getD_getElem?, hgt]; rfl
     subst this
     simp [hgt]
     rfl
   simp only [hy]
   rw [if_neg (by simp)]
   exact hno hb
  rw [hlk, hv] at hrl
  have hvv := hrl.bool
  have hdjN : dj < a.tmps.size := by
   rw [hrel.sz.n]
   cases hoj : ops[j]? with
   | none => rw [hoj] at hdj; cases hdj
   | some oj => rw [hoj] at hdj; exact (hN j oj dj hoj hdj).2
  have hy : yielded ops a.tmps j = some v := by
   have hget : a.tmps[dj]? = some (.bool v) := by
    have e : a.tmps.getD dj undef = a.tmps[dj] := by simp [hdjN]
    rw [e] at hvv
    rw [Array.getElem?_eq_getElem hdjN, hvv]
   simp [yielded, hdj, hget]
  simp only [hy]
  cases hbi : b with
  | true =>
   rw [hbi] at hb
   have : v = want := by simpa using hb.symm
   rw [if_pos (by rw [this]; simp)]
   exact .inl (hyes hbi)
  | false =>
   rw [hbi] at hb
   have : v ≠ want := by simpa using hb.symm
   rw [if_neg (by simpa using this)]
   exact hno hbi
theorem wadc [Tabs] (hok : Plan E tt ops p s0 us an) {Qx : Exit → Act → World → Prop} : ∀ (fuel m : Nat) {listed : Array Bool} {a : Act} {w : World}, p ≤ m → ops.size - m ≤ fuel → listed.size = ops.size → (∀ i, i < ops.size → listed[i]? = some (decide (i < m))) →
  wpList P ops Qx (ops.toList.drop m) a w → wpAny P .any ops Qx fuel listed a w := by
 intro fuel
 have nil : ∀ {m : Nat} {listed : Array Bool} {a : Act} {w : World}, ops.size ≤ m → listed.size = ops.size → (∀ i, i < ops.size → listed[i]? = some (decide (i < m))) → wpList P ops Qx (ops.toList.drop m) a w → Region.ready .any ops listed = [] ∧ Qx .normal a w := by
  intro m listed a w hm hs hl h
  refine ⟨List.eq_nil_iff_forall_not_mem.2 fun i hi => ?_, ?_⟩
  ·obtain ⟨o, ho, hn, _⟩ := (wdk hs).1 hi
   have hlt : i < ops.size := by
    rcases Nat.lt_or_ge i ops.size with h | h
    ·exact h
    ·rw [Array.getElem?_eq_none h] at ho; cases ho
   exact hn (by rw [hl i hlt]; simp; omega)
  ·rw [List.drop_eq_nil_of_le (by simpa using hm)] at h
   exact h
 induction fuel with
 | zero => intro m listed a w _ hf hs hl h; exact nil (by omega) hs hl h
 | succ fuel ih =>
  intro m listed a w hp hf hs hl h
  rcases Nat.lt_or_ge m ops.size with hm | hm
  ·have hready : ∀ i, i ∈ Region.ready .any ops listed → i = m := fun i hi => by
    obtain ⟨o, ho, hn, he⟩ := (wdk hs).1 hi
    have hlt : i < ops.size := by
     rcases Nat.lt_or_ge i ops.size with h | h
     ·exact h
     ·rw [Array.getElem?_eq_none h] at ho; cases ho
    rw [hl i hlt] at hn
    have him : m ≤ i := by simpa using hn
    by_cases e : i = m
    ·exact e
    ·have := he _ (hok.chain i o ho (by omega))
     rw [hl (i - 1) (by omega)] at this
     simp at this
     omega
   have ho : ops[m]? = some ops[m] := Array.getElem?_eq_getElem hm
   have hmr : m ∈ Region.ready .any ops listed := (wdk hs).2 ⟨_, ho, by rw [hl m hm]; simp, fun e he => by
    have := hok.back m _ ho e he
    rw [hl e (by omega)]; simpa using this⟩
   refine ⟨fun e => (by rw [e] at hmr; cases hmr), fun i hi => ?_⟩
   rw [hready i hi]
   have hd : ops.toList.drop m = ops[m] :: ops.toList.drop (m + 1) := by
    rw [← Array.getElem_toList hm]
    exact List.drop_eq_getElem_cons (by simpa using hm)
   rw [hd] at h
   have hnext : ∀ a w, wpList P ops Qx (ops.toList.drop (m + 1)) a w → wpAny P .any ops Qx fuel (listed.setIfInBounds m true) a w := fun a w h => ih (m + 1) (by omega) (by omega) (by simp [hs]) (fun i hi => by
    rw [wlj (by omega)]
    split
    next e => subst e; simp
    next e => rw [hl i hi]; simp; omega) h
   refine wpOp_mono hnext ?_
   unfold wpOp
   simp only [ho]
   exact h
  ·obtain ⟨h1, h2⟩ := nil hm hs hl h
   exact ⟨fun _ => h2, fun i hi => by rw [h1] at hi; cases hi⟩
theorem filter_lt {α : Type} {f g : α → Bool} : ∀ {l : List α} {x : α}, (∀ y ∈ l, g y = true → f y = true) → x ∈ l → f x = true → g x = false → (l.filter g).length < (l.filter f).length
 | [], _, _, h, _, _ => by cases h
 | y :: l, x, hs, hx, h1, h2 => by
  have hle : ∀ {l : List α}, (∀ y ∈ l, g y = true → f y = true) → (l.filter g).length ≤ (l.filter f).length := by
   intro l
   induction l with
   | nil => intro _; exact Nat.le_refl _
   | cons z l ih =>
    intro hs
    have := ih fun y hy => hs y (List.mem_cons_of_mem _ hy)
    simp only [List.filter_cons]
    cases hg : g z with
    | true => rw [hs z (List.mem_cons_self ..) hg]; simpa using this
    | false =>
     simp only [Bool.false_eq_true, if_false]
     split
     ·simp only [List.length_cons]; omega
     ·omega
  have hs' : ∀ y ∈ l, g y = true → f y = true := fun y hy => hs y (List.mem_cons_of_mem _ hy)
  simp only [List.filter_cons]
  rcases List.mem_cons.1 hx with rfl | hx
  ·rw [h1, h2]
   have := hle hs'
   simp
   omega
  ·have := filter_lt hs' hx h1 h2
   cases hg : g y with
   | true => rw [hs y (List.mem_cons_self ..) hg]; simpa using this
   | false =>
    simp only [Bool.false_eq_true, if_false]
    split
    ·simp only [List.length_cons]; omega
    ·omega
def left (p : Nat) (listed : Array Bool) : Nat := ((List.range p).filter fun i => listed[i]? != some true).length
theorem Inv.any [Tabs] (hE : wfe P E) (hT : waj P tt) (hN : ∀ (j : Nat) (o : Oper) d, ops[j]? = some o → o.dst = some d → N.has d) (h : Plan E tt ops p s0 us an) {Qx : Exit → Act → World → Prop}
  (hend : ∀ a w μ, RelF P X lo N w0 (wah s0 us (fun _ => true) p).1 (wah s0 us (fun _ => true) p).2 a w μ → wpList P ops Qx (ops.toList.drop p) a w) : ∀ (fuel : Nat) {listed : Array Bool} {a : Act} {w : World}, Inv P X lo N w0 ops p s0 us listed a w → left p listed + (ops.size - p) ≤ fuel →
  wpAny P .any ops Qx fuel listed a w := by
 intro fuel
 have full : ∀ (fuel : Nat) {listed : Array Bool} {a : Act} {w : World}, Inv P X lo N w0 ops p s0 us listed a w → ops.size - p ≤ fuel → (∀ i, i < p → listed[i]? = some true) → wpAny P .any ops Qx fuel listed a w := by
  intro fuel listed a w hi hf hall
  obtain ⟨μ, hrel⟩ := hi.rel
  have e : wah s0 us (weq listed) p = wah s0 us (fun _ => true) p := wgg fun m hm => wbq.2 (hall m hm)
  rw [e] at hrel
  refine wadc h fuel p (Nat.le_refl _) hf hi.size (fun i hlt => ?_) (hend a w μ hrel)
  by_cases e : i < p
  ·rw [hall i e]; simp [e]
  ·have h1 := hi.low i (by omega)
   have h2 : i < listed.size := by rw [hi.size]; exact hlt
   rw [Array.getElem?_eq_getElem h2] at h1 ⊢
   simp only [Option.some.injEq, ne_eq, Bool.not_eq_true] at h1
   simp [h1, e]
 have split : ∀ listed : Array Bool, (∀ i, i < p → listed[i]? = some true) ∨ ∃ i, i < p ∧ listed[i]? ≠ some true ∧ ∀ j, j < i → listed[j]? = some true := by
  intro listed
  have : ∀ m, m ≤ p → (∀ i, i < m → listed[i]? = some true) ∨ ∃ i, i < p ∧ listed[i]? ≠ some true ∧ ∀ j, j < i → listed[j]? = some true := by
   intro m
   induction m with
   | zero => exact fun _ => .inl fun i hi => absurd hi (Nat.not_lt_zero _)
   | succ m ih =>
    intro hm
    rcases ih (by omega) with h1 | h1
    ·by_cases e : listed[m]? = some true
     ·refine .inl fun i hi => ?_
      by_cases e' : i = m
      ·rw [e']; exact e
      ·exact h1 i (by omega)
     ·exact .inr ⟨m, by omega, e, h1⟩
    ·exact .inr h1
  exact this p (Nat.le_refl _)
 induction fuel with
 | zero =>
  intro listed a w hi hf
  rcases split listed with hall | ⟨i, h1, h2, _⟩
  ·exact full 0 hi (by omega) hall
  ·have : i ∈ (List.range p).filter fun i => listed[i]? != some true := List.mem_filter.2 ⟨List.mem_range.2 h1, by simpa using h2⟩
   have := List.length_pos_of_mem this
   unfold left at hf
   omega
 | succ fuel ih =>
  intro listed a w hi hf
  rcases split listed with hall | ⟨i, h1, h2, h3⟩
  ·exact full (fuel + 1) hi (by omega) hall
  ·have hnone : ¬ Region.ready .any ops listed = [] := fun e => by
    have ho : ops[i]? = some (ops[i]'(Nat.lt_of_lt_of_le h1 h.le)) := Array.getElem?_eq_getElem _
    have : i ∈ Region.ready .any ops listed := (wdk hi.size).2 ⟨_, ho, h2, fun e he => h3 e (h.back i _ ho e he)⟩
    rw [e] at this; cases this
   refine ⟨fun e => absurd e hnone, fun j hj => ?_⟩
   obtain ⟨o, ho, hn, he⟩ := (wdk hi.size).1 hj
   have hjs : j < ops.size := by
    rcases Nat.lt_or_ge j ops.size with h | h
    ·exact h
    ·rw [Array.getElem?_eq_none h] at ho; cases ho
   have hjp : j < p := by
    rcases Nat.lt_or_ge j p with h | h
    ·exact h
    ·exfalso
     by_cases e : j = p
     ·subst e
      have key : ∀ m, m ≤ j → ∀ i, j - m ≤ i → i < j → listed[i]? = some true := by
       intro m
       induction m with
       | zero => intro _ i h1 h2; omega
       | succ m ihm =>
        intro hm i h1' h2'
        by_cases e : j - m ≤ i
        ·exact ihm (by omega) i e h2'
        ·obtain ⟨k, ok, k1, k2, k3, k4⟩ := ‹Plan E tt ops j s0 us an›.sink hjs i h2'
         by_cases ek : k = j
         ·subst ek; rw [ho] at k3; cases k3; exact he i k4
         ·exact hi.closed k ok (ihm (by omega) k (by omega) (by omega)) k3 i k4
      exact h2 (key j (Nat.le_refl _) i (by omega) h1)
     ·have := he _ (‹Plan E tt ops p s0 us an›.chain j o ho (by omega))
      exact hi.low (j - 1) (by omega) this
   refine hi.step hE hT hN h hjp hj fun a' w' hi' => ih hi' ?_
   have hlt : left p (listed.setIfInBounds j true) < left p listed := by
    unfold left
    have hjl : j < listed.size := by rw [hi.size]; exact hjs
    refine filter_lt (x := j) (fun y _ hy => ?_) (List.mem_range.2 hjp) (by simpa using hn) (by rw [wlj hjl]; simp)
    rw [wlj hjl] at hy
    split at hy
    ·simp at hy
    ·exact hy
   omega
theorem wadd [Tabs] (hm : P.follows .mixedOrders = true) (hE : wfe P E) (hT : waj P tt) (hN : ∀ (j : Nat) (o : Oper) d, ops[j]? = some o → o.dst = some d → N.has d) {id : Nat} {draw : Bool}
  {s s' : St} {a : Act} {w : World} {μ : Nat → Option MV} (h : Rel P X lo N w0 s a w μ) (hq : (match draw with
   | true => waoh E tt fz (fun j => ops[j]?) ops.toList s
   | false => wtd E tt fz (fun j => ops[j]?) ops.toList 0 s).ev = some s') {Qx : Exit → Act → World → Prop} (hQ : ∀ a' w' μ', Rel P X lo N w0 s' a' w' μ' → Qx .normal a' w') :
  (Code.region id ops draw).wp P Qx a w := by
 cases draw with
 | false => exact wp_region_list (wle hE hT hN (fun j => by simp) h hq hQ)
 | true =>
  obtain ⟨μ, h⟩ := Rel.ahead (s0 := s) (fz 0) h
  simp only [waoh, Tr.ev_bind] at hq
  generalize St.ahead s s (fz 0) = s at h hq
  obtain ⟨r, h1, h2⟩ := Option.bind_eq_some_iff.1 hq
  split at h2
  next hc =>
   obtain ⟨hplan, hend⟩ := wapb h1 hc
   obtain ⟨hp1, _⟩ := woi ops.toList
   refine wp_region_any hm (Inv.any (X := X) (lo := lo) (w0 := w0) hE hT hN hplan (fun a w μ hr => wle (i := wfy ops.toList) (s := r.1) hE hT hN (fun j => by simp) (show Rel P X lo N w0 r.1 a w μ by rw [← hend] at hr; exact hr) h2 hQ) ops.size (listed := Array.replicate ops.size false) ?_ ?_)
   ·have hrep : ∀ i : Nat, (Array.replicate ops.size false)[i]? ≠ some true := fun i e => by
     rw [Array.getElem?_replicate] at e
     split at e <;> simp at e
    refine ⟨by simp, fun i _ => hrep i, fun i o hi => absurd hi (hrep i), μ, ?_⟩
    have e : wah (s.slot, s.g) r.2 (weq (Array.replicate ops.size false)) (wfy ops.toList) = (s.slot, s.g) := by
     rw [wim (i := 0) (Nat.zero_le _) fun m x _ _ _ => ?_]
     ·rfl
     ·cases hs : weq (Array.replicate ops.size false) m with
      | true => exact absurd (wbq.1 hs) (hrep m)
      | false => rfl
    rw [e]
    refine ⟨⟨h.mem.hX, h.mem.hlo, fun o mv ho => ?_, h.mem.dis, h.mem.tab⟩, fun i => ?_, ⟨h.bel.os, h.bel.tape, h.bel.output, h.bel.size, h.bel.block⟩, h.df, h.sz⟩
    ·obtain ⟨x, hx, hob⟩ := h.mem.ob o mv ho
     exact ⟨x, hx, hob.step h.mem.hlo (fun _ _ h => h) (fun _ _ h => ⟨h, rfl⟩) (fun _ _ => rfl) fun _ _ => rfl⟩
    ·exact (h.fr i).step (fun _ _ h => h) h.mem.hlo (fun _ _ h => ⟨h, rfl⟩) fun _ _ => rfl
   ·have : left (wfy ops.toList) (Array.replicate ops.size false) ≤ wfy ops.toList := by
     unfold left
     exact Nat.le_trans (List.length_filter_le _ _) (by simp)
    simp at hp1
    omega
  next => cases h2
end
end Go.Proofs.Ytnagpmhaddfgmaa
