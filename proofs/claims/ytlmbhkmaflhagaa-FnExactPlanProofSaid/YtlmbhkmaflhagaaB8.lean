/-
  Aggregates and arrays that are built.
-/
import Derived.Test.YtlmbhkmaflhagaaB7
namespace Go.Proofs.Ytlmbhkmaflhagaa
open Go.RowKit (Below)

section
variable {P : Program} {tt : Nat → TD} {w : World} {lo : Nat → Prop} {μ : Nat → Option MV} {S : Nat → Prop} {X : Nat → Prop} {g : Nat → Option Ob} {o : Oper} {a : Act}

theorem putAt_eq {α : Type} : ∀ (l : List α) (i : Nat) (x : α), putAt l i x = l.set i x
  | [], _, _ => by simp [putAt]
  | _ :: _, 0, _ => by simp [putAt]
  | _ :: r, i + 1, x => by simp [putAt, putAt_eq r i x]

/-- Cells that stand for abstract values, one for one. -/
def AllR (P : Program) (w : World) (lo : Nat → Prop) (μ : Nat → Option MV) (S : Nat → Prop) (cs : List AV) (vs : Array Value) : Prop :=
  vs.size = cs.length ∧ ∀ j v, nth cs j = some v → RelV P w lo μ S v (vs.getD j undef)

theorem AllR.set [Tabs] {cs : List AV} {vs : Array Value} (h : AllR P w lo μ S cs vs) {k : Nat} {v : AV} {x : Value} (hr : RelV P w lo μ S v x) : AllR P w lo μ S (putAt cs k v) (vs.setIfInBounds k x) := by
  refine ⟨by simp [putAt_eq, h.1], fun j u hj => ?_⟩
  rw [putAt_eq, nth_eq, List.getElem?_set] at hj
  split at hj
  next e =>
    subst e
    split at hj
    next hlt =>
      cases hj
      have hlt' : k < vs.size := by rw [h.1]; exact hlt
      simpa [hlt'] using hr
    next => cases hj
  next hne =>
    have := h.2 j u (by rw [nth_eq]; exact hj)
    simpa [Array.getElem?_setIfInBounds_ne hne] using this

theorem AllR.puts [Tabs] : ∀ (us : List AV) (k : Nat) (cs : List AV) (vs : Array Value) (xs : List Value), AllR P w lo μ S cs vs → xs.length = us.length → (∀ j v, nth us j = some v → RelV P w lo μ S v (xs.getD j undef)) →
    ∀ m, AllR P w lo μ S (putCells cs (k + m) us) ((xs.zipIdx m).foldl (fun cs (c, j) => cs.setIfInBounds (k + j) c) vs)
  | [], k, cs, vs, xs, h, hl, _, m => by
    have : xs = [] := List.eq_nil_of_length_eq_zero (by simpa using hl)
    subst this
    exact h
  | u :: us, k, cs, vs, [], h, hl, _, m => by simp at hl
  | u :: us, k, cs, vs, x :: xs, h, hl, hx, m => by
    simp only [putCells, List.zipIdx_cons, List.foldl_cons]
    exact AllR.puts us k _ _ xs (h.set (hx 0 u rfl)) (by simpa using hl) (fun j v hv => hx (j + 1) v hv) (m + 1)

theorem afill_ok [Tabs] {place : Nat → Option (Nat × Nat)} : ∀ {ps : List (Nat × AV)} {cs cs' : List AV}, afill place ps cs = some cs' → ∀ {vs : Array Value}, AllR P w lo μ S cs vs → ∀ {qs : List (Nat × Value)},
    qs.map (·.1) = ps.map (·.1) → (∀ (j : Nat) (p : Nat × AV), ps[j]? = some p → ∃ q : Nat × Value, qs[j]? = some q ∧ RelV P w lo μ S p.2 q.2) → ∃ vs', Instr.fill place vs qs = some vs' ∧ AllR P w lo μ S cs' vs'
  | [], cs, cs', h, vs, hv, qs, hq, _ => by
    simp [afill] at h
    subst h
    have : qs = [] := by simpa using hq
    subst this
    exact ⟨vs, rfl, hv⟩
  | (i, v) :: r, cs, cs', h, vs, hv, [], hq, _ => by simp at hq
  | (i, v) :: r, cs, cs', h, vs, hv, (i', x) :: qs, hq, hr => by
    simp only [List.map_cons, List.cons.injEq] at hq
    obtain ⟨e, hq⟩ := hq
    subst e
    simp only [afill] at h
    split at h
    next off n us hp hc =>
      split at h
      next hn =>
        obtain ⟨q, hq1, hq2⟩ := hr 0 (i', v) rfl
        simp at hq1
        subst hq1
        obtain ⟨h1, h2⟩ := cellsOf_rel hq2 hc
        have h3 := AllR.puts us off cs vs x.cells.toList hv (by simpa using h1) (by simpa using h2) 0
        obtain ⟨vs', h4, h5⟩ := afill_ok h h3 hq (fun j p hj => hr (j + 1) p (by simpa using hj))
        refine ⟨vs', ?_, h5⟩
        have hz : ∀ (A : Array Value) (B : Array Value), A.zipIdx.foldl (fun cs (c, j) => cs.setIfInBounds (off + j) c) B = (A.toList.zipIdx 0).foldl (fun cs (c, j) => cs.setIfInBounds (off + j) c) B := by
          intro A B
          rw [← Array.foldl_toList]
          simp
        simp only [Instr.fill, hp]
        rw [if_neg (by simp [h1, hn.1]; have := hv.1; omega), hz]
        exact h4
      next => cases h
    next => cases h

theorem run_zero {T : Nat} {t : Ty} (h : InfoOK P T t) : ∃ z, (zeroValue T).run P w = .ok z w ∧ (sizeOf T).run P w = .ok t.size w ∧ isZ t z.cells.toList = true := by
  obtain ⟨i, z, h1, h2, h3, h4⟩ := h
  exact ⟨z, by simp [zeroValue, typeInfo, h1, h3], by simp [sizeOf, typeInfo, h1, h2], h4⟩

theorem zero_all {t : Ty} {z : Value} (h : isZ t z.cells.toList = true) : AllR P w lo μ S (zeroAV t) z.cells := by
  obtain ⟨h1, h2⟩ := isZ_rel (P := P) (S := S) (w := w) (lo := lo) (μ := μ) h
  exact ⟨by simpa using h1.symm, fun j v hv => by simpa using h2 j v hv⟩

theorem places_ok [Tabs] : ∀ {fields : List Go.Field} {fs : List (Nat × Ty)} {o : Nat}, fieldsOK P fields fs o → ∃ ps : List (Nat × Nat), (fields.mapM (fun f => Prod.mk f.offset <$> sizeOf f.type)).run P w = .ok ps w ∧ ∀ i, ps[i]? = placeF fs o i
  | [], [], o, _ => ⟨[], by simp, fun i => by simp [placeF]⟩
  | f :: fields, (ty, t) :: fs, o, h => by
    obtain ⟨h1, h2, h3, h4⟩ := h
    obtain ⟨ps, h5, h6⟩ := places_ok h4
    obtain ⟨z, _, h7, _⟩ := run_zero (w := w) h3
    refine ⟨(o, t.size) :: ps, by simp [List.mapM_cons, h1, h2, h7, h5], fun i => ?_⟩
    cases i with
    | zero => simp [placeF]
    | succ i => simp [placeF, h6]
  | [], _ :: _, o, h => h.elim
  | _ :: _, [], o, h => h.elim

theorem abuild_ok [Tabs] (hT : TabOK P tt) {ty : Nat} {ps : List (Nat × AV)} {q : QR} (h : (abuild tt ty ps).ev = some q) {qs : Array (Nat × Value)} (hq : qs.toList.map (·.1) = ps.map (·.1))
    (hr : ∀ (j : Nat) (p : Nat × AV), ps[j]? = some p → ∃ q : Nat × Value, qs.toList[j]? = some q ∧ RelV P w lo μ S p.2 q.2) :
    q.2 = [] ∧ ∃ v, (Instr.build ty qs).run P w = .ok v w ∧ RelV P w lo μ S q.1 v := by
  have hd := hT ty
  unfold abuild at h
  split at h
  · rename_i t fs he
    rw [he] at hd
    obtain ⟨fields, hu, hf, hs, hi⟩ := hd
    rw [Tr.ev_bind, Tr.ev_opt] at h
    cases hc : afill (placeF fs 0) ps (zeroAV t) with
    | none => rw [hc] at h; cases h
    | some cs =>
      rw [hc] at h
      have := ev_vq h; subst this
      obtain ⟨z, hz1, hz2, hz3⟩ := run_zero (w := w) hi
      obtain ⟨pl, hp1, hp2⟩ := places_ok (w := w) hf
      obtain ⟨vs, h1, h2⟩ := afill_ok hc (zero_all hz3) hq hr
      refine ⟨rfl, .agg vs, ?_, .agg h2.1.symm h2.2⟩
      have hfun : (fun i => pl[i]?) = placeF fs 0 := funext fun i => hp2 i
      have hm : (fields.mapM (fun f => Prod.mk f.offset <$> sizeOf f.type)).run P w = .ok pl.toArray w := by
        rw [Array.mapM_eq_mapM_toList]
        simp [hp1]
      simp [Instr.build, hz1, run_underlying hu, hm, hfun, h1]
  · rename_i n e te t he
    rw [he] at hd
    obtain ⟨hu, hie, hs, hi⟩ := hd
    rw [Tr.ev_bind, Tr.ev_opt] at h
    cases hc : afill (fun i => some (i * te.size, te.size)) ps (zeroAV t) with
    | none => rw [hc] at h; cases h
    | some cs =>
      rw [hc] at h
      have := ev_vq h; subst this
      obtain ⟨z, hz1, _, hz3⟩ := run_zero (w := w) hi
      obtain ⟨_, _, hz2, _⟩ := run_zero (w := w) hie
      obtain ⟨vs, h1, h2⟩ := afill_ok hc (zero_all hz3) hq hr
      exact ⟨rfl, .agg vs, by simp [Instr.build, hz1, run_underlying hu, hz2, h1], .agg h2.1.symm h2.2⟩
  · cases h

theorem flatL_rel [Tabs] {t : Ty} : ∀ {l : List t.I} {cs : List Value}, RepL S w t l cs → (List.flatMap (flat t) l).length = cs.length ∧ ∀ j v, nth (List.flatMap (flat t) l) j = some v → RelV P w lo μ S v (cs.getD j undef)
  | [], _, h => by simp only [RepL] at h; subst h; exact ⟨rfl, fun j v hv => by simp [nth] at hv⟩
  | x :: l, _, ⟨c, r, e, h1, h2⟩ => by
    subst e
    obtain ⟨h3, h4⟩ := flatL_rel h2
    have hl := h1.len
    have hf := flat_len t x
    refine ⟨by simp only [List.flatMap_cons, List.length_append]; omega, fun j v hv => ?_⟩
    rw [List.flatMap_cons, nth_eq] at hv
    by_cases hj : j < (flat t x).length
    · rw [List.getElem?_append_left hj] at hv
      have := flat_rel (P := P) (lo := lo) (μ := μ) h1 j v (by rw [nth_eq]; exact hv)
      rwa [List.getD_eq_getElem?_getD, List.getElem?_append_left (by omega), ← List.getD_eq_getElem?_getD]
    · rw [List.getElem?_append_right (by omega)] at hv
      have := h4 _ v (by rw [nth_eq]; exact hv)
      rwa [List.getD_eq_getElem?_getD, List.getElem?_append_right (by omega), show j - c.length = j - (flat t x).length by omega, ← List.getD_eq_getElem?_getD]

theorem chunks_rel [Tabs] {t : Ty} : ∀ {n : Nat} {cs : List AV} {l : List t.I}, chunks t n cs = some l → ∀ {vs : List Value}, vs.length = cs.length → (∀ j v, nth cs j = some v → RelV P w lo μ S v (vs.getD j undef)) → l.length = n ∧ RepL S w t l vs
  | 0, [], l, h, vs, hl, _ => by
    simp [chunks] at h
    subst h
    exact ⟨rfl, List.eq_nil_of_length_eq_zero (by simpa using hl)⟩
  | 0, _ :: _, l, h, vs, hl, _ => by simp [chunks] at h
  | n + 1, cs, l, h, vs, hl, hv => by
    simp only [chunks] at h
    split at h
    next x r hx hr =>
      cases h
      obtain ⟨h1, h2⟩ := chunks_rel (vs := vs.drop t.size) hr (by simp [hl]) fun j v hj => by
        rw [nth_eq, List.getElem?_drop] at hj
        have := hv _ v (by rw [nth_eq]; exact hj)
        rwa [List.getD_eq_getElem?_getD, List.getElem?_drop, ← List.getD_eq_getElem?_getD]
      refine ⟨by simp [h1], vs.take t.size, vs.drop t.size, (List.take_append_drop _ _).symm, unflat_rel (P := P) (lo := lo) (μ := μ) hx (by simp [hl]) fun j v hj => ?_, h2⟩
      rw [nth_eq, List.getElem?_take] at hj
      split at hj
      next hlt =>
        have := hv j v (by rw [nth_eq]; exact hj)
        rwa [List.getD_eq_getElem?_getD, List.getElem?_take, if_pos hlt, ← List.getD_eq_getElem?_getD]
      next => cases hj
    next => cases h

/-- Elements of zeros. -/
theorem made_rep {t : Ty} {z : Array Value} (hz : isZ t z.toList = true) : ∀ (n m : Nat), n ≤ m → RepL S w t (List.replicate n t.dflt) ((madeCells z (m * t.size)).toList.take (n * t.size)) := by
  have hl : z.size = t.size := by simpa using isZ_len hz
  have hp := t.size_pos
  have key : ∀ (n i m : Nat), i + n ≤ m → RepL S w t (List.replicate n t.dflt) (((madeCells z (m * t.size)).toList.drop (i * t.size)).take (n * t.size)) := by
    intro n
    induction n with
    | zero => intro i m _; simp [RepL]
    | succ n ih =>
      intro i m him
      have h1 := ih (i + 1) m (by omega)
      refine ⟨z.toList, _, ?_, isZ_rep hz, h1⟩
      have hle : (i + 1) * t.size ≤ m * t.size := Nat.mul_le_mul_right _ (by omega)
      apply List.ext_getElem?
      intro j
      rw [List.getElem?_take]
      by_cases hj : j < t.size
      · rw [if_pos (by rw [Nat.add_mul]; omega), List.getElem?_drop, List.getElem?_append_left (by simpa [hl] using hj)]
        have : i * t.size + j < m * t.size := by rw [Nat.add_mul] at hle; omega
        have hmod : (i * t.size + j) % t.size = j := by rw [Nat.mul_comm, Nat.mul_add_mod, Nat.mod_eq_of_lt hj]
        simp [madeCells, this, hl, hmod, hj]
      · rw [List.getElem?_append_right (by simp [hl]; omega)]
        simp only [Array.length_toList, hl]
        rw [List.getElem?_take, List.getElem?_drop, List.getElem?_drop]
        rw [show i * t.size + j = (i + 1) * t.size + (j - t.size) by rw [Nat.add_mul]; omega]
        by_cases hjj : j < (n + 1) * t.size
        · rw [if_pos hjj, if_pos (by rw [Nat.add_mul] at hjj; omega)]
        · rw [if_neg hjj, if_neg (by rw [Nat.add_mul] at hjj; omega)]
  intro n m h
  have := key n 0 m (by omega)
  simpa using this

theorem arr_made [Tabs] (hm : Mem P X lo g μ w) {d e : Nat} (hd : μ d = none) {t : Ty} {l : List t.I} {cur : Array Value} {cap : Nat} (hs : cur.size = cap * t.size) (hle : l.length ≤ cap) (hcap : cap ≤ maxLen)
    (hr : RepL (SS X μ) w t l (cur.toList.take (l.length * t.size))) :
    Nx P X lo g μ w (.arr d, [(d, .arr e t l)]) (.slice (some ⟨w.heap.size, 0, none⟩) l.length cap) (w.alloc (.cells cur e)) := by
  have hb : Below w.heap.size w (w.alloc (.cells cur e)) := (Below.refl _ _).alloc (Nat.le_refl _) _
  refine Nx.made hm hb (mv := ⟨.slice (some ⟨w.heap.size, 0, none⟩) l.length cap, [w.heap.size], []⟩) hd rfl (fun μ' hμ hS => ?_) fun μ' h => .arr h
  have hlen : (cur.toList.take (l.length * t.size)).length = l.length * t.size := by
    have h1 := Nat.mul_le_mul_right t.size hle
    have h2 : cur.toList.length = cap * t.size := by simpa using hs
    rw [List.length_take, h2]
    exact Nat.min_eq_left h1
  exact ⟨⟨rfl, rfl⟩, fun b hb' h => by simp [rootV] at hb'; exact Nat.lt_irrefl _ (hb' ▸ hm.hlo b h), _, ⟨hlen, .inr ⟨w.heap.size, cap, cur, rfl, Nat.zero_le _, heap_alloc_new w _, hle, hcap, hs, rfl⟩⟩, hr.step fun b hlt hSb => ⟨hS b hlt hSb, hb.block b hlt⟩⟩

theorem abuildSlice_ok [Tabs] (hT : TabOK P tt) (hm : Mem P X lo g μ w) {d ty n : Nat} (hd : μ d = none) {ps : List (Nat × AV)} {q : QR} (h : (abuildSlice tt d ty n ps).ev = some q) {qs : Array (Nat × Value)} (hq : qs.toList.map (·.1) = ps.map (·.1))
    (hr : ∀ (j : Nat) (p : Nat × AV), ps[j]? = some p → ∃ q : Nat × Value, qs.toList[j]? = some q ∧ RelV P w lo μ (SS X μ) p.2 q.2) :
    ∃ v w', (Instr.buildSlice ty n qs).run P w = .ok v w' ∧ Nx P X lo g μ w q v w' := by
  have hdd := hT ty
  unfold abuildSlice at h
  split at h
  · rename_i e t b he
    rw [he] at hdd
    obtain ⟨hu, ⟨i, z, h1, h2, h3, h4, h5⟩, _⟩ := hdd
    split at h
    next hn =>
      rw [Tr.ev_bind, Tr.ev_opt] at h
      cases hc : afill (fun i => some (i * t.size, t.size)) ps (List.flatMap (flat t) (List.replicate n t.dflt)) with
      | none => rw [hc] at h; cases h
      | some cs =>
        rw [hc] at h
        simp only [Option.bind_some] at h
        rw [Tr.ev_bind, Tr.ev_opt] at h
        cases hl : chunks t n cs with
        | none => rw [hl] at h; cases h
        | some l =>
          rw [hl] at h
          simp only [Option.bind_some, Tr.ev_l, Option.some.injEq] at h
          subst h
          have hmade := made_rep (S := SS X μ) (w := w) h5 n n (Nat.le_refl _)
          rw [List.take_of_length_le (by simp [madeCells])] at hmade
          obtain ⟨f1, f2⟩ := flatL_rel (P := P) (lo := lo) (μ := μ) hmade
          obtain ⟨vs, h6, h7⟩ := afill_ok hc (vs := madeCells z.cells (n * t.size)) ⟨by simpa using f1.symm, fun j v hv => by simpa using f2 j v hv⟩ hq hr
          obtain ⟨h8, h9⟩ := chunks_rel (vs := vs.toList) hl (by simpa using h7.1) (by simpa using h7.2)
          have hsz : vs.size = n * t.size := by
            have := h9.len
            rw [h8] at this
            simpa using this
          refine ⟨_, _, ?_, arr_made hm hd (cap := n) (cur := vs) (e := e) hsz (by omega) (by have := hn.1; unfold maxLen; omega) (by rw [h8, List.take_of_length_le (by simp [hsz])]; exact h9)⟩
          have hle : ¬ (16777216 < n * t.size) := by
            have := Nat.mul_le_mul hn.1 hn.2
            omega
          have hfill : Instr.fill (fun i => some (i * t.size, t.size)) (Array.map (fun x => z.cells[x % z.cells.size]!) (Array.range (n * t.size))) qs.toList = some vs := h6
          by_cases h0 : n * t.size = 0
          · have hn0 : n = 0 := by
              have := t.size_pos
              rcases Nat.mul_eq_zero.1 h0 with h | h
              · exact h
              · omega
            subst hn0
            simp only [Nat.zero_mul] at hfill
            have : Array.map (fun x => z.cells[x % z.cells.size]!) (Array.range 0) = (#[] : Array Value) := by simp [Array.range_zero']
            rw [this] at hfill
            simp [Instr.buildSlice, run_underlying hu, sizeOf, typeInfo, h1, h2, hfill, newRow, h8, Array.range_zero']
          · simp [Instr.buildSlice, run_underlying hu, sizeOf, typeInfo, zeroValue, h1, h2, h4, hle, h0, hfill, newRow, h8]
    next => cases h
  · cases h

theorem amake_ok [Tabs] (hT : TabOK P tt) (hm : Mem P X lo g μ w) {d ty : Nat} (hd : μ d = none) {x y : AV} {q : QR} (h : (amake tt d ty x y).ev = some q) {vx vy : Value} (hx : RelV P w lo μ (SS X μ) x vx) (hy : RelV P w lo μ (SS X μ) y vy) :
    ∃ v w', (Instr.makeSlice ty vx vy).run P w = .ok v w' ∧ Nx P X lo g μ w q v w' := by
  have hdd := hT ty
  unfold amake at h
  split at h
  · rename_i k l k' c
    split at h
    next e t b he =>
      rw [he] at hdd
      obtain ⟨hu, ⟨i, z, h1, h2, h3, h4, h5⟩, _⟩ := hdd
      obtain ⟨hb, h⟩ := ev_g h
      have e1 := hx.int
      have e2 := hy.int
      subst e1; subst e2
      split at h
      next hb0 =>
        simp only [Tr.ev_l, Option.some.injEq] at h
        subst h
        simp only [Bool.and_eq_true, decide_eq_true_eq] at hb
        exact mk hm hd hu h1 h2 h3 h4 h5 l c hb.1.1 hb.1.2 hb.2 hb0
      next => cases h
    next => cases h
  · cases h
where
  mk {d ty e : Nat} {t : Ty} {b : Nat} {i : TypeInfo} {z : Value} {k k' : IntKind} (hm : Mem P X lo g μ w) (hd : μ d = none) (hu : P.underlying ty = some (.slice e)) (h1 : P.info? e = some i) (h2 : i.size = t.size) (h3 : i.bytes = b) (h4 : i.zero = some z) (h5 : isZ t z.cells.toList = true)
      (l c : Int) (hl : 0 ≤ l) (hlc : l ≤ c) (hbc : (b : Int) * c ≤ 281474976710656) (hb0 : 0 < b) :
      ∃ v w', (Instr.makeSlice ty (.int k l) (.int k' c)).run P w = .ok v w' ∧ Nx P X lo g μ w (.arr d, [(d, .arr e t (List.replicate l.toNat t.dflt))]) v w' := by
    have hc48 : c ≤ 281474976710656 := by
      have h0 : (1 : Int) * c ≤ (b : Int) * c := Int.mul_le_mul_of_nonneg_right (by omega) (by omega)
      omega
    have hrun := run_make (P := P) w ty e i z hu h1 h4 k k' l c hl hlc (by rw [h3]; exact hbc) (by omega)
    rw [h2] at hrun
    refine ⟨_, _, hrun, ?_⟩
    have := arr_made hm hd (l := List.replicate l.toNat t.dflt) (cap := c.toNat) (cur := madeCells z.cells (c.toNat * t.size)) (e := e) (size_madeCells _ _) (by simp; omega) (by unfold maxLen; omega)
      (by simp only [List.length_replicate]; exact made_rep h5 _ _ (by omega))
    simpa using this
end
end Go.Proofs.Ytlmbhkmaflhagaa
