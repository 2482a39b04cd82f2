/-
  Operations that read memory, addresses, lengths.
-/
import Derived.Test.YtlmbhkmaflhagaaB4
namespace Go.Proofs.Ytlmbhkmaflhagaa
open Go.RowKit (Below)

section
variable {P : Program} {tt : Nat → TD} {w : World} {lo : Nat → Prop} {μ : Nat → Option MV} {S : Nat → Prop}

theorem flat_len : ∀ (t : Ty) (x : t.I), (flat t x).length = t.size
  | .pair a b, (x, y) => by simp [flat, Ty.size, flat_len a x, flat_len b y]
  | .int _, _ => rfl
  | .bool, _ => rfl
  | .str, _ => rfl
  | .slice _, _ => rfl

theorem flat_rel [Tabs] : ∀ {t : Ty} {x : t.I} {c : List Value}, Rep S w t x c → ∀ j v, nth (flat t x) j = some v → RelV P w lo μ S v (c.getD j undef)
  | .pair a b, (x, y), c, h, j, v, hv => by
    obtain ⟨c1, c2, rfl, h1, h2⟩ := h
    have hl := h1.len
    have hf := flat_len a x
    simp only [flat, nth_eq] at hv
    by_cases hj : j < (flat a x).length
    · rw [List.getElem?_append_left hj] at hv
      have := flat_rel h1 j v (by rw [nth_eq]; exact hv)
      rwa [List.getD_eq_getElem?_getD, List.getElem?_append_left (by omega), ← List.getD_eq_getElem?_getD]
    · rw [List.getElem?_append_right (by omega)] at hv
      have := flat_rel h2 _ v (by rw [nth_eq]; exact hv)
      rwa [List.getD_eq_getElem?_getD, List.getElem?_append_right (by omega), show j - c1.length = j - (flat a x).length by omega, ← List.getD_eq_getElem?_getD]
  | .int _, _, c, h, j, v, hv => by
    have h' := h
    simp only [Rep] at h'; subst h'
    match j, hv with
    | 0, hv => simp [flat, nth] at hv; subst hv; exact .dat rfl h
  | .bool, _, c, h, j, v, hv => by
    have h' := h
    simp only [Rep] at h'; subst h'
    match j, hv with
    | 0, hv => simp [flat, nth] at hv; subst hv; exact .dat rfl h
  | .str, _, c, h, j, v, hv => by
    have h' := h
    simp only [Rep] at h'; subst h'
    match j, hv with
    | 0, hv => simp [flat, nth] at hv; subst hv; exact .dat rfl h
  | .slice _, _, c, h, j, v, hv => by
    have h' := h
    simp only [Rep] at h'
    obtain ⟨a, cap, rfl, _⟩ := h'
    match j, hv with
    | 0, hv => simp [flat, nth] at hv; subst hv; exact .dat rfl h

/-- The cells from an address on stand for these abstract values. -/
def CellsR (P : Program) (w : World) (lo : Nat → Prop) (μ : Nat → Option MV) (S : Nat → Prop) (cs : List AV) (b off : Nat) : Prop :=
  ∀ j v, nth cs j = some v → ∃ x, w.cell? ⟨b, off + j, none⟩ = some x ∧ RelV P w lo μ S v x

theorem load_ok (hT : TabOK P tt) {ty : Nat} {sz : Nat × Bool} (hsz : tySize tt ty = some sz) {cs : List AV} {b off k : Nat} (hc : CellsR P w lo μ S cs b off) {v : AV} (hv : cut cs k sz = some v) :
    ∃ x, (loadVar ty ⟨b, off + k, none⟩).run P w = .ok x w ∧ RelV P w lo μ S v x := by
  obtain ⟨h1, h2⟩ := run_agg (P := P) (w := w) hT hsz
  unfold cut at hv
  split at hv
  next hb =>
    split at hv
    next hk =>
      simp at hv
      subst hv
      have hex : ∃ vs : List Value, vs.length = sz.1 ∧ ∀ j, j < sz.1 → ∃ y, vs[j]? = some y ∧ w.cell? ⟨b, off + k + j, none⟩ = some y ∧ ∀ v, nth cs (k + j) = some v → RelV P w lo μ S v y := by
        have : ∀ n, n ≤ sz.1 → ∃ vs : List Value, vs.length = n ∧ ∀ j, j < n → ∃ y, vs[j]? = some y ∧ w.cell? ⟨b, off + k + j, none⟩ = some y ∧ ∀ v, nth cs (k + j) = some v → RelV P w lo μ S v y := by
          intro n
          induction n with
          | zero => intro _; exact ⟨[], rfl, fun j hj => by omega⟩
          | succ n ih =>
            intro hn
            obtain ⟨vs, hl, hvs⟩ := ih (by omega)
            obtain ⟨v, hv⟩ : ∃ v, nth cs (k + n) = some v := ⟨cs[k + n]'(by omega), by rw [nth_eq]; simp⟩
            obtain ⟨x, hx, hr⟩ := hc _ _ hv
            refine ⟨vs ++ [x], by simp [hl], fun j hj => ?_⟩
            by_cases hjn : j < n
            · obtain ⟨y, a, b', c⟩ := hvs j hjn
              exact ⟨y, by rw [List.getElem?_append_left (by omega)]; exact a, b', c⟩
            · have : j = n := by omega
              subst this
              refine ⟨x, by rw [List.getElem?_append_right (by omega)]; simp [hl], by rw [Nat.add_assoc]; exact hx, fun v' hv' => ?_⟩
              rw [hv] at hv'; cases hv'; exact hr
        exact this sz.1 (Nat.le_refl _)
      obtain ⟨vs, hl, hvs⟩ := hex
      have hload := run_loadCells_list (P := P) w ⟨b, off + k, none⟩ vs (fun j u hu => by
        have hj : j < sz.1 := by
          rw [← hl]
          exact (List.getElem?_eq_some_iff.1 hu).1
        obtain ⟨y, a, b', _⟩ := hvs j hj
        rw [hu] at a
        cases a
        rw [Addr.add_lit]
        exact b')
      rw [hl] at hload
      refine ⟨.agg vs.toArray, by simp [loadVar, h1, hb, h2, hload], .agg (by simp [hl]; omega) fun j v hv => ?_⟩
      rw [nth_eq, List.getElem?_take] at hv
      split at hv
      next hj =>
        rw [List.getElem?_drop] at hv
        obtain ⟨y, a, _, c⟩ := hvs j hj
        have := c v (by rw [nth_eq]; exact hv)
        simpa [a] using this
      next => cases hv
    next => cases hv
  next hb =>
    obtain ⟨x, hx, hr⟩ := hc _ _ hv
    exact ⟨x, by simp [loadVar, h1, hb, run_load, hx], hr⟩

variable {X : Nat → Prop} {g : Nat → Option Ob}

theorem Mem.cells [Tabs] (hm : Mem P X lo g μ w) {o b k : Nat} {cs : List AV} {rs : List Nat} {hds : List Value} (hr : μ o = some ⟨.pointer (some ⟨b, 0, none⟩), rs, hds⟩) (hg : g o = some (.cells cs)) : CellsR P w lo μ (SS X μ) (cs.drop k) b k := by
  obtain ⟨x, hx, hob⟩ := hm.ob _ _ hr
  rw [hg] at hx
  cases hx
  obtain ⟨b', vs, e, he, _, hh, hs, hv⟩ := hob
  simp only [MV.mk.injEq, Value.pointer.injEq, Option.some.injEq, Addr.mk.injEq, and_true] at he
  obtain ⟨he, _⟩ := he
  subst he
  intro j v hj
  rw [nth_eq, List.getElem?_drop] at hj
  have hlt : k + j < vs.size := by rw [hs]; exact (List.getElem?_eq_some_iff.1 hj).1
  refine ⟨vs.getD (k + j) undef, ?_, hv (k + j) v (by rw [nth_eq]; exact hj)⟩
  rw [cell_of_row w b (k + j) vs e (0, 0) hh]
  simp [hlt]

theorem RelV.cells {cs : List AV} {x : Value} (h : RelV P w lo μ S (.ptr cs) x) : ∃ b k, x = .pointer (some ⟨b, k, none⟩) ∧ (S b ∨ lo b) ∧ CellsR P w lo μ S cs b k := by
  cases h with
  | ptr xs _ hb hx h => exact ⟨_, _, rfl, hb, fun j v hv => ⟨xs j, hx j v hv, h j v hv⟩⟩

theorem cut_drop {cs : List AV} {k j : Nat} {sz : Nat × Bool} {v : AV} (h : cut cs (k + j) sz = some v) : cut (cs.drop k) j sz = some v := by
  unfold cut at *
  split at h
  next hb =>
    split at h
    next hk => rw [if_pos (by simp; omega)]; simpa [List.drop_drop] using h
    next => cases h
  next hb => rw [nth_eq] at *; rw [List.getElem?_drop]; exact h

/-- An owned array's element. -/
theorem Mem.elem [Tabs] (hm : Mem P X lo g μ w) {o b n c : Nat} {e : Nat} {t : Ty} {l : List t.I} {rs : List Nat} {hds : List Value} (hr : μ o = some ⟨.slice (some ⟨b, 0, none⟩) n c, rs, hds⟩) (hg : g o = some (.arr e t l)) {i : Nat} (hi : i < l.length) :
    ∃ cs, Rep (SS X μ) w t (l.getD i t.dflt) cs ∧ ∀ j u, cs[j]? = some u → w.cell? ⟨b, i * t.size + j, none⟩ = some u := by
  obtain ⟨x, hx, hob⟩ := hm.ob _ _ hr
  rw [hg] at hx
  cases hx
  obtain ⟨⟨hhs, hrs⟩, hnl, xs, hown, hrep⟩ := hob
  have hx : l[i]? = some (l.getD i t.dflt) := by simp [List.getD_eq_getElem?_getD, hi]
  obtain ⟨cs, h1, h2⟩ := hrep.at hx
  refine ⟨cs, h1, fun j u hu => ?_⟩
  have := hown.cells (g := b) rfl _ _ (h2 j u hu)
  rwa [Addr.add_lit, Nat.zero_add] at this

/-- An element of an owned row. -/
theorem Mem.rowAt [Tabs] (hm : Mem P X lo g μ w) {o i : Nat} {v x : Value} {rs : List Nat} {hds : List Value} {e e2 : Nat} {t : Ty} {l : List (List t.I)} (hr : μ o = some ⟨v, rs, hds⟩) (hx : hds[i]? = some x) (hg : g o = some (.rows e e2 t l none)) :
    i < l.length ∧ ∃ xs, w.ownsRow 0 e2 t.size x (l.getD i []).length xs ∧ RepL (SS X μ) w t (l.getD i []) xs := by
  obtain ⟨y, hy, hob⟩ := hm.ob _ _ hr
  rw [hg] at hy
  cases hy
  obtain ⟨hrw, _⟩ := hob
  have hlen := hrw.len
  have hi : i < l.length := by
    have := (List.getElem?_eq_some_iff.1 hx).1
    simp only at hlen
    omega
  obtain ⟨_, xs, k2, k3⟩ := hrw.row i x (l.getD i []) (fun j k hk => by cases hk) hx (by simp [List.getD_eq_getElem?_getD, hi])
  exact ⟨hi, xs, k2, k3⟩

theorem aload_ok [Tabs] (hT : TabOK P tt) (hm : Mem P X lo g μ w) {ty : Nat} {a : AV} {q : QR} (h : (aload tt g ty a).ev = some q) {va : Value} (ha : RelV P w lo μ (SS X μ) a va) :
    q.2 = [] ∧ ∃ v, (Instr.loadAt ty va).run P w = .ok v w ∧ RelV P w lo μ (SS X μ) q.1 v := by
  unfold aload at h
  split at h
  · rename_i sz o k hsz
    split at h
    next cs hg =>
      rw [Tr.ev_bind, Tr.ev_opt] at h
      cases hc : cut cs k sz with
      | none => rw [hc] at h; cases h
      | some v =>
        rw [hc] at h
        have := ev_vq h; subst this
        cases ha with
        | box hμ =>
          obtain ⟨x, h1, h2⟩ := load_ok hT hsz (hm.cells hμ hg) (cut_drop (j := 0) hc)
          exact ⟨rfl, x, by simpa [Instr.loadAt, Instr.sureAddr] using h1, h2⟩
    next => cases h
  · rename_i sz cs hsz
    rw [Tr.ev_bind, Tr.ev_opt] at h
    cases hc : cut cs 0 sz with
    | none => rw [hc] at h; cases h
    | some v =>
      rw [hc] at h
      have := ev_vq h; subst this
      obtain ⟨b, k, rfl, _, hcs⟩ := ha.cells
      obtain ⟨x, h1, h2⟩ := load_ok hT hsz hcs hc
      exact ⟨rfl, x, by simpa [Instr.loadAt, Instr.sureAddr] using h1, h2⟩
  · rename_i sz o i s hsz
    split at h
    next e t l hg =>
      split at h
      next hz =>
        obtain ⟨hi, h⟩ := ev_g h
        rw [Tr.ev_bind, Tr.ev_opt] at h
        cases hc : cut (flat t (l.getD i t.dflt)) 0 sz with
        | none => rw [hc] at h; cases h
        | some v =>
          rw [hc] at h
          have := ev_vq h; subst this
          cases ha with
          | elt hμ =>
            obtain ⟨cs, h1, h2⟩ := hm.elem hμ hg (by simpa using hi)
            have hcr : CellsR P w lo μ (SS X μ) (flat t (l.getD i t.dflt)) _ (i * s) := fun j v hv => by
              have hj : j < cs.length := by
                rw [h1.len, ← flat_len t (l.getD i t.dflt)]
                rw [nth_eq] at hv
                exact (List.getElem?_eq_some_iff.1 hv).1
              refine ⟨cs.getD j undef, ?_, flat_rel h1 j v hv⟩
              rw [hz.2]
              exact h2 j _ (by simp [List.getD_eq_getElem?_getD, hj])
            obtain ⟨x, h3, h4⟩ := load_ok hT hsz hcr hc
            exact ⟨rfl, x, by simpa [Instr.loadAt, Instr.sureAddr] using h3, h4⟩
      next => cases h
    next e l hg =>
      split at h
      next hz =>
        obtain ⟨hi, h⟩ := ev_g h
        have := ev_iq h; subst this
        have hi' : i < l.length := by simpa using hi
        cases ha with
        | @elt _ _ _ _ b n c _ _ hμ =>
          obtain ⟨x, hx, hob⟩ := hm.ob _ _ hμ
          rw [hg] at hx
          cases hx
          obtain ⟨b', cap, cur, fr, he, _, hh, _, hlc, hcs, htk⟩ := hob
          simp only [MV.mk.injEq, Value.slice.injEq, Option.some.injEq, Addr.mk.injEq, and_true] at he
          obtain ⟨⟨rfl, _⟩, _⟩ := he
          have hcell : w.cell? ⟨b, i * s + 0, none⟩ = some (.int .u8 (l.getD i 0)) := by
            rw [cell_of_row w b (i * s + 0) cur e fr hh, hz.2.2]
            have h1 : cur.toList[i]? = some (.int .u8 (l.getD i 0)) := by
              have h2 : (cur.toList.take l.length)[i]? = cur.toList[i]? := by rw [List.getElem?_take, if_pos hi']
              rw [← h2, htk, List.getElem?_map]
              simp [List.getD_eq_getElem?_getD, hi']
            simpa using h1
          obtain ⟨sz1, sz2⟩ := sz
          obtain ⟨q1, q2, _⟩ := hz
          simp only at q1 q2
          subst q1; subst q2
          obtain ⟨x, h3, h4⟩ := load_ok (P := P) (lo := lo) (μ := μ) (S := SS X μ) hT hsz (cs := [.dat (.int .u8) (l.getD i 0)]) (b := b) (off := i * s) (k := 0) (v := .dat (.int .u8) (l.getD i 0)) (fun j v hv => by
            cases j with
            | zero =>
              simp only [nth, Option.some.injEq] at hv
              subst hv
              exact ⟨_, hcell, rel_int _ _⟩
            | succ j => simp [nth] at hv) (by simp [cut, nth])
          refine ⟨rfl, x, by simpa [Instr.loadAt, Instr.sureAddr] using h3, h4⟩
      next => cases h
    next e e2 t l hg =>
      split at h
      next hz =>
        obtain ⟨hi, h⟩ := ev_g h
        have := ev_vq h; subst this
        have hi' : i < l.length := by simpa using hi
        cases ha with
        | @elt _ _ _ _ b n c _ hds hμ =>
          obtain ⟨y, hy, hob⟩ := hm.ob _ _ hμ
          rw [hg] at hy
          cases hy
          obtain ⟨hrw, _⟩ := hob
          have hlen := hrw.len
          simp only at hlen
          obtain ⟨x, hx⟩ : ∃ x, hds[i]? = some x := ⟨hds[i]'(by omega), by simp⟩
          obtain ⟨q1, q2, q3⟩ := hz
          obtain ⟨k1, _⟩ := run_agg (P := P) (w := w) hT hsz
          have hcell : w.cell? ⟨b, i * s, none⟩ = some x := by
            have := hrw.own.cells (g := b) rfl i x hx
            rw [Addr.add_lit, Nat.zero_add] at this
            rw [q3, Nat.mul_one]
            exact this
          rw [q2] at k1
          obtain ⟨a0, m0, c0, rfl⟩ := hrw.slc x (List.mem_of_getElem? hx)
          exact ⟨rfl, .slice a0 m0 c0, by simp [Instr.loadAt, Instr.sureAddr, loadVar, k1, run_load, hcell], .row hμ hx⟩
      next => cases h
    next => cases h
  · rename_i sz o i s k hsz
    split at h
    next e t l hg =>
      split at h
      next hz =>
        obtain ⟨hi, h⟩ := ev_g h
        rw [Tr.ev_bind, Tr.ev_opt] at h
        cases hc : cut (flat t (l.getD i t.dflt)) k sz with
        | none => rw [hc] at h; cases h
        | some v =>
          rw [hc] at h
          have := ev_vq h; subst this
          cases ha with
          | @fld _ _ _ _ _ b n c _ _ hμ =>
            obtain ⟨cs, h1, h2⟩ := hm.elem hμ hg (by simpa using hi)
            have hcr : CellsR P w lo μ (SS X μ) ((flat t (l.getD i t.dflt)).drop k) b (i * s + k) := fun j v hv => by
              rw [nth_eq, List.getElem?_drop] at hv
              have hj : k + j < cs.length := by
                rw [h1.len, ← flat_len t (l.getD i t.dflt)]
                exact (List.getElem?_eq_some_iff.1 hv).1
              refine ⟨cs.getD (k + j) undef, ?_, flat_rel h1 (k + j) v (by rw [nth_eq]; exact hv)⟩
              rw [hz, Nat.add_assoc]
              exact h2 (k + j) _ (by simp [List.getD_eq_getElem?_getD, hj])
            obtain ⟨x, h3, h4⟩ := load_ok hT hsz hcr (cut_drop (j := 0) hc)
            exact ⟨rfl, x, by simpa [Instr.loadAt, Instr.sureAddr] using h3, h4⟩
      next => cases h
    next => cases h
  · rename_i sz o i n s hsz
    split at h
    next e e2 t l hg =>
      split at h
      next hz =>
        obtain ⟨hi, h⟩ := ev_g h
        rw [Tr.ev_bind, Tr.ev_opt] at h
        cases hc : cut (flat t ((l.getD i []).getD n t.dflt)) 0 sz with
        | none => rw [hc] at h; cases h
        | some v =>
          rw [hc] at h
          have := ev_vq h; subst this
          cases ha with
          | @relt _ _ _ _ _ v0 rs hds b m c hμ hx =>
            obtain ⟨hil, xs, hown, hrep⟩ := hm.rowAt hμ hx hg
            have hn : n < (l.getD i []).length := by simpa using hi
            obtain ⟨cs, h1, h2⟩ := hrep.at (i := n) (x := (l.getD i []).getD n t.dflt) (by rw [List.getD_eq_getElem?_getD (l := l.getD i [])]; simp only [List.getElem?_eq_getElem hn, Option.getD_some])
            have hcr : CellsR P w lo μ (SS X μ) (flat t ((l.getD i []).getD n t.dflt)) b (n * s) := fun j v hv => by
              have hj : j < cs.length := by
                rw [h1.len, ← flat_len t ((l.getD i []).getD n t.dflt)]
                rw [nth_eq] at hv
                exact (List.getElem?_eq_some_iff.1 hv).1
              refine ⟨cs.getD j undef, ?_, flat_rel h1 j v hv⟩
              rw [hz.2]
              have := hown.cells (g := b) rfl _ _ (h2 j (cs.getD j undef) (by simp [List.getD_eq_getElem?_getD, hj]))
              rwa [Addr.add_lit, Nat.zero_add] at this
            obtain ⟨x, h3, h4⟩ := load_ok hT hsz hcr hc
            exact ⟨rfl, x, by simpa [Instr.loadAt, Instr.sureAddr] using h3, h4⟩
      next => cases h
    next => cases h
  · cases h

theorem inR_iff {n : Int} {len : Nat} (h : inR n len = true) : 0 ≤ n ∧ n < len ∧ n.toNat < len := by
  simp only [inR, Bool.and_eq_true, decide_eq_true_eq] at h
  omega

theorem run_indexAt [Tabs] {T e sz : Nat} (hu : P.underlying T = some (.slice e)) {i : TypeInfo} (he : P.info? e = some i) (hs : i.size = sz) {b off len cap : Nat} {k : IntKind} {n : Int} (h : inR n len = true) :
    (Instr.indexAt T (.slice (some ⟨b, off, none⟩) len cap) (.int k n)).run P w = .ok (.pointer (some ⟨b, off + n.toNat * sz, none⟩)) w := by
  obtain ⟨h1, h2, _⟩ := inR_iff h
  simp [Instr.indexAt, asIntOf, run_underlying hu, h1, h2, sizeOf, typeInfo, he, hs, Addr.add_lit]

theorem ptr_flat [Tabs] {t : Ty} {x : t.I} {cs : List Value} {b k : Nat} (hr : Rep S w t x cs) (hb : S b) (hc : ∀ j u, cs[j]? = some u → w.cell? ⟨b, k + j, none⟩ = some u) : RelV P w lo μ S (.ptr (flat t x)) (.pointer (some ⟨b, k, none⟩)) := by
  refine .ptr (fun j => cs.getD j undef) ?_ (.inl hb) (fun j v hv => ?_) (flat_rel hr)
  · intro e
    have := flat_len t x
    have := t.size_pos
    rw [e] at *
    simp at *
    omega
  · rw [nth_eq] at hv
    have hj := (List.getElem?_eq_some_iff.1 hv).1
    rw [flat_len, ← hr.len] at hj
    exact hc j _ (by simp [List.getD_eq_getElem?_getD, hj])

theorem aindex_ok [Tabs] (hT : TabOK P tt) (hm : Mem P X lo g μ w) {ty : Nat} {x i : AV} {q : QR} (h : (aindex tt g ty x i).ev = some q) {vx vi : Value} (hx : RelV P w lo μ (SS X μ) x vx) (hi : RelV P w lo μ (SS X μ) i vi) :
    q.2 = [] ∧ ∃ v, (Instr.indexAt ty vx vi).run P w = .ok v w ∧ RelV P w lo μ (SS X μ) q.1 v := by
  have hd := hT ty
  unfold aindex at h
  split at h
  · rename_i t l k n
    have ei := hi.int
    subst ei
    split at h
    next e t' by' hq =>
      rw [hq] at hd
      obtain ⟨hu, ⟨inf, z, he, hs, _⟩, _⟩ := hd
      split at h
      next hsz =>
        obtain ⟨hin, h⟩ := ev_g h
        have := ev_vq h; subst this
        obtain ⟨h0, h1, h2⟩ := inR_iff hin
        obtain ⟨a, cap, rfl, hrep⟩ := hx.slice
        simp only [Rep] at hrep
        obtain ⟨a', cap', ea, _, hel⟩ := hrep
        simp only [List.cons.injEq, Value.slice.injEq, and_true] at ea
        obtain ⟨rfl, _, rfl⟩ := ea
        obtain ⟨b, off, c, rfl, hS, hr, hc⟩ := hel n.toNat (l.getD n.toNat t.dflt) (by simp [List.getD_eq_getElem?_getD, h2])
        refine ⟨rfl, _, run_indexAt hu he hs hin, ptr_flat hr hS fun j u hj => ?_⟩
        have := hc j u hj
        rwa [← Nat.add_assoc, hsz] at this
      next => cases h
    next => cases h
  · rename_i o k n
    have ei := hi.int
    subst ei
    split at h
    next e t' by' e' t l hq hg =>
      rw [hq] at hd
      obtain ⟨hu, ⟨inf, z, he, hs, _⟩, _⟩ := hd
      split at h
      next hsz =>
        obtain ⟨hin, h⟩ := ev_g h
        have := ev_vq h; subst this
        obtain ⟨h0, h1, h2⟩ := inR_iff hin
        cases hx with
        | @arr _ _ a len cap _ _ hμ =>
          obtain ⟨y, hy, hob⟩ := hm.ob _ _ hμ
          rw [hg] at hy
          cases hy
          obtain ⟨⟨hhs, hrs⟩, hnl, xs, hown, hrep⟩ := hob
          rcases hown.2 with ⟨e1, e2⟩ | ⟨b, cap', cur, ev, _⟩
          · omega
          · simp only [Value.slice.injEq] at ev
            obtain ⟨rfl, rfl, rfl⟩ := ev
            refine ⟨rfl, _, run_indexAt hu he (hs.trans hsz.symm) hin, ?_⟩
            rw [Nat.zero_add]
            exact .elt hμ
      next => cases h
    next e t' by' e' l hq hg =>
      rw [hq] at hd
      obtain ⟨hu, ⟨inf, z, he, hs, _⟩, _⟩ := hd
      split at h
      next hsz =>
        obtain ⟨hin, h⟩ := ev_g h
        have := ev_vq h; subst this
        obtain ⟨h0, h1, h2⟩ := inR_iff hin
        cases hx with
        | @arr _ _ a len cap _ _ hμ =>
          obtain ⟨y, hy, hob⟩ := hm.ob _ _ hμ
          rw [hg] at hy
          cases hy
          obtain ⟨b, cap', cur, fr, ev, _⟩ := hob
          simp only [MV.mk.injEq, Value.slice.injEq] at ev
          obtain ⟨⟨rfl, rfl, rfl⟩, _⟩ := ev
          refine ⟨rfl, _, run_indexAt hu he (hs.trans hsz) hin, ?_⟩
          rw [Nat.zero_add]
          exact .elt hμ
      next => cases h
    next e t' by' e' e2' tt' l hh hq hg =>
      rw [hq] at hd
      obtain ⟨hu, ⟨inf, z, he, hs, _⟩, _⟩ := hd
      split at h
      next hsz =>
        obtain ⟨hin, h⟩ := ev_g h
        have := ev_vq h; subst this
        obtain ⟨h0, h1, h2⟩ := inR_iff hin
        cases hx with
        | @arr _ _ a len cap _ _ hμ =>
          obtain ⟨y, hy, hob⟩ := hm.ob _ _ hμ
          rw [hg] at hy
          cases hy
          obtain ⟨hr, _⟩ := hob
          rcases hr.own.2 with ⟨e1, e2⟩ | ⟨b, cap', cur, ev, _⟩
          · omega
          · simp only [Value.slice.injEq] at ev
            obtain ⟨rfl, rfl, rfl⟩ := ev
            refine ⟨rfl, _, run_indexAt hu he (hs.trans hsz) hin, ?_⟩
            rw [Nat.zero_add]
            exact .elt hμ
      next => cases h
    next => cases h
  · rename_i o j k n
    have ei := hi.int
    subst ei
    split at h
    next e t' by' e' e2' t l hq hg =>
      rw [hq] at hd
      obtain ⟨hu, ⟨inf, z, he, hs, _⟩, _⟩ := hd
      split at h
      next hsz =>
        obtain ⟨hin, h⟩ := ev_g h
        have := ev_vq h; subst this
        obtain ⟨h0, h1, h2⟩ := inR_iff hin
        cases hx with
        | @row _ _ _ v0 rs hds a0 m0 c0 hμ hxx =>
          obtain ⟨hil, xs, hown, hrep⟩ := hm.rowAt hμ hxx hg
          rcases hown.2 with ⟨e1, e2⟩ | ⟨b, cap', cur, ev, _⟩
          · omega
          · simp only [Value.slice.injEq] at ev
            obtain ⟨rfl, rfl, rfl⟩ := ev
            refine ⟨rfl, _, run_indexAt hu he (hs.trans hsz.symm) hin, ?_⟩
            rw [Nat.zero_add]
            exact .relt hμ hxx
      next => cases h
    next => cases h
  · rename_i o k kk n
    have ei := hi.int
    subst ei
    split at h
    next m e te t hq =>
      rw [hq] at hd
      obtain ⟨hu, ⟨inf, z, he, hs, _⟩, _⟩ := hd
      obtain ⟨hin, h⟩ := ev_g h
      have := ev_vq h; subst this
      obtain ⟨h0, h1, h2⟩ := inR_iff hin
      cases hx with
      | box hμ =>
        refine ⟨rfl, _, ?_, .box hμ⟩
        simp [Instr.indexAt, asIntOf, run_underlying hu, Instr.sureAddr, h0, h1, sizeOf, typeInfo, he, hs, Addr.add_lit]
    next => cases h
  · rename_i cs kk n
    have ei := hi.int
    subst ei
    split at h
    next m e te t hq =>
      rw [hq] at hd
      obtain ⟨hu, ⟨inf, z, he, hs, _⟩, _⟩ := hd
      split at h
      next hlt =>
        obtain ⟨hin, h⟩ := ev_g h
        have := ev_vq h; subst this
        obtain ⟨h0, h1, h2⟩ := inR_iff hin
        cases hx with
        | @ptr _ _ b k xs hne hb hx' hr =>
          refine ⟨rfl, .pointer (some ⟨b, k + n.toNat * te.size, none⟩), ?_, .ptr (fun j => xs (n.toNat * te.size + j)) ?_ hb (fun j v hv => ?_) fun j v hv => ?_⟩
          · simp [Instr.indexAt, asIntOf, run_underlying hu, Instr.sureAddr, h0, h1, sizeOf, typeInfo, he, hs, Addr.add_lit]
          · intro e
            have := congrArg List.length e
            simp at this
            omega
          · rw [nth_eq, List.getElem?_drop, ← nth_eq] at hv
            rw [Nat.add_assoc]
            exact hx' _ _ hv
          · rw [nth_eq, List.getElem?_drop, ← nth_eq] at hv
            exact hr _ _ hv
      next => cases h
    next => cases h
  · cases h
end
end Go.Proofs.Ytlmbhkmaflhagaa
