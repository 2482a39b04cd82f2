/-
  Operations on strings, aggregates, slices; what an operation that writes nothing leaves.
-/
import Derived.Test.YtlmbhkmaflhagaaB5
namespace Go.Proofs.Ytlmbhkmaflhagaa
open Go.RowKit (Below)

section
variable {P : Program} {tt : Nat → TD} {w : World} {lo : Nat → Prop} {μ : Nat → Option MV} {S : Nat → Prop} {X : Nat → Prop} {g : Nat → Option Ob}

theorem str_at (s : List UInt8) (i : Nat) (h : i < s.length) : (⟨s.toArray⟩ : ByteArray)[i]? = some (s.getD i 0) := by
  have hs : i < ByteArray.size ⟨s.toArray⟩ := by rw [str_size]; exact h
  rw [getElem?_pos _ i hs]
  simp [ByteArray.getElem_eq_getElem_data, List.getD_eq_getElem?_getD, h]

theorem agg_cut {cs : List AV} {xs : Array Value} (h : RelV P w lo μ S (.agg cs) (.agg xs)) (hT : TabOK P tt) {ty k : Nat} {sz : Nat × Bool} (hsz : tySize tt ty = some sz) {v : AV} (hv : cut cs k sz = some v) :
    ∃ x, (part ty xs k).run P w = .ok x w ∧ RelV P w lo μ S v x := by
  obtain ⟨h1, h2⟩ := run_agg (P := P) (w := w) hT hsz
  cases h with
  | agg hl h =>
    unfold cut at hv
    split at hv
    next hb =>
      split at hv
      next hk =>
        cases hv
        refine ⟨.agg (xs.extract k (k + sz.1)), by simp [part, h1, hb, h2], .agg (by simp [hl]; omega) fun j v hv => ?_⟩
        rw [nth_eq, List.getElem?_take] at hv
        split at hv
        next hj =>
          rw [List.getElem?_drop, ← nth_eq] at hv
          have hlt : k + j < xs.size := by rw [← hl]; omega
          have := h _ _ hv
          simpa [hlt, hj, show j < min (k + sz.1) xs.size - k by omega] using this
        next => cases hv
      next => cases hv
    next hb =>
      have hk : k < xs.size := by
        rw [← hl]
        rw [nth_eq] at hv
        exact (List.getElem?_eq_some_iff.1 hv).1
      refine ⟨xs[k], by simp [part, h1, hb, hk], ?_⟩
      have := h _ _ hv
      simpa [hk] using this

theorem aindexV_ok [Tabs] (hT : TabOK P tt) {ty : Nat} {x i : AV} {q : QR} (h : (aindexV tt ty x i).ev = some q) {vx vi : Value} (hx : RelV P w lo μ S x vx) (hi : RelV P w lo μ S i vi) :
    q.2 = [] ∧ ∃ v, (Instr.index ty vx vi).run P w = .ok v w ∧ RelV P w lo μ S q.1 v := by
  have hd := hT ty
  unfold aindexV at h
  split at h
  · rename_i s k n
    have ei := hi.int
    have ex := hx.str
    subst ei; subst ex
    split at h
    next hq =>
      rw [hq] at hd
      obtain ⟨d, hd1, hu, _⟩ := hd
      simp only [scOf, Option.some.injEq] at hd1
      subst hd1
      obtain ⟨hin, h⟩ := ev_g h
      have := ev_iq h; subst this
      obtain ⟨h0, h1, h2⟩ := inR_iff hin
      refine ⟨rfl, _, ?_, rel_int _ _⟩
      simp [Instr.index, asIntOf, run_underlying hu, h0, str_at _ _ h2]
    next => cases h
  · rename_i cs k n
    have ei := hi.int
    subst ei
    split at h
    next m e te t hq =>
      rw [hq] at hd
      obtain ⟨hu, ⟨inf, z, he, hs, _⟩, _⟩ := hd
      split at h
      next sz hsz =>
        split at h
        next hz =>
          obtain ⟨hin, h⟩ := ev_g h
          obtain ⟨h0, h1, h2⟩ := inR_iff hin
          rw [Tr.ev_bind, Tr.ev_opt] at h
          cases hc : cut cs (n.toNat * te.size) sz with
          | none => rw [hc] at h; cases h
          | some v =>
            rw [hc] at h
            have := ev_vq h; subst this
            cases hx with
            | agg hl hr =>
              obtain ⟨x, h3, h4⟩ := agg_cut (.agg hl hr) hT hsz hc
              refine ⟨rfl, x, ?_, h4⟩
              simp [Instr.index, asIntOf, run_underlying hu, h0, h1, sizeOf, typeInfo, he, hs, h3]
        next => cases h
      next => cases h
    next => cases h
  · cases h

theorem alen_ok [Tabs] (hT : TabOK P tt) (hm : Mem P X lo g μ w) {ty rt : Nat} {x : AV} {q : QR} (h : (alen tt g ty x).ev = some q) {vx : Value} (hx : RelV P w lo μ (SS X μ) x vx) :
    q.2 = [] ∧ ∃ v, (Builtin.len_ #[ty] rt #[vx]).run P w = .ok v w ∧ RelV P w lo μ (SS X μ) q.1 v := by
  have hd := hT ty
  unfold alen at h
  split at h
  · split at h
    next hq =>
      rw [hq] at hd
      have := ev_iq h; subst this
      obtain ⟨a, cap, rfl, _⟩ := hx.slice
      exact ⟨rfl, _, by simp [Builtin.len_, run_underlying hd.1, goInt], rel_int _ _⟩
    next => cases h
  · split at h
    next hq =>
      rw [hq] at hd
      have := ev_iq h; subst this
      cases hx
      exact ⟨rfl, _, by simp [Builtin.len_, run_underlying hd.1, goInt], rel_int _ _⟩
    next => cases h
  · split at h
    next e t l hq hg =>
      rw [hq] at hd
      have := ev_iq h; subst this
      cases hx with
      | arr hμ =>
        obtain ⟨y, hy, hob⟩ := hm.ob _ _ hμ
        rw [hg] at hy
        cases hy
        obtain ⟨⟨hhs, hrs⟩, hnl, xs, hown, hrep⟩ := hob
        refine ⟨rfl, _, ?_, rel_int _ _⟩
        rcases hown.2 with ⟨e1, e2⟩ | ⟨b, cap', cur, ev, _⟩
        · cases e1
          simp [Builtin.len_, run_underlying hd.1, goInt, e2]
        · cases ev
          simp [Builtin.len_, run_underlying hd.1, goInt]
    next e l hq hg =>
      rw [hq] at hd
      have := ev_iq h; subst this
      cases hx with
      | arr hμ =>
        obtain ⟨y, hy, hob⟩ := hm.ob _ _ hμ
        rw [hg] at hy
        cases hy
        obtain ⟨b, cap', cur, fr, ev, _⟩ := hob
        cases ev
        exact ⟨rfl, _, by simp [Builtin.len_, run_underlying hd.1, goInt], rel_int _ _⟩
    next l hh hq hg =>
      rw [hq] at hd
      have := ev_iq h; subst this
      cases hx with
      | arr hμ =>
        obtain ⟨y, hy, hob⟩ := hm.ob _ _ hμ
        rw [hg] at hy
        cases hy
        obtain ⟨hr, _⟩ := hob
        have hown := hr.own
        refine ⟨rfl, _, ?_, rel_int _ _⟩
        rcases hown.2 with ⟨e1, e2⟩ | ⟨b, cap', cur, ev, _⟩
        · cases e1
          simp [Builtin.len_, run_underlying hd.1, goInt, e2]
        · cases ev
          simp [Builtin.len_, run_underlying hd.1, goInt]
    next => cases h
  · split at h
    next hq hg =>
      rw [hq] at hd
      have := ev_iq h; subst this
      cases hx with
      | row hμ hxx =>
        obtain ⟨_, xs, hown, _⟩ := hm.rowAt hμ hxx hg
        refine ⟨rfl, _, ?_, rel_int _ _⟩
        rw [List.getD_eq_getElem?_getD] at hown ⊢
        rcases hown.2 with ⟨e1, e2⟩ | ⟨b, cap', cur, ev, _⟩
        · cases e1
          simp [Builtin.len_, run_underlying hd.1, goInt, e2]
        · cases ev
          simp [Builtin.len_, run_underlying hd.1, goInt]
    next => cases h
  · split at h
    next hq =>
      rw [hq] at hd
      obtain ⟨d, hd1, hu, _⟩ := hd
      simp only [scOf, Option.some.injEq] at hd1
      subst hd1
      have := ev_iq h; subst this
      have ex := hx.str
      subst ex
      exact ⟨rfl, _, by simp [Builtin.len_, run_underlying hu, goInt, str_size], rel_int _ _⟩
    next => cases h
  · cases h

theorem acap_ok [Tabs] (hT : TabOK P tt) {ty rt : Nat} {x : AV} {q : QR} (h : (acap tt ty x).ev = some q) {vx : Value} (hx : RelV P w lo μ S x vx) :
    q.2 = [] ∧ ∃ v, (Builtin.cap_ #[ty] rt #[vx]).run P w = .ok v w ∧ RelV P w lo μ S q.1 v := by
  have hd := hT ty
  unfold acap at h
  split at h
  · split at h
    next hq =>
      rw [hq] at hd
      have := ev_iq h; subst this
      cases hx
      exact ⟨rfl, _, by simp [Builtin.cap_, run_underlying hd.1, goInt], rel_int _ _⟩
    next => cases h
  · cases h

inductive ORel (P : Program) (w : World) (lo : Nat → Prop) (μ : Nat → Option MV) (S : Nat → Prop) : Option AV → Option Value → Prop
  | none : ORel P w lo μ S none none
  | some {x y} (h : RelV P w lo μ S x y) : ORel P w lo μ S (some x) (some y)

theorem sb_hi {len cap : Nat} (hlc : len ≤ cap) (k : IntKind) (h : Int) (h1 : 0 ≤ h) (h2 : h ≤ len) (sl : Bool) :
    0 ≤ h.toNat ∧ h.toNat ≤ len ∧ (Instr.sliceBounds sl len cap none (some (.int k h)) none).run P w = .ok (0, h.toNat, cap) w := by
  refine ⟨by omega, by omega, ?_⟩
  have h5 : h ≤ (cap : Int) := by omega
  simp [Instr.sliceBounds, Instr.sliceBound, asIntOf, h1, h5]
theorem sb_lo {len cap : Nat} (k : IntKind) (l : Int) (h1 : 0 ≤ l) (h2 : l ≤ len) (sl : Bool) :
    l.toNat ≤ len ∧ len ≤ len ∧ (Instr.sliceBounds sl len cap (some (.int k l)) none none).run P w = .ok (l.toNat, len, cap) w := by
  refine ⟨by omega, by omega, ?_⟩
  simp [Instr.sliceBounds, Instr.sliceBound, asIntOf, h1, h2]
theorem sb_both {len cap : Nat} (hlc : len ≤ cap) (k k' : IntKind) (l h : Int) (h1 : 0 ≤ l) (h2 : l ≤ h) (h3 : h ≤ len) (sl : Bool) :
    l.toNat ≤ h.toNat ∧ h.toNat ≤ len ∧ (Instr.sliceBounds sl len cap (some (.int k l)) (some (.int k' h)) none).run P w = .ok (l.toNat, h.toNat, cap) w := by
  refine ⟨by omega, by omega, ?_⟩
  have h4 : 0 ≤ h := by omega
  have h5 : h ≤ (cap : Int) := by omega
  have h6 : l ≤ (h.toNat : Int) := by omega
  simp only [Instr.sliceBounds, Instr.sliceBound, asIntOf, Sem.run_bind, Sem.run_pure, Result.andThen_ok, Sem.run_ite, h1, h4, h5, h6, and_self, if_true]

/-- The bounds of a slice expression. -/
theorem abounds_ok [Tabs] {len cap : Nat} (hlc : len ≤ cap) {lo' hi' : Option AV} {i j : Nat} (h : abounds len lo' hi' = some (true, i, j)) {vl vh : Option Value}
    (hl : ORel P w lo μ S lo' vl) (hh : ORel P w lo μ S hi' vh) (sl : Bool) :
    i ≤ j ∧ j ≤ len ∧ (Instr.sliceBounds sl len cap vl vh none).run P w = .ok (i, j, cap) w := by
  unfold abounds at h
  split at h
  · cases hl; cases hh
    simp only [Option.some.injEq, Prod.mk.injEq, true_and] at h
    obtain ⟨rfl, rfl⟩ := h
    simp [Instr.sliceBounds]
  · cases hl; cases hh with | some hh =>
    have := hh.int
    subst this
    simp only [Option.some.injEq, Prod.mk.injEq, Bool.and_eq_true, decide_eq_true_eq] at h
    obtain ⟨⟨h1, h2⟩, rfl, rfl⟩ := h
    exact sb_hi hlc _ _ h1 h2 sl
  · cases hh; cases hl with | some hl =>
    have := hl.int
    subst this
    simp only [Option.some.injEq, Prod.mk.injEq, Bool.and_eq_true, decide_eq_true_eq] at h
    obtain ⟨⟨h1, h2⟩, rfl, rfl⟩ := h
    exact sb_lo _ _ h1 h2 sl
  · cases hl with | some hl =>
    cases hh with | some hh =>
    have := hl.int
    subst this
    have := hh.int
    subst this
    simp only [Option.some.injEq, Prod.mk.injEq, Bool.and_eq_true, decide_eq_true_eq] at h
    obtain ⟨⟨⟨h1, h2⟩, h3⟩, rfl, rfl⟩ := h
    exact sb_both hlc _ _ _ _ h1 h2 h3 sl
  · cases h

/-- A slice of a slice, of a string. -/
theorem aslice_ok [Tabs] (hT : TabOK P tt) {ty : Nat} {x : AV} {lo' hi' : Option AV} {q : QR} (h : (aslice tt ty x lo' hi').ev = some q) {vx : Value} {vl vh : Option Value} (hx : RelV P w lo μ S x vx)
    (hl : ORel P w lo μ S lo' vl) (hh : ORel P w lo μ S hi' vh) :
    q.2 = [] ∧ ∃ v, (Instr.sliceAt ty vx vl vh none).run P w = .ok v w ∧ RelV P w lo μ S q.1 v := by
  have hd := hT ty
  unfold aslice at h
  split at h
  · rename_i t l e t' by' hq
    rw [hq] at hd
    obtain ⟨hu, ⟨inf, z, he, hs, _⟩, _⟩ := hd
    split at h
    next hsz =>
      split at h
      next b i j hb =>
        obtain ⟨hbt, h⟩ := ev_g h
        subst hbt
        have := ev_vq h; subst this
        obtain ⟨a, cap, rfl, hrep⟩ := hx.slice
        have hcap : l.length ≤ cap := by
          have h0 := hrep
          simp only [Rep] at h0
          obtain ⟨a', cap', ea, hle, _⟩ := h0
          simp only [List.cons.injEq, Value.slice.injEq, and_true] at ea
          rw [ea.2.2]; exact hle
        obtain ⟨h1, h2, h3⟩ := abounds_ok hcap hb hl hh true
        refine ⟨rfl, .slice (if cap = i then a else a.map (·.add (i * t'.size))) (j - i) (cap - i), ?_, ?_⟩
        · simp [Instr.sliceAt, Instr.slice, run_underlying hu, h3, sizeOf, typeInfo, he, hs]
        · refine .dat rfl ?_
          simp only [Rep] at hrep ⊢
          obtain ⟨a', cap', ea, _, hel⟩ := hrep
          simp only [List.cons.injEq, Value.slice.injEq, and_true] at ea
          obtain ⟨rfl, _, rfl⟩ := ea
          refine ⟨(if cap = i then a else a.map (·.add (i * t'.size))), cap - i, by rw [List.length_drop, List.length_take, Nat.min_eq_left h2], by rw [List.length_drop, List.length_take, Nat.min_eq_left h2]; omega, fun k y hy => ?_⟩
          rw [List.getElem?_drop, List.getElem?_take] at hy
          split at hy
          next hk =>
            obtain ⟨b, off, c, rfl, hS, hr, hc⟩ := hel (i + k) y hy
            have hci : ¬ (cap = i) := by omega
            refine ⟨b, off + i * t'.size, c, by simp [hci, Addr.add_lit], hS, hr, fun m u hu => ?_⟩
            have := hc m u hu
            rwa [show off + ((i + k) * t.size + m) = off + i * t'.size + (k * t.size + m) by rw [hsz, Nat.add_mul]; omega] at this
          next => cases hy
      next => cases h
    next => cases h
  · rename_i s hq
    rw [hq] at hd
    obtain ⟨d, hd1, hu, _⟩ := hd
    simp only [scOf, Option.some.injEq] at hd1
    subst hd1
    split at h
    next b i j hb =>
      obtain ⟨hbt, h⟩ := ev_g h
      subst hbt
      have := ev_vq h; subst this
      have ex := hx.str
      subst ex
      obtain ⟨h1, h2, h3⟩ := abounds_ok (Nat.le_refl _) hb hl hh false
      refine ⟨rfl, _, ?_, rel_str _⟩
      simp [Instr.sliceAt, Instr.slice, run_underlying hu, str_size, h3, str_extract _ _ _ h2]
    next => cases h
  · rename_i e t' by' hq
    rw [hq] at hd
    obtain ⟨hu, ⟨inf, z, he, hs, _⟩, _⟩ := hd
    split at h
    next b i j hb =>
      obtain ⟨hbt, h⟩ := ev_g h
      subst hbt
      have := ev_vq h; subst this
      cases hx
      obtain ⟨h1, h2, h3⟩ := abounds_ok (Nat.le_refl 0) hb hl hh true
      have hj : j = 0 := by omega
      have hi : i = 0 := by omega
      subst hj; subst hi
      refine ⟨rfl, .slice none 0 0, ?_, .nilsl⟩
      simp [Instr.sliceAt, Instr.slice, run_underlying hu, h3, sizeOf, typeInfo, he, hs]
    next => cases h
  · cases h
end
end Go.Proofs.Ytlmbhkmaflhagaa
