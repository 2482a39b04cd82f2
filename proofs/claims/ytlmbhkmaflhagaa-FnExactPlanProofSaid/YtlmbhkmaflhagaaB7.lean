/-
  What an operation that writes nothing leaves; making blocks and arrays; aggregates.
-/
import Derived.Test.YtlmbhkmaflhagaaB6
namespace Go.Proofs.Ytlmbhkmaflhagaa
open Go.RowKit (Below)

/-- Behind an operation that writes nothing: the value, the world, the arrays that are new. -/
def Nx [Tabs] (P : Program) (X : Nat → Prop) (lo : Nat → Prop) (g : Nat → Option Ob) (μ : Nat → Option MV) (w : World) (q : QR) (x : Value) (w' : World) : Prop :=
  ∃ μ', (∀ o mv, μ o = some mv → μ' o = some mv) ∧ (∀ o mv, μ' o = some mv → μ o = some mv ∨ ((∃ p ∈ q.2, p.1 = o) ∧ ∀ b, b ∈ mv.rs → w.heap.size ≤ b)) ∧ Below w.heap.size w w' ∧
    (∀ g', (∀ p ∈ q.2, g' p.1 = some p.2) → (∀ o mv, μ o = some mv → g' o = g o) → Mem P X lo g' μ' w') ∧ RelV P w' lo μ' (SS X μ') q.1 x

/-- The operation runs, and the walk may go on. -/
def QOK (P : Program) (o : Oper) (a : Act) (w : World) (Post : Value → World → Prop) : Prop :=
  ∀ (K : Act → World → Prop) (Q : Exit → Act → World → Prop), (∀ x w', Post x w' → K (a.put o.dst x) w') → o.wp P a w K Q

section
variable {P : Program} {tt : Nat → TD} {w : World} {lo : Nat → Prop} {μ : Nat → Option MV} {S : Nat → Prop} {X : Nat → Prop} {g : Nat → Option Ob} {o : Oper} {a : Act}

theorem Mem.other [Tabs] {g' : Nat → Option Ob} (hm : Mem P X lo g μ w) (h : ∀ o mv, μ o = some mv → g' o = g o) : Mem P X lo g' μ w :=
  ⟨hm.hX, hm.hlo, fun o mv ho => by obtain ⟨x, hx, hob⟩ := hm.ob o mv ho; exact ⟨x, by rw [h o mv ho]; exact hx, hob⟩, hm.dis, hm.tab⟩

theorem Nx.pure [Tabs] (hm : Mem P X lo g μ w) {r : AV} {x : Value} (hr : RelV P w lo μ (SS X μ) r x) : Nx P X lo g μ w (r, []) x w :=
  ⟨μ, fun _ _ h => h, fun _ _ h => .inl h, Below.refl _ _, fun _ _ h => hm.other h, hr⟩

theorem QOK.val {Post : Value → World → Prop} {x : Value} {w' : World} (h : (execOp a.eval o).run P w = .ok (.value x) w') (hp : Post x w') : QOK P o a w Post := by
  intro K Q hK
  unfold Oper.wp
  rw [h]
  exact hK x w' hp

/-- Data stay where they are while new blocks come. -/
theorem Mem.lt [Tabs] (hm : Mem P X lo g μ w) {o : Nat} {mv : MV} (h : μ o = some mv) {b : Nat} (hb : b ∈ mv.rs) : ¬ lo b ∧ b < w.heap.size := by
  obtain ⟨x, _, hob⟩ := hm.ob o mv h
  cases x with
  | arr e t l =>
    obtain ⟨⟨hhs, hrs⟩, hnl, xs, hown, _⟩ := hob
    have hb' : rootV mv.v = some b := by
      rw [hrs] at hb
      simpa using hb
    refine ⟨hnl b hb', (hown.lt b ?_).2⟩
    cases hv : mv.v with
    | slice ad n c => rw [hv] at hb'; cases ad <;> simp [rootV] at hb'; simp [Value.ownBlock, hb']
    | _ => rw [hv] at hown; rcases hown.2 with ⟨e, _⟩ | ⟨_, _, _, e, _⟩ <;> cases e
  | txt e l =>
    obtain ⟨b', cap, cur, fr, rfl, hl, hh, _⟩ := hob
    simp at hb
    subst hb
    exact ⟨hl, (Array.getElem?_eq_some_iff.1 hh).1⟩
  | rows e e2 t l h =>
    exact hob.1.low b hb
  | cells cs =>
    obtain ⟨b', vs, e, rfl, hl, hh, _⟩ := hob
    simp at hb
    subst hb
    exact ⟨hl, (Array.getElem?_eq_some_iff.1 hh).1⟩

theorem ObOK.stepH {w' : World} {μ' : Nat → Option MV} {S' : Nat → Prop} {x : Ob} {mv : MV} (h : ObOK P w lo μ S x mv) (hlo : (∀ b, lo b → b < w.heap.size)) (hμ : ∀ o mv, μ o = some mv → ∃ rs hs, μ' o = some ⟨mv.v, rs, hs⟩ ∧ Ext mv.hs hs)
    (hw : ∀ b, b < w.heap.size → S b → S' b ∧ w'.heap[b]? = w.heap[b]?) (hl : ∀ b, lo b → w'.heap[b]? = w.heap[b]?) (hroot : ∀ b, b ∈ mv.rs → w'.heap[b]? = w.heap[b]?) : ObOK P w' lo μ' S' x mv := by
  cases x with
  | arr e t l =>
    obtain ⟨⟨hhs, hrs⟩, hnl, xs, hown, hrep⟩ := h
    refine ⟨⟨hhs, hrs⟩, hnl, xs, ⟨hown.1, ?_⟩, hrep.step hw⟩
    rcases hown.2 with h | ⟨gb, cap, cur, e1, h1, h2, h3⟩
    · exact .inl h
    · exact .inr ⟨gb, cap, cur, e1, h1, by rw [hroot gb (by rw [hrs, e1]; simp [rootV])]; exact h2, h3⟩
  | txt e l =>
    obtain ⟨b, cap, cur, fr, rfl, h1, h2, h3⟩ := h
    exact ⟨b, cap, cur, fr, rfl, h1, by rw [hroot b (by simp)]; exact h2, h3⟩
  | rows e e2 t l hh =>
    obtain ⟨hr, hk⟩ := h
    refine ⟨hr.step hw hroot fun b hb => (hr.low b hb).1, fun i d hd => ?_⟩
    obtain ⟨x, rs, hs, k1, k2⟩ := hk i d hd
    obtain ⟨rs', hs', k3, _⟩ := hμ d _ k2
    exact ⟨x, rs', hs', k1, k3⟩
  | cells cs =>
    obtain ⟨b, vs, e, rfl, h1, h2, h3, h4⟩ := h
    exact ⟨b, vs, e, rfl, h1, by rw [hroot b (by simp)]; exact h2, h3, fun j v hv => (h4 j v hv).stepH hμ hlo hw hl⟩

theorem ObOK.step [Tabs] {w' : World} {μ' : Nat → Option MV} {S' : Nat → Prop} {x : Ob} {mv : MV} (h : ObOK P w lo μ S x mv) (hlo : ∀ b, lo b → b < w.heap.size) (hμ : ∀ o mv, μ o = some mv → μ' o = some mv)
    (hw : ∀ b, b < w.heap.size → S b → S' b ∧ w'.heap[b]? = w.heap[b]?) (hl : ∀ b, lo b → w'.heap[b]? = w.heap[b]?) (hroot : ∀ b, b ∈ mv.rs → w'.heap[b]? = w.heap[b]?) : ObOK P w' lo μ' S' x mv :=
  h.stepH hlo (fun o mv ho => ⟨mv.rs, mv.hs, hμ o mv ho, Ext.refl _⟩) hw hl hroot

/-- New blocks: what was owned stays owned. -/
theorem Mem.grow {w' : World} (hb : Below w.heap.size w w') {μ' : Nat → Option MV}
    (hnew : ∀ o mv, μ' o = some mv → μ o = some mv ∨ ∀ b, b ∈ mv.rs → w.heap.size ≤ b) : ∀ b, b < w.heap.size → SS X μ b → SS X μ' b ∧ w'.heap[b]? = w.heap[b]? :=
  fun b hlt hS => ⟨⟨hS.1, fun o mv h e => (hnew o mv h).elim (fun h => hS.2 o mv h e) (fun h => by have := h b e; omega)⟩, hb.block b hlt⟩

/-- A new block of cells, or a new array: how the walk goes on. -/
theorem Nx.made [Tabs] (hm : Mem P X lo g μ w) {w' : World} (hb : Below w.heap.size w w') {d : Nat} {ob : Ob} {mv : MV} {x : Value} {r : AV} (hd : μ d = none) (hroot : mv.rs = [w.heap.size])
    (hob : ∀ μ', (∀ o mv, μ o = some mv → μ' o = some mv) → (∀ b, b < w.heap.size → SS X μ b → SS X μ' b) → ObOK P w' lo μ' (SS X μ') ob mv)
    (hr : ∀ μ', μ' d = some mv → RelV P w' lo μ' (SS X μ') r x) : Nx P X lo g μ w (r, [(d, ob)]) x w' := by
  have hμ : ∀ o mv', μ o = some mv' → (fun o => if o = d then some mv else μ o) o = some mv' := fun o mv' h => by
    have : o ≠ d := fun e => by rw [e, hd] at h; cases h
    simp [this, h]
  have hnew : ∀ o mv', (fun o => if o = d then some mv else μ o) o = some mv' → μ o = some mv' ∨ ∀ b, b ∈ mv'.rs → w.heap.size ≤ b := fun o mv' h => by
    by_cases e : o = d
    · simp [e] at h
      subst h
      exact .inr fun b hb' => by rw [hroot] at hb'; simp at hb'; omega
    · simp [e] at h
      exact .inl h
  have hw := Mem.grow (X := X) hb hnew
  refine ⟨fun o => if o = d then some mv else μ o, hμ, fun o mv' h => ?_, hb, fun g' h1 h2 => ⟨hm.hX, fun b hb' => Nat.lt_of_lt_of_le (hm.hlo b hb') hb.size, fun o mv' h => ?_, fun o p mv1 mv2 b h3 h4 h5 h6 => ?_, hm.tab.step fun b hb' => hb.block b (hm.hlo b hb')⟩, hr _ (by simp)⟩
  · by_cases e : o = d
    · refine .inr ⟨⟨(d, ob), by simp, e.symm⟩, fun b hb' => ?_⟩
      simp [e] at h
      subst h
      rw [hroot] at hb'; simp at hb'; omega
    · simp [e] at h
      exact .inl h
  · by_cases e : o = d
    · simp [e] at h
      subst h
      refine ⟨ob, by rw [e]; exact h1 (d, ob) (by simp), hob _ hμ fun b hlt hS => (hw b hlt hS).1⟩
    · simp [e] at h
      obtain ⟨y, hy, hyo⟩ := hm.ob o mv' h
      exact ⟨y, by rw [h2 o mv' h]; exact hy, hyo.step hm.hlo hμ hw (fun b hlt => hb.block b (hm.hlo b hlt)) fun b hrb => hb.block b (hm.lt h hrb).2⟩
  · by_cases e1 : o = d <;> by_cases e2 : p = d
    · rw [e1, e2]
    · simp [e1] at h3
      simp [e2] at h4
      subst h3
      rw [hroot] at h5; simp at h5
      have := (hm.lt h4 h6).2
      omega
    · simp [e1] at h3
      simp [e2] at h4
      subst h4
      rw [hroot] at h6; simp at h6
      have := (hm.lt h3 h5).2
      omega
    · simp [e1] at h3
      simp [e2] at h4
      exact hm.dis o p mv1 mv2 b h3 h4 h5 h6

theorem cellsOf_rel {v : AV} {x : Value} (h : RelV P w lo μ S v x) {cs : List AV} (hc : cellsOf v = some cs) : x.cells.size = cs.length ∧ ∀ j v', nth cs j = some v' → RelV P w lo μ S v' (x.cells.getD j undef) := by
  unfold cellsOf at hc
  split at hc
  · cases hc
    cases h with
    | agg hl h => exact ⟨hl.symm, h⟩
  · cases hc
  · cases hc
  · cases hc
  · cases hc
    have hx : x.cells = #[x] := by
      rename_i h1 h2 h2' h3
      cases h with
      | undef => exact absurd rfl h2
      | skip => exact absurd rfl h2'
      | tup => exact absurd rfl (h3 _)
      | agg => exact absurd rfl (h1 _)
      | nilsl => rfl
      | arr => rfl
      | box => rfl
      | elt => rfl
      | fld => rfl
      | row => rfl
      | relt => rfl
      | ptr => rfl
      | fn => rfl
      | clo h => obtain ⟨_, _, f, xs, rfl, _⟩ := h; rfl
      | @dat _ t v _ ht hr =>
        cases t with
        | int k => simp [Rep] at hr; subst hr; rfl
        | bool => simp [Rep] at hr; subst hr; rfl
        | str => simp [Rep] at hr; subst hr; rfl
        | slice t => simp only [Rep] at hr; obtain ⟨a, cap, e, _⟩ := hr; simp at e; subst e; rfl
        | pair a b =>
          have := a.size_pos
          have := b.size_pos
          simp only [Ty.size] at ht
          omega
    rw [hx]
    exact ⟨rfl, fun j v' hv => by match j, hv with | 0, hv => simp [nth] at hv; subst hv; exact h⟩

/-- A new block for cells that stand for these. -/
theorem box_ok [Tabs] (hm : Mem P X lo g μ w) {d e : Nat} (hd : μ d = none) {cs : List AV} {vs : Array Value} (hl : vs.size = cs.length) (hv : ∀ j v, nth cs j = some v → RelV P w lo μ (SS X μ) v (vs.getD j undef)) :
    Nx P X lo g μ w (.box d 0, [(d, .cells cs)]) (.pointer (some ⟨w.heap.size, 0, none⟩)) (w.alloc (.cells vs e)) := by
  have hb : Below w.heap.size w (w.alloc (.cells vs e)) := (Below.refl _ _).alloc (Nat.le_refl _) _
  refine Nx.made hm hb (mv := ⟨.pointer (some ⟨w.heap.size, 0, none⟩), [w.heap.size], []⟩) hd rfl (fun μ' hμ hS => ?_) fun μ' h => .box h
  exact ⟨w.heap.size, vs, e, rfl, (fun h => Nat.lt_irrefl _ (hm.hlo _ h)), heap_alloc_new w _, hl, fun j v hj => (hv j v hj).step hμ hm.hlo (fun b hlt hSb => ⟨hS b hlt hSb, hb.block b hlt⟩) fun b hlt => hb.block b (hm.hlo b hlt)⟩

theorem unflat_rel : ∀ {t : Ty} {cs : List AV} {x : t.I}, unflat t cs = some x → ∀ {vs : List Value}, vs.length = cs.length → (∀ j v, nth cs j = some v → RelV P w lo μ S v (vs.getD j undef)) → Rep S w t x vs
  | .pair a b, cs, x, h, vs, hl, hv => by
    simp only [unflat] at h
    split at h
    next y z hy hz =>
      cases h
      have h1 : ∀ {t : Ty} {cs : List AV} {x : t.I}, unflat t cs = some x → cs.length = t.size := by
        intro t
        induction t with
        | pair a b iha ihb =>
          intro cs x h
          simp only [unflat] at h
          split at h
          next y z hy hz =>
            have e1 := iha hy
            have e2 := ihb hz
            have := b.size_pos
            simp only [List.length_take, List.length_drop] at e1 e2
            simp only [Ty.size]
            omega
          next => cases h
        | _ =>
          intro cs x h
          simp only [unflat] at h
          split at h
          · rfl
          · cases h
      have e1 := h1 hy
      simp only [List.length_take] at e1
      refine ⟨vs.take a.size, vs.drop a.size, (List.take_append_drop _ _).symm, unflat_rel hy (by simp [hl]) fun j v hj => ?_, unflat_rel hz (by simp [hl]) fun j v hj => ?_⟩
      · rw [nth_eq, List.getElem?_take] at hj
        split at hj
        next hlt =>
          have := hv j v (by rw [nth_eq]; exact hj)
          rwa [List.getD_eq_getElem?_getD, List.getElem?_take, if_pos hlt, ← List.getD_eq_getElem?_getD]
        next => cases hj
      · rw [nth_eq, List.getElem?_drop] at hj
        have := hv _ v (by rw [nth_eq]; exact hj)
        rwa [List.getD_eq_getElem?_getD, List.getElem?_drop, ← List.getD_eq_getElem?_getD]
    next => cases h
  | .int k, cs, x, h, vs, hl, hv => by
    simp only [unflat] at h
    split at h
    next v => 
      match vs, hl with
      | [y], _ => exact get1_rel h (hv 0 v rfl)
    next => cases h
  | .bool, cs, x, h, vs, hl, hv => by
    simp only [unflat] at h
    split at h
    next v => 
      match vs, hl with
      | [y], _ => exact get1_rel h (hv 0 v rfl)
    next => cases h
  | .str, cs, x, h, vs, hl, hv => by
    simp only [unflat] at h
    split at h
    next v => 
      match vs, hl with
      | [y], _ => exact get1_rel h (hv 0 v rfl)
    next => cases h
  | .slice _, cs, x, h, vs, hl, hv => by
    simp only [unflat] at h
    split at h
    next v => 
      match vs, hl with
      | [y], _ => exact get1_rel h (hv 0 v rfl)
    next => cases h
where
  get1_rel {t : Ty} {v : AV} {x : t.I} (h : get1 t v = some x) {y : Value} (hr : RelV P w lo μ S v y) : Rep S w t x [y] := by
    unfold get1 at h
    split at h
    · obtain ⟨e, rfl⟩ := Ty.cast_spec h
      subst e
      cases hr with
      | dat _ hr => exact hr
    · split at h
      · cases h
        cases hr
        exact Rep.nil
      · cases h
    · cases h

theorem getT_rel [Tabs] {t : Ty} {v : AV} {x : t.I} (h : getT t v = some x) {y : Value} (hr : RelV P w lo μ S v y) : Rep S w t x y.cells.toList := by
  unfold getT at h
  cases hc : cellsOf v with
  | none => rw [hc] at h; cases h
  | some cs =>
    rw [hc] at h
    obtain ⟨h1, h2⟩ := cellsOf_rel hr hc
    exact unflat_rel h (by simpa using h1) (by simpa using h2)
end
end Go.Proofs.Ytlmbhkmaflhagaa
