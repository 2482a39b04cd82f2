/-
  How abstract values stand for values in a world, and what is owned.
-/
import Derived.Test.YtlmbhkmaflhagaaB1
namespace Go.Proofs.Ytlmbhkmaflhagaa
open Go.RowKit (Below)

theorem nth_eq {α : Type} : ∀ (l : List α) (i : Nat), nth l i = l[i]?
  | [], _ => by simp [nth]
  | _ :: _, 0 => by simp [nth]
  | _ :: r, i + 1 => by simp [nth, nth_eq r i]

/-- What stands for an owned thing: its header, its blocks; its rows' headers. -/
structure MV where
  v : Value
  rs : List Nat
  hs : List Value

/-- Of what was there the blocks of lo have not turned. -/
structure Kept (lo : Nat → Prop) (w w' : World) : Prop where
  os : w'.os = w.os
  tape : w'.tape = w.tape
  output : w'.output = w.output
  size : w.heap.size ≤ w'.heap.size
  block : ∀ k, lo k → w'.heap[k]? = w.heap[k]?

theorem Kept.refl (lo : Nat → Prop) (w : World) : Kept lo w w := ⟨rfl, rfl, rfl, Nat.le_refl _, fun _ _ => rfl⟩
theorem Kept.trans {lo : Nat → Prop} {a b c : World} (h : Kept lo a b) (k : Kept lo b c) : Kept lo a c :=
  ⟨k.os.trans h.os, k.tape.trans h.tape, k.output.trans h.output, Nat.le_trans h.size k.size, fun i hi => (k.block i hi).trans (h.block i hi)⟩
theorem Kept.of {lo : Nat → Prop} {w w' : World} (h : Below w.heap.size w w') (hl : ∀ b, lo b → b < w.heap.size) : Kept lo w w' := ⟨h.os, h.tape, h.output, h.size, fun k hk => h.block k (hl k hk)⟩
theorem Kept.mono {lo lo' : Nat → Prop} {w w' : World} (h : Kept lo w w') (hl : ∀ b, lo' b → lo b) : Kept lo' w w' := ⟨h.os, h.tape, h.output, h.size, fun k hk => h.block k (hl k hk)⟩
theorem Kept.drew {lo : Nat → Prop} {a w : World} (h : Kept lo a w) : Kept lo a w.drew := ⟨h.os, h.tape, h.output, h.size, h.block⟩

/-- The values of arguments that read as these data. -/
def HRel (w : World) : (ts : List Ty) → HL ts → List Value → Prop
  | [], _, vs => vs = []
  | t :: ts, (x, h), vs => ∃ v r, vs = v :: r ∧ Rep (fun _ => True) w t x v.cells.toList ∧ (t.size = 1 → v.cells = #[v]) ∧ (t.size ≠ 1 → ∃ cs, v = .agg cs) ∧ HRel w ts h r

/-- A call comes to an end: of a function with a body, or of one that the model itself computes. -/
def CallR (P : Program) (f : Nat) (vals : Array Value) (w : World) (R : Value → World → Prop) : Prop :=
  ((callFunc f vals).run P w = .ok (.enter f vals) w ∧ Calls P f vals w (fun e w' => ∃ x, e = .returned x ∧ R x w')) ∨ ∃ x w', (callFunc f vals).run P w = .ok (.value x) w' ∧ R x w'

theorem CallR.mono {P : Program} {f : Nat} {vals : Array Value} {w : World} {R R' : Value → World → Prop} (h : CallR P f vals w R) (hr : ∀ x w', R x w' → R' x w') : CallR P f vals w R' := by
  rcases h with ⟨h1, h2⟩ | ⟨x, w', h1, h2⟩
  · exact .inl ⟨h1, h2.mono fun e w' ⟨x, e1, e2⟩ => ⟨x, e1, hr _ _ e2⟩⟩
  · exact .inr ⟨x, w', h1, hr _ _ h2⟩

/-- What a function value is known by: at data h the call hands back p h. -/
def CloOK (P : Program) (w : World) (lo : Nat → Prop) (ts : List Ty) (r : Ty) (p : HL ts → Option r.I) (x : Value) : Prop :=
  deepT r = false ∧ r.size = 1 ∧ ∃ f xs, x = .func (.func f) #[] xs ∧ ∀ w', (∀ b, lo b → b < w'.heap.size) → (∀ b, lo b → w'.heap[b]? = w.heap[b]?) → ∀ h vals, HRel w' ts h vals → ∀ y, p h = some y →
    CallR P f (vals.toArray ++ xs) w' (fun v w'' => Rep (fun _ => True) w'' r y [v] ∧ Below w'.heap.size w' w'')

inductive RelV (P : Program) (w : World) (lo : Nat → Prop) (μ : Nat → Option MV) : (Nat → Prop) → AV → Value → Prop
  | undef {S x} : RelV P w lo μ S .undef x
  | skip {S} : RelV P w lo μ S .skip undef
  | dat {S t v x} (ht : t.size = 1) (h : Rep S w t v [x]) : RelV P w lo μ S (.dat t v) x
  | nilsl {S} : RelV P w lo μ S .nilsl (.slice none 0 0)
  | arr {S o a n c rs hs} (h : μ o = some ⟨.slice a n c, rs, hs⟩) : RelV P w lo μ S (.arr o) (.slice a n c)
  | box {S o b k rs hs} (h : μ o = some ⟨.pointer (some ⟨b, 0, none⟩), rs, hs⟩) : RelV P w lo μ S (.box o k) (.pointer (some ⟨b, k, none⟩))
  | elt {S o i s b n c rs hs} (h : μ o = some ⟨.slice (some ⟨b, 0, none⟩) n c, rs, hs⟩) : RelV P w lo μ S (.elt o i s) (.pointer (some ⟨b, i * s, none⟩))
  | fld {S o i s k b n c rs hs} (h : μ o = some ⟨.slice (some ⟨b, 0, none⟩) n c, rs, hs⟩) : RelV P w lo μ S (.fld o i s k) (.pointer (some ⟨b, i * s + k, none⟩))
  | row {S o i v rs hs a m c} (h : μ o = some ⟨v, rs, hs⟩) (hx : hs[i]? = some (.slice a m c)) : RelV P w lo μ S (.row o i) (.slice a m c)
  | relt {S o i n s v rs hs b m c} (h : μ o = some ⟨v, rs, hs⟩) (hx : hs[i]? = some (.slice (some ⟨b, 0, none⟩) m c)) : RelV P w lo μ S (.relt o i n s) (.pointer (some ⟨b, n * s, none⟩))
  | ptr {S cs b k} (xs : Nat → Value) (hb0 : cs ≠ []) (hb : S b ∨ lo b) (hx : ∀ j v, nth cs j = some v → w.cell? ⟨b, k + j, none⟩ = some (xs j)) (h : ∀ j v, nth cs j = some v → RelV P w lo μ S v (xs j)) :
      RelV P w lo μ S (.ptr cs) (.pointer (some ⟨b, k, none⟩))
  | fn {S f caps xs} (hl : caps.length = xs.size) (h : ∀ j v, nth caps j = some v → RelV P w lo μ (fun b => S b ∨ lo b) v (xs.getD j undef)) : RelV P w lo μ S (.fn f caps) (.func (.func f) #[] xs)
  | clo {S ts r p x} (h : CloOK P w lo ts r p x) : RelV P w lo μ S (.clo ts r p) x
  | tup {S vs xs} (hl : vs.length = xs.size) (h : ∀ j v, nth vs j = some v → RelV P w lo μ S v (xs.getD j undef)) : RelV P w lo μ S (.tup vs) (.tuple xs)
  | agg {S vs xs} (hl : vs.length = xs.size) (h : ∀ j v, nth vs j = some v → RelV P w lo μ S v (xs.getD j undef)) : RelV P w lo μ S (.agg vs) (.agg xs)

theorem CloOK.step {P : Program} {w w' : World} {lo lo' : Nat → Prop} {ts : List Ty} {r : Ty} {p : HL ts → Option r.I} {x : Value} (h : CloOK P w lo ts r p x) (hl : ∀ b, lo b → lo' b)
    (hw : ∀ b, lo b → w'.heap[b]? = w.heap[b]?) : CloOK P w' lo' ts r p x := by
  obtain ⟨h1, h2, f, xs, e, hc⟩ := h
  exact ⟨h1, h2, f, xs, e, fun w'' hs hb => hc w'' (fun b hb' => hs b (hl b hb')) fun b hb' => (hb b (hl b hb')).trans (hw b hb')⟩

/-- The same rows' headers, or more. -/
def Ext (hs hs' : List Value) : Prop := ∀ (i : Nat) (x : Value), hs[i]? = some x → hs'[i]? = some x
theorem Ext.refl (hs : List Value) : Ext hs hs := fun _ _ h => h
theorem Ext.nil (hs : List Value) : Ext [] hs := fun _ _ h => by simp at h
theorem Ext.trans {a b c : List Value} (h : Ext a b) (k : Ext b c) : Ext a c := fun i x hx => k i x (h i x hx)

/-- What is known of a value stays when the world grows, and what may be written does not concern it. -/
theorem RelV.stepH {P : Program} {w w' : World} {lo : Nat → Prop} {μ μ' : Nat → Option MV} {S : Nat → Prop} {v : AV} {x : Value} (h : RelV P w lo μ S v x)
    (hμ : ∀ o mv, μ o = some mv → ∃ rs hs, μ' o = some ⟨mv.v, rs, hs⟩ ∧ Ext mv.hs hs) : ∀ {S' : Nat → Prop}, (∀ b, lo b → b < w.heap.size) → (∀ b, b < w.heap.size → S b → S' b ∧ w'.heap[b]? = w.heap[b]?) → (∀ b, lo b → w'.heap[b]? = w.heap[b]?) →
    RelV P w' lo μ' S' v x := by
  induction h with
  | undef => intro S' _ _ _; exact .undef
  | skip => intro S' _ _ _; exact .skip
  | dat ht h => intro S' _ hw _; exact .dat ht (h.step hw)
  | nilsl => intro S' _ _ _; exact .nilsl
  | arr h => intro S' _ _ _; obtain ⟨rs, hs, h, _⟩ := hμ _ _ h; exact .arr h
  | box h => intro S' _ _ _; obtain ⟨rs, hs, h, _⟩ := hμ _ _ h; exact .box h
  | elt h => intro S' _ _ _; obtain ⟨rs, hs, h, _⟩ := hμ _ _ h; exact .elt h
  | fld h => intro S' _ _ _; obtain ⟨rs, hs, h, _⟩ := hμ _ _ h; exact .fld h
  | row h hx => intro S' _ _ _; obtain ⟨rs, hs, h, he⟩ := hμ _ _ h; exact .row h (he _ _ hx)
  | relt h hx => intro S' _ _ _; obtain ⟨rs, hs, h, he⟩ := hμ _ _ h; exact .relt h (he _ _ hx)
  | @ptr S cs b k xs hb0 hb hx h ih =>
    intro S' hlo hw hl
    by_cases hbs : b < w.heap.size
    · have hsame : w'.heap[b]? = w.heap[b]? := hb.elim (fun hS => (hw b hbs hS).2) (fun hS => hl b hS)
      exact .ptr xs hb0 (hb.imp (fun hS => (hw b hbs hS).1) id) (fun j v hv => (World.cell?_of_block (w := w) hsame).trans (hx j v hv)) fun j v hv => ih j v hv hlo hw hl
    · cases cs with
      | nil => exact absurd rfl hb0
      | cons c cs => exact absurd (block_lt_of_cell (hx 0 c rfl)) hbs
  | fn hl' h ih => intro S' hlo hw hl; exact .fn hl' fun j v hv => ih j v hv hlo (fun b hlt hb => hb.elim (fun h => ⟨.inl (hw b hlt h).1, (hw b hlt h).2⟩) fun h => ⟨.inr h, hl b h⟩) hl
  | clo h => intro S' hlo hw hl; exact .clo (h.step (fun _ h => h) hl)
  | tup hl' h ih => intro S' hlo hw hl; exact .tup hl' fun j v hv => ih j v hv hlo hw hl
  | agg hl' h ih => intro S' hlo hw hl; exact .agg hl' fun j v hv => ih j v hv hlo hw hl

theorem RelV.step {P : Program} {w w' : World} {lo : Nat → Prop} {μ μ' : Nat → Option MV} {S : Nat → Prop} {v : AV} {x : Value} (h : RelV P w lo μ S v x)
    (hμ : ∀ o mv, μ o = some mv → μ' o = some mv) {S' : Nat → Prop} (hl : ∀ b, lo b → b < w.heap.size) (hw : ∀ b, b < w.heap.size → S b → S' b ∧ w'.heap[b]? = w.heap[b]?) (hb : ∀ b, lo b → w'.heap[b]? = w.heap[b]?) :
    RelV P w' lo μ' S' v x := h.stepH (fun o mv ho => ⟨mv.rs, mv.hs, hμ o mv ho, Ext.refl _⟩) hl hw hb
end Go.Proofs.Ytlmbhkmaflhagaa
