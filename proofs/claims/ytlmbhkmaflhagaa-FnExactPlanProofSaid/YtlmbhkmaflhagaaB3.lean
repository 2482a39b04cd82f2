/-
  What an activation owns; the types' table; operations that write nothing: values alone.
-/
import Derived.Test.YtlmbhkmaflhagaaB2
namespace Go.Proofs.Ytlmbhkmaflhagaa
open Go.RowKit (Below)

def rootV : Value → Option Nat
  | .slice (some a) _ _ => some a.block
  | .pointer (some a) => some a.block
  | _ => none

/-- The blocks in which data may lie. -/
def SS (X : Nat → Prop) (μ : Nat → Option MV) (b : Nat) : Prop := ¬ X b ∧ ∀ o mv, μ o = some mv → b ∉ mv.rs

/-- An array of arrays whose rows (those of p) are owned, too; hs: the rows' headers. -/
structure RowsOK (w : World) (lo : Nat → Prop) (S : Nat → Prop) (e e2 : Nat) (t : Ty) (l : List (List t.I)) (p : Nat → Prop) (mv : MV) (hs : List Value) : Prop where
  own : w.ownsRow 0 e 1 mv.v l.length hs
  top : ∀ b, rootV mv.v = some b → b ∈ mv.rs
  low : ∀ b ∈ mv.rs, ¬ lo b ∧ b < w.heap.size
  slc : ∀ x ∈ hs, ∃ a n c, x = .slice a n c
  row : ∀ j x r, p j → hs[j]? = some x → l[j]? = some r → (∀ b, rootV x = some b → b ∈ mv.rs ∧ rootV mv.v ≠ some b) ∧ ∃ xs, w.ownsRow 0 e2 t.size x r.length xs ∧ RepL S w t r xs
  apart : ∀ j k x y b, p j → p k → hs[j]? = some x → hs[k]? = some y → rootV x = some b → rootV y = some b → j = k

theorem RowsOK.len {w : World} {lo S : Nat → Prop} {e e2 : Nat} {t : Ty} {l : List (List t.I)} {p : Nat → Prop} {mv : MV} {hs : List Value} (h : RowsOK w lo S e e2 t l p mv hs) : hs.length = l.length := by
  have := h.own.1
  omega

theorem ownsRow_same {w w' : World} {e n sz : Nat} {v : Value} {xs : List Value} (h : w.ownsRow 0 e sz v n xs) (hb : ∀ b, rootV v = some b → w'.heap[b]? = w.heap[b]?) : w'.ownsRow 0 e sz v n xs := by
  refine ⟨h.1, ?_⟩
  rcases h.2 with h | ⟨gb, cap, cur, e1, h1, h2, h3⟩
  · exact .inl h
  · exact .inr ⟨gb, cap, cur, e1, h1, by rw [hb gb (by rw [e1]; simp [rootV])]; exact h2, h3⟩

theorem RowsOK.step {w w' : World} {lo lo' S S' : Nat → Prop} {e e2 : Nat} {t : Ty} {l : List (List t.I)} {p : Nat → Prop} {mv : MV} {hs : List Value} (h : RowsOK w lo S e e2 t l p mv hs) (hw : ∀ b, b < w.heap.size → S b → S' b ∧ w'.heap[b]? = w.heap[b]?)
    (hr : ∀ b, b ∈ mv.rs → w'.heap[b]? = w.heap[b]?) (hlo : ∀ b, b ∈ mv.rs → ¬ lo' b) : RowsOK w' lo' S' e e2 t l p mv hs := by
  refine ⟨ownsRow_same h.own fun b hb => hr b (h.top b hb), h.top, fun b hb => ⟨hlo b hb, ?_⟩, h.slc, fun j x r hp hx hl => ?_, h.apart⟩
  · have h1 := (h.low b hb).2
    have h2 := hr b hb
    rw [Array.getElem?_eq_getElem h1] at h2
    exact (Array.getElem?_eq_some_iff.1 h2).1
  · obtain ⟨k1, xs, k2, k3⟩ := h.row j x r hp hx hl
    exact ⟨k1, xs, ownsRow_same k2 fun b hb => hr b (k1 b hb).1, k3.step hw⟩

/-- The rows that are there. -/
def inRow (h : Option (Nat × Option Nat)) (j : Nat) : Prop := ∀ i k, h = some (i, k) → j ≠ i

def ObOK (P : Program) (w : World) (lo : Nat → Prop) (μ : Nat → Option MV) (S : Nat → Prop) : Ob → MV → Prop
  | .arr e t l, mv => (mv.hs = [] ∧ mv.rs = (rootV mv.v).toList) ∧ (∀ b, rootV mv.v = some b → ¬ lo b) ∧ ∃ xs, w.ownsRow 0 e t.size mv.v l.length xs ∧ RepL S w t l xs
  | .txt e l, mv => ∃ b cap cur fr, mv = ⟨.slice (some ⟨b, 0, none⟩) l.length cap, [b], []⟩ ∧ ¬ lo b ∧ w.heap[b]? = some (.cells cur e fr) ∧ cap ≤ fr.1 ∧ l.length ≤ cap ∧ cur.size = cap ∧ cur.toList.take l.length = l.map (Value.int .u8)
  | .rows e e2 t l h, mv => RowsOK w lo S e e2 t l (inRow h) mv mv.hs ∧ ∀ i d, h = some (i, some d) → ∃ x rs hs, mv.hs[i]? = some x ∧ μ d = some ⟨x, rs, hs⟩
  | .cells cs, mv => ∃ b vs e, mv = ⟨.pointer (some ⟨b, 0, none⟩), [b], []⟩ ∧ ¬ lo b ∧ w.heap[b]? = some (.cells vs e (0, 0)) ∧ vs.size = cs.length ∧ ∀ j v, nth cs j = some v → RelV P w lo μ S v (vs.getD j undef)

/-- The tables of the library's that a contract may read: the block, its cells. -/
class Tabs where
  tabs : List (Nat × List Value)

/-- Where nothing is said there are none. -/
instance noTabs : Tabs := ⟨[]⟩

/-- Each table is where it was laid, among what is old. -/
def TabsOK [Tabs] (w : World) (lo : Nat → Prop) : Prop := ∀ p ∈ Tabs.tabs, lo p.1 ∧ ∃ t y, w.heap[p.1]? = some (.cells p.2.toArray t y)
theorem TabsOK.step [Tabs] {w w' : World} {lo : Nat → Prop} (h : TabsOK w lo) (hb : ∀ b, lo b → w'.heap[b]? = w.heap[b]?) : TabsOK w' lo := fun p hp => by
  obtain ⟨h1, t, y, h2⟩ := h p hp
  exact ⟨h1, t, y, (hb _ h1).trans h2⟩
theorem TabsOK.le [Tabs] {w : World} {lo lo' : Nat → Prop} (h : TabsOK w lo) (hl : ∀ b, lo b → lo' b) : TabsOK w lo' := fun p hp => ⟨hl _ (h p hp).1, (h p hp).2⟩

structure Mem [Tabs] (P : Program) (X : Nat → Prop) (lo : Nat → Prop) (g : Nat → Option Ob) (μ : Nat → Option MV) (w : World) : Prop where
  hX : ∀ b, X b → lo b
  hlo : (∀ b, lo b → b < w.heap.size)
  ob : ∀ o mv, μ o = some mv → ∃ x, g o = some x ∧ ObOK P w lo μ (SS X μ) x mv
  dis : ∀ o p mv mv' b, μ o = some mv → μ p = some mv' → b ∈ mv.rs → b ∈ mv'.rs → o = p
  tab : TabsOK w lo

/-! ### The types' table -/
def isZ1 : Ty → Value → Bool
  | .int k, .int k' n => decide (k = k') && n == 0
  | .bool, .bool b => !b
  | .str, .string s => decide (s.data.toList = [])
  | .slice _, .slice none n c => n == 0 && c == 0
  | _, _ => false
def isZ : Ty → List Value → Bool
  | .pair a b, cs => isZ a (cs.take a.size) && isZ b (cs.drop a.size)
  | t, cs => match cs with
    | [v] => isZ1 t v
    | _ => false

def InfoOK (P : Program) (T : Nat) (t : Ty) : Prop := ∃ i z, P.info? T = some i ∧ i.size = t.size ∧ i.zero = some z ∧ isZ t z.cells.toList = true

def scOf : Ty → Option TypeDesc
  | .int k => some (.int k)
  | .bool => some .bool
  | .str => some .string
  | _ => none

def plainDesc : TypeDesc → Bool
  | .struct _ => false
  | .array _ _ => false
  | _ => true

/-- The fields lie one behind the other. -/
def fieldsOK (P : Program) : List Go.Field → List (Nat × Ty) → Nat → Prop
  | [], [], _ => True
  | f :: fs, (ty, t) :: ts, o => f.type = ty ∧ f.offset = o ∧ InfoOK P ty t ∧ fieldsOK P fs ts (o + t.size)
  | _, _, _ => False

def sumSize : List (Nat × Ty) → Nat
  | [] => 0
  | (_, t) :: r => t.size + sumSize r

/-- Structs of scalars are compared part by part. -/
def EqOK (P : Program) (T : Nat) (fields : Array Go.Field) : Prop := P.eqGuardType P.depth T = false ∧ P.stoodInHeld T = false ∧ ∀ f ∈ fields.toList, f.name ≠ "_"

def TDok (P : Program) (T : Nat) : TD → Prop
  | .sc t => ∃ d, scOf t = some d ∧ P.underlying T = some d ∧ InfoOK P T t
  | .sl e t b => P.underlying T = some (.slice e) ∧ (∃ i z, P.info? e = some i ∧ i.size = t.size ∧ i.bytes = b ∧ i.zero = some z ∧ isZ t z.cells.toList = true) ∧ ∃ i, P.info? T = some i ∧ i.size = 1 ∧ i.zero = some (.slice none 0 0)
  | .st t fs => ∃ fields, P.underlying T = some (.struct fields) ∧ fieldsOK P fields.toList fs 0 ∧ (sumSize fs = t.size ∧ (scFs fs = true → EqOK P T fields)) ∧ InfoOK P T t
  | .ar n e te t => P.underlying T = some (.array n e) ∧ InfoOK P e te ∧ n * te.size = t.size ∧ InfoOK P T t
  | .other => ∃ d i z, P.underlying T = some d ∧ plainDesc d = true ∧ P.info? T = some i ∧ i.size = 1 ∧ i.zero = some z ∧ z.cells.size = 1
  | .no => True

def TabOK (P : Program) (tt : Nat → TD) : Prop := ∀ T, TDok P T (tt T)

theorem isZ_len : ∀ {t : Ty} {cs : List Value}, isZ t cs = true → cs.length = t.size
  | .pair a b, cs, h => by
    simp only [isZ, Bool.and_eq_true] at h
    have h1 := isZ_len h.1
    have h2 := isZ_len h.2
    simp only [List.length_take, List.length_drop] at h1 h2
    simp only [Ty.size]
    have := b.size_pos
    omega
  | .int k, cs, h => by match cs, h with | [_], _ => rfl
  | .bool, cs, h => by match cs, h with | [_], _ => rfl
  | .str, cs, h => by match cs, h with | [_], _ => rfl
  | .slice _, cs, h => by match cs, h with | [_], _ => rfl

theorem string_nil {s : ByteArray} (h : s.data.toList = []) : s = ⟨([] : List UInt8).toArray⟩ := by
  cases s with
  | mk d =>
    have : d = #[] := by
      apply Array.ext'
      simpa using h
    rw [this]

theorem isZ_one {t : Ty} (ht : t.size = 1) {cs : List Value} (h : isZ t cs = true) : ∃ x, cs = [x] := by
  have := isZ_len h
  match cs, this with
  | [x], _ => exact ⟨x, rfl⟩
  | [], e => simp at e; omega
  | _ :: _ :: _, e => simp at e; omega
theorem isZ1_int {k : IntKind} {x : Value} (h : isZ (.int k) [x] = true) : x = .int k 0 := by
  cases x <;> simp [isZ, isZ1] at h
  obtain ⟨rfl, rfl⟩ := h; rfl
theorem isZ1_bool {x : Value} (h : isZ .bool [x] = true) : x = .bool false := by
  cases x <;> simp [isZ, isZ1] at h
  subst h; rfl
theorem isZ1_str {x : Value} (h : isZ .str [x] = true) : x = .string ⟨([] : List UInt8).toArray⟩ := by
  cases x with
  | string s => simp [isZ, isZ1] at h; rw [string_nil (s := s) (by simp [h])]
  | _ => simp [isZ, isZ1] at h
theorem isZ1_slice {t : Ty} {x : Value} (h : isZ (.slice t) [x] = true) : x = .slice none 0 0 := by
  cases x with
  | slice a n c => cases a <;> simp [isZ, isZ1] at h; obtain ⟨rfl, rfl⟩ := h; rfl
  | _ => simp [isZ, isZ1] at h

theorem isZ_rep {S : Nat → Prop} {w : World} : ∀ {t : Ty} {cs : List Value}, isZ t cs = true → Rep S w t t.dflt cs
  | .pair a b, cs, h => by
    simp only [isZ, Bool.and_eq_true] at h
    exact ⟨_, _, (List.take_append_drop a.size cs).symm, isZ_rep h.1, isZ_rep h.2⟩
  | .int k, cs, h => by obtain ⟨x, rfl⟩ := isZ_one rfl h; rw [isZ1_int h]; rfl
  | .bool, cs, h => by obtain ⟨x, rfl⟩ := isZ_one rfl h; rw [isZ1_bool h]; rfl
  | .str, cs, h => by obtain ⟨x, rfl⟩ := isZ_one rfl h; rw [isZ1_str h]; rfl
  | .slice _, cs, h => by obtain ⟨x, rfl⟩ := isZ_one rfl h; rw [isZ1_slice h]; exact Rep.nil

theorem isZ_rel {P : Program} {S : Nat → Prop} {w : World} {lo : Nat → Prop} {μ : Nat → Option MV} : ∀ {t : Ty} {cs : List Value}, isZ t cs = true → (zeroAV t).length = cs.length ∧ ∀ j v, nth (zeroAV t) j = some v → RelV P w lo μ S v (cs.getD j undef)
  | .pair a b, cs, h => by
    simp only [isZ, Bool.and_eq_true] at h
    obtain ⟨h1, h2⟩ := isZ_rel (P := P) (S := S) (w := w) (lo := lo) (μ := μ) h.1
    obtain ⟨h3, h4⟩ := isZ_rel (P := P) (S := S) (w := w) (lo := lo) (μ := μ) h.2
    have hl := isZ_len h.1
    simp only [List.length_take, List.length_drop] at h1 h3 hl
    refine ⟨by simp only [zeroAV, List.length_append]; omega, fun j v hv => ?_⟩
    simp only [zeroAV, nth_eq] at hv
    by_cases hj : j < (zeroAV a).length
    · rw [List.getElem?_append_left hj] at hv
      have := h2 j v (by rw [nth_eq]; exact hv)
      rwa [List.getD_eq_getElem?_getD, List.getElem?_take, if_pos (by omega), ← List.getD_eq_getElem?_getD] at this
    · rw [List.getElem?_append_right (by omega)] at hv
      have := h4 _ v (by rw [nth_eq]; exact hv)
      rwa [List.getD_eq_getElem?_getD, List.getElem?_drop, show a.size + (j - (zeroAV a).length) = j by omega, ← List.getD_eq_getElem?_getD] at this
  | .int k, cs, h => by
    obtain ⟨x, rfl⟩ := isZ_one rfl h
    exact ⟨rfl, fun j v hv => by match j, hv with | 0, hv => simp [zeroAV, nth] at hv; subst hv; exact .dat rfl (isZ_rep h)⟩
  | .bool, cs, h => by
    obtain ⟨x, rfl⟩ := isZ_one rfl h
    exact ⟨rfl, fun j v hv => by match j, hv with | 0, hv => simp [zeroAV, nth] at hv; subst hv; exact .dat rfl (isZ_rep h)⟩
  | .str, cs, h => by
    obtain ⟨x, rfl⟩ := isZ_one rfl h
    exact ⟨rfl, fun j v hv => by match j, hv with | 0, hv => simp [zeroAV, nth] at hv; subst hv; exact .dat rfl (isZ_rep h)⟩
  | .slice _, cs, h => by
    obtain ⟨x, rfl⟩ := isZ_one rfl h
    rw [isZ1_slice h]
    exact ⟨rfl, fun j v hv => by match j, hv with | 0, hv => simp [zeroAV, nth] at hv; subst hv; exact .nilsl⟩

theorem scOf_plain {t : Ty} {d : TypeDesc} (h : scOf t = some d) : plainDesc d = true := by
  cases t <;> simp [scOf] at h <;> subst h <;> rfl

section
variable {P : Program} {tt : Nat → TD} {w : World}
theorem run_agg (hT : TabOK P tt) {ty : Nat} {sz : Nat × Bool} (h : tySize tt ty = some sz) : (isAgg ty).run P w = .ok sz.2 w ∧ (sizeOf ty).run P w = .ok sz.1 w := by
  have hd := hT ty
  unfold tySize at h
  split at h <;> rename_i hq <;> rw [hq] at hd <;> simp only [TDok] at hd
  · obtain ⟨d, h1, h2, i, z, h3, h4, _⟩ := hd
    cases h
    refine ⟨?_, by simp [sizeOf, typeInfo, h3, h4]⟩
    have hd2 := scOf_plain h1
    cases d <;> simp [plainDesc] at hd2 <;> simp [isAgg, run_underlying h2]
  · obtain ⟨h1, _, i, h3, h4, _⟩ := hd
    cases h
    exact ⟨by simp [isAgg, run_underlying h1], by simp [sizeOf, typeInfo, h3, h4]⟩
  · obtain ⟨fields, h1, _, _, i, z, h3, h4, _⟩ := hd
    cases h
    exact ⟨by simp [isAgg, run_underlying h1], by simp [sizeOf, typeInfo, h3, h4]⟩
  · obtain ⟨h1, _, _, i, z, h3, h4, _⟩ := hd
    cases h
    exact ⟨by simp [isAgg, run_underlying h1], by simp [sizeOf, typeInfo, h3, h4]⟩
  · obtain ⟨d, i, _, h1, h2, h3, h4, _⟩ := hd
    cases h
    refine ⟨?_, by simp [sizeOf, typeInfo, h3, h4]⟩
    cases d <;> simp [plainDesc] at h2 <;> simp [isAgg, run_underlying h1]
  · cases h
end
end Go.Proofs.Ytlmbhkmaflhagaa
