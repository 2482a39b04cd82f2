/-
  What it means that values in a world read as typed data; that this stays when the world grows.
-/
import Derived.Test.YtlmbhkmaflhagaaA2
import Derived.Below
namespace Go.Proofs.Ytlmbhkmaflhagaa
open Go.RowKit (Below)

/-- The cells cs read as the datum v of type t; what is met in memory lies in blocks of S. -/
def Rep (S : Nat → Prop) (w : World) : (t : Ty) → t.I → List Value → Prop
  | .int k, n, cs => cs = [.int k n]
  | .bool, b, cs => cs = [.bool b]
  | .str, s, cs => cs = [.string ⟨s.toArray⟩]
  | .slice t, l, cs => ∃ a cap, cs = [.slice a l.length cap] ∧ l.length ≤ cap ∧ ∀ i x, l[i]? = some x → ∃ b off c, a = some ⟨b, off, none⟩ ∧ S b ∧ Rep S w t x c ∧
      ∀ j u, c[j]? = some u → w.cell? ⟨b, off + (i * t.size + j), none⟩ = some u
  | .pair a b, v, cs => ∃ c1 c2, cs = c1 ++ c2 ∧ Rep S w a v.1 c1 ∧ Rep S w b v.2 c2

/-- The cells of the elements of a list, one behind the other. -/
def RepL (S : Nat → Prop) (w : World) (t : Ty) : List t.I → List Value → Prop
  | [], cs => cs = []
  | x :: l, cs => ∃ c r, cs = c ++ r ∧ Rep S w t x c ∧ RepL S w t l r

theorem Ty.size_pos : ∀ t : Ty, 0 < t.size
  | .pair a b => by have := a.size_pos; simp only [Ty.size]; omega
  | .int _ => by simp [Ty.size]
  | .bool => by simp [Ty.size]
  | .str => by simp [Ty.size]
  | .slice _ => by simp [Ty.size]

section
variable {S : Nat → Prop} {w : World}
theorem Rep.len : ∀ {t : Ty} {v : t.I} {cs : List Value}, Rep S w t v cs → cs.length = t.size
  | .int _, _, _, h => by simp only [Rep] at h; subst h; rfl
  | .bool, _, _, h => by simp only [Rep] at h; subst h; rfl
  | .str, _, _, h => by simp only [Rep] at h; subst h; rfl
  | .slice _, _, _, h => by simp only [Rep] at h; obtain ⟨a, cap, h, _⟩ := h; subst h; rfl
  | .pair a b, v, _, h => by
    simp only [Rep] at h
    obtain ⟨c1, c2, h, h1, h2⟩ := h
    subst h
    simp [Ty.size, h1.len, h2.len]

theorem Rep.step {S' : Nat → Prop} {w' : World} (hw : ∀ b, b < w.heap.size → S b → S' b ∧ w'.heap[b]? = w.heap[b]?) : ∀ {t : Ty} {v : t.I} {cs : List Value}, Rep S w t v cs → Rep S' w' t v cs
  | .int _, _, _, h => h
  | .bool, _, _, h => h
  | .str, _, _, h => h
  | .slice t, l, cs, h => by
    simp only [Rep] at h ⊢
    obtain ⟨a, cap, e, hle, hi⟩ := h
    refine ⟨a, cap, e, hle, fun i x hx => ?_⟩
    obtain ⟨b, off, c, ea, hS, hr, hc⟩ := hi i x hx
    have hb : b < w.heap.size := by
      have hl := hr.len
      have hp := t.size_pos
      have : ∃ u, c[0]? = some u := ⟨c[0]'(by omega), by simp [List.getElem?_eq_getElem (show 0 < c.length by omega)]⟩
      obtain ⟨u, hu⟩ := this
      exact block_lt_of_cell (hc 0 u hu)
    obtain ⟨h1, h2⟩ := hw b hb hS
    exact ⟨b, off, c, ea, h1, hr.step hw, fun j u hu => (World.cell?_of_block (w := w) h2).trans (hc j u hu)⟩
  | .pair a b, v, cs, h => by
    simp only [Rep] at h ⊢
    obtain ⟨c1, c2, e, h1, h2⟩ := h
    exact ⟨c1, c2, e, h1.step hw, h2.step hw⟩

theorem RepL.step {S' : Nat → Prop} {w' : World} (hw : ∀ b, b < w.heap.size → S b → S' b ∧ w'.heap[b]? = w.heap[b]?) {t : Ty} : ∀ {l : List t.I} {cs : List Value}, RepL S w t l cs → RepL S' w' t l cs
  | [], _, h => h
  | _ :: _, _, ⟨c, r, e, h1, h2⟩ => ⟨c, r, e, h1.step hw, h2.step hw⟩

theorem RepL.len {t : Ty} : ∀ {l : List t.I} {cs : List Value}, RepL S w t l cs → cs.length = l.length * t.size
  | [], _, h => by simp only [RepL] at h; subst h; simp
  | x :: l, _, ⟨c, r, e, h1, h2⟩ => by
    subst e
    have a := h1.len
    have b := RepL.len h2
    simp [a, b, Nat.add_mul]; omega

theorem RepL.at {t : Ty} : ∀ {l : List t.I} {cs : List Value}, RepL S w t l cs → ∀ {i x}, l[i]? = some x → ∃ c, Rep S w t x c ∧ ∀ j u, c[j]? = some u → cs[i * t.size + j]? = some u
  | [], _, _, i, x, hx => by simp at hx
  | y :: l, _, ⟨c, r, e, h1, h2⟩, i, x, hx => by
    subst e
    cases i with
    | zero =>
      simp at hx
      subst hx
      refine ⟨c, h1, fun j u hu => ?_⟩
      have hj : j < c.length := by
        by_cases h : j < c.length
        · exact h
        · rw [List.getElem?_eq_none (by omega)] at hu; cases hu
      simp only [Nat.zero_mul, Nat.zero_add]
      rw [List.getElem?_append_left hj]; exact hu
    | succ i =>
      simp at hx
      obtain ⟨c', h3, h4⟩ := RepL.at h2 hx
      refine ⟨c', h3, fun j u hu => ?_⟩
      have hl := h1.len
      rw [List.getElem?_append_right (by rw [hl, Nat.add_mul]; omega)]
      rw [show (i + 1) * t.size + j - c.length = i * t.size + j by rw [hl, Nat.add_mul]; omega]
      exact h4 j u hu

theorem RepL.append {t : Ty} : ∀ {l l' : List t.I} {cs cs' : List Value}, RepL S w t l cs → RepL S w t l' cs' → RepL S w t (l ++ l') (cs ++ cs')
  | [], _, _, _, h, h' => by simp only [RepL] at h; subst h; exact h'
  | x :: l, _, _, _, ⟨c, r, e, h1, h2⟩, h' => by
    subst e
    exact ⟨c, r ++ _, by simp, h1, RepL.append h2 h'⟩

theorem RepL.set {t : Ty} : ∀ {l : List t.I} {cs : List Value}, RepL S w t l cs → ∀ {i : Nat} {x : t.I} {c : List Value}, i < l.length → Rep S w t x c →
    RepL S w t (l.set i x) (cs.take (i * t.size) ++ c ++ cs.drop (i * t.size + t.size))
  | [], _, _, i, _, _, hi, _ => by simp at hi
  | y :: l, _, ⟨c0, r, e, h1, h2⟩, i, x, c, hi, hx => by
    subst e
    have hl := h1.len
    cases i with
    | zero =>
      refine ⟨c, r, ?_, hx, h2⟩
      simp [← hl]
    | succ i =>
      have hi' : i < l.length := by simpa using hi
      refine ⟨c0, _, ?_, h1, RepL.set h2 hi' hx⟩
      rw [List.take_append, List.drop_append, List.take_of_length_le (show c0.length ≤ (i + 1) * t.size by rw [hl, Nat.add_mul]; omega),
        List.drop_eq_nil_of_le (show c0.length ≤ (i + 1) * t.size + t.size by rw [hl, Nat.add_mul]; omega)]
      rw [show (i + 1) * t.size - c0.length = i * t.size by rw [hl, Nat.add_mul]; omega, show (i + 1) * t.size + t.size - c0.length = i * t.size + t.size by rw [hl, Nat.add_mul]; omega]
      simp

theorem RepL.of_slice {t : Ty} {l : List t.I} {b off : Nat} {cap n : Nat} (h : Rep S w (.slice t) l [.slice (some ⟨b, off, none⟩) n cap]) :
    ∃ cs, RepL S w t l cs ∧ ∀ j u, cs[j]? = some u → w.cell? ⟨b, off + j, none⟩ = some u := by
  simp only [Rep] at h
  obtain ⟨a, cp, e, _, hi⟩ := h
  have : ∀ (m : Nat) (k : List t.I) (i0 : Nat), k.length = m → (∀ i x, k[i]? = some x → ∃ c, Rep S w t x c ∧ ∀ j u, c[j]? = some u → w.cell? ⟨b, off + ((i0 + i) * t.size + j), none⟩ = some u) →
      ∃ cs, RepL S w t k cs ∧ ∀ j u, cs[j]? = some u → w.cell? ⟨b, off + (i0 * t.size + j), none⟩ = some u := by
    intro m
    induction m with
    | zero => intro k i0 hk _; have : k = [] := List.eq_nil_of_length_eq_zero hk; subst this; exact ⟨[], rfl, fun j u hu => by simp at hu⟩
    | succ m ih =>
      intro k i0 hk hh
      cases k with
      | nil => simp at hk
      | cons x k =>
        obtain ⟨c, hc1, hc2⟩ := hh 0 x (by simp)
        obtain ⟨cs, hcs1, hcs2⟩ := ih k (i0 + 1) (by simpa using hk) (fun i y hy => by
          obtain ⟨c', h1, h2⟩ := hh (i + 1) y (by simpa using hy)
          exact ⟨c', h1, fun j u hu => by have := h2 j u hu; rwa [show i0 + (i + 1) = i0 + 1 + i by omega] at this⟩)
        refine ⟨c ++ cs, ⟨c, cs, rfl, hc1, hcs1⟩, fun j u hu => ?_⟩
        have hl := hc1.len
        by_cases hj : j < c.length
        · rw [List.getElem?_append_left hj] at hu
          have := hc2 j u hu
          rwa [Nat.add_zero] at this
        · rw [List.getElem?_append_right (by omega)] at hu
          have := hcs2 (j - c.length) u hu
          rwa [show (i0 + 1) * t.size + (j - c.length) = i0 * t.size + j by rw [Nat.add_mul, hl]; omega] at this
  obtain ⟨cs, h1, h2⟩ := this l.length l 0 rfl (fun i x hx => by
    obtain ⟨b', off', c, ea, hS, hr, hc⟩ := hi i x hx
    simp only [List.cons.injEq, Value.slice.injEq, and_true] at e
    obtain ⟨e1, _, _⟩ := e
    rw [← e1] at ea
    simp only [Option.some.injEq, Addr.mk.injEq, and_true] at ea
    obtain ⟨rfl, rfl⟩ := ea
    exact ⟨c, hr, fun j u hu => by have := hc j u hu; rwa [Nat.zero_add]⟩)
  exact ⟨cs, h1, fun j u hu => by have := h2 j u hu; rwa [Nat.zero_mul, Nat.zero_add] at this⟩

/-- Elements that lie one behind the other in a block of S are a slice. -/
theorem Rep.slice_of {t : Ty} {l : List t.I} {cs : List Value} {b off cap : Nat} (hle : l.length ≤ cap) (hS : S b) (h : RepL S w t l cs) (hc : ∀ j u, cs[j]? = some u → w.cell? ⟨b, off + j, none⟩ = some u) :
    Rep S w (.slice t) l [.slice (some ⟨b, off, none⟩) l.length cap] := by
  simp only [Rep]
  refine ⟨_, _, rfl, hle, fun i x hx => ?_⟩
  obtain ⟨c, h1, h2⟩ := h.at hx
  exact ⟨b, off, c, rfl, hS, h1, fun j u hu => hc _ _ (h2 j u hu)⟩

theorem Rep.nil {t : Ty} {a : Option Addr} {cap : Nat} : Rep S w (.slice t) ([] : List t.I) [.slice a 0 cap] := by
  simp only [Rep]
  exact ⟨_, _, rfl, Nat.zero_le _, fun i x hx => by simp at hx⟩
end

theorem Ty.eq?_self : ∀ t : Ty, Ty.eq? t t = some ⟨rfl⟩
  | .int k => by simp [Ty.eq?]
  | .bool => rfl
  | .str => rfl
  | .slice t => by simp [Ty.eq?, Ty.eq?_self t]
  | .pair a b => by simp [Ty.eq?, Ty.eq?_self a, Ty.eq?_self b]

theorem Ty.cast_spec {a b : Ty} {x : a.I} {y : b.I} (h : Ty.cast a b x = some y) : ∃ e : a = b, y = e ▸ x := by
  unfold Ty.cast at h
  split at h
  · rename_i e _
    simp at h
    exact ⟨e, h.symm⟩
  · cases h
end Go.Proofs.Ytlmbhkmaflhagaa
