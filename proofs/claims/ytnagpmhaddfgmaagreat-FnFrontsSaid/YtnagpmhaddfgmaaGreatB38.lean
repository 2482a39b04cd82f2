/-
 What is computed with bounded rounds is what is computed.
-/
import Derived.Test.YtnagpmhaddfgmaaGreatB31
namespace Go.Proofs.YtnagpmhaddfgmaaGreat
def Le {α : Type} (x y : Option α) : Prop := ∀ r, x = some r → y = some r
theorem Le.refl {α : Type} (x : Option α) : Le x x := fun _ h => h
theorem Le.f {α : Type} (y : Option α) : Le (Tr.f : Tr α).ev y := fun _ h => by cases h
theorem Le.none {α : Type} (y : Option α) : Le none y := fun _ h => by cases h
theorem Le.t {α : Type} {b : Bool} {x y x' y' : Tr α} (h1 : Le x.ev x'.ev) (h2 : Le y.ev y'.ev) : Le (Tr.t b x y).ev (Tr.t b x' y').ev := by
 cases b
 ·exact h2
 ·exact h1
theorem Le.g {α : Type} {b : Bool} {x x' : Tr α} (h1 : Le x.ev x'.ev) : Le (Tr.g b x).ev (Tr.g b x').ev := by
 cases b
 ·exact Le.refl _
 ·exact h1
theorem Le.c {α R : Type} {x x' : Option R} {k k' : R → Tr α} (h1 : Le x x') (h2 : ∀ r, Le (k r).ev (k' r).ev) : Le (Tr.c R x k).ev (Tr.c R x' k').ev := by
 intro r h
 simp only [Tr.ev_c] at h ⊢
 cases x with
 | none => cases h
 | some a => rw [h1 a rfl]; exact h2 a r h
theorem Le.s {α A B : Type} {x : A ⊕ B} {k k' : A → Tr α} {q q' : B → Tr α} (h1 : ∀ a, Le (k a).ev (k' a).ev) (h2 : ∀ a, Le (q a).ev (q' a).ev) : Le (Tr.s A B x k q).ev (Tr.s A B x k' q').ev := by
 cases x with
 | inl a => exact h1 a
 | inr a => exact h2 a
theorem Le.bnd {α β : Type} {x x' : Option α} {k : α → Option β} (h : Le x x') : Le (x.bind k) (x'.bind k) := by
 intro r hr
 cases x with
 | none => cases hr
 | some a => rw [h a rfl]; exact hr
theorem Le.it {V R : Type} {f g : V → Option (V ⊕ R)} (h : ∀ v, Le (f v) (g v)) (n : Nat) (v : V) : Le (iterN f n v) (iter g v) := by
 intro r hr
 refine iter_some.2 ⟨n, ?_⟩
 induction n generalizing v with
 | zero => cases hr
 | succ n ih =>
  simp only [iterN] at hr ⊢
  cases hf : f v with
  | none => rw [hf] at hr; cases hr
  | some x =>
   rw [hf] at hr
   rw [h v _ hf]
   cases x with
   | inl v' => exact ih v' hr
   | inr r' => exact hr
end Go.Proofs.YtnagpmhaddfgmaaGreat
