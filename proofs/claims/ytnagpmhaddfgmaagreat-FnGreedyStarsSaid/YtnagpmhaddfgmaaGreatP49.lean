/-
 Draws of edits and of atlases.
-/
import Derived.Test.YtnagpmhaddfgmaaGreatP48
import Derived.Test.YtnagpmhaddfgmaaGreatP30
namespace Go.Proofs.YtnagpmhaddfgmaaGreat
def Dw {R : Type} (Q : R → Prop) (t : Tr R) : Prop := ∃ r, t.ev = some r ∧ Q r
theorem Dw.l {R : Type} {Q : R → Prop} {r : R} (h : Q r) : Dw Q (.l r) := ⟨r, rfl, h⟩
theorem Dw.t {R : Type} {Q : R → Prop} {b : Bool} {x y : Tr R} (h1 : b = true → Dw Q x) (h2 : b = false → Dw Q y) : Dw Q (.t b x y) := by
 cases b
 ·exact h2 rfl
 ·exact h1 rfl
theorem Dw.g {R : Type} {Q : R → Prop} {b : Bool} {x : Tr R} (h1 : b = true) (h2 : Dw Q x) : Dw Q (.g b x) := by
 subst h1
 exact h2
theorem Dw.c {R S : Type} {Q : R → Prop} {x : Option S} {k : S → Tr R} {r : S} (h1 : x = some r) (h2 : Dw Q (k r)) : Dw Q (.c S x k) := by
 obtain ⟨y, e, h⟩ := h2
 exact ⟨y, by rw [Tr.ev_c, h1]; exact e, h⟩
theorem Dw.pick {R : Type} {Q : R → Prop} {B n : Int} {l : List Int} {i c : Int} {k : (Int) × ((List (Int)) × ((Int) × (Int))) → Tr R} (hc : CK B l i) (hB : B ≤ 900000) (hn : 1 ≤ n) (h : ∀ x i' c', 0 ≤ x → x < n → CK (B + 2) l i' → Dw Q (k (x, (l, (i', c'))))) : Dw Q (.c _ (whg n l i c) k) := by
 obtain ⟨x, i', c', e, x0, x1, h1⟩ := wer n c hc (by omega) hn
 exact Dw.c e (h _ _ _ x0 x1 h1)
theorem Dw.among {R : Type} {Q : R → Prop} {B : Int} {L : List Int} {l : List Int} {i c : Int} {k : (Int) × ((List (Int)) × ((Int) × (Int))) → Tr R} (hc : CK B l i) (hB : B ≤ 900000) (hn : 1 ≤ L.length) (h : ∀ x i' c', CK (B + 2) l i' → Dw Q (k (x, (l, (i', c'))))) : Dw Q (.c _ (wpw L l i c) k) := by
 obtain ⟨x, i', c', e, _, h1⟩ := wgy L c hc (by omega) hn
 exact Dw.c e (h _ _ _ h1)
theorem Dw.one {R : Type} {Q : R → Prop} {B n : Int} {l : List Int} {i c : Int} {k : (Bool) × ((List (Int)) × ((Int) × (Int))) → Tr R} (hc : CK B l i) (hB : B ≤ 900000) (hn : 1 ≤ n) (h : ∀ x i' c', CK (B + 2) l i' → Dw Q (k (x, (l, (i', c'))))) : Dw Q (.c _ (wpx n l i c) k) := by
 obtain ⟨x, i', c', e, h1⟩ := wbcf n c hc (by omega) hn
 exact Dw.c e (h _ _ _ h1)
theorem Dw.bits {R : Type} {Q : R → Prop} {n : Nat} {x : Int} {k : List (Int) → Tr R} (hn : n ≤ 1000) (h : ∀ s, s.length ≤ n → Dw Q (k s)) : Dw Q (.c _ (wanw (n : Int) x) k) := by
 obtain ⟨s, e, hs⟩ := waqa hn x
 exact Dw.c e (h s hs)
structure DrA (o : List Int) (ds : List (List Int)) (s : List Int) : Prop where
 fld : DrF o ds
 set : s.length ≤ 9
theorem DrA.low {o s : List Int} {ds : List (List Int)} (h : DrA o ds s) : wdp o ∧ wul ds ∧ wdp s := ⟨h.fld.o1, h.fld.d2, by have := h.set; unfold wdp; omega⟩
end Go.Proofs.YtnagpmhaddfgmaaGreat
