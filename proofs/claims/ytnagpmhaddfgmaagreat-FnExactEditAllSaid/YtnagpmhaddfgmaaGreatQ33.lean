/-
 The laws of edits of atlases.
-/
import Derived.Test.YtnagpmhaddfgmaaGreatP52
import Derived.Test.YtnagpmhaddfgmaaGreatP7
import Derived.Test.YtnagpmhaddfgmaaGreatPM
namespace Go.Proofs.YtnagpmhaddfgmaaGreat
theorem elow0 : Low1 [] := by unfold Low1; simp
theorem elow00 : Low2 [] := ⟨by simp, fun r h => by simp at h⟩
theorem emarkAtlas_eq {o : List Int} {ds : List (List Int)} {s : List Int} (ho : Low1 o) (hd : Low2 ds) (hs : Low1 s) (c : Int) : ∃ m, wjk c 1 o ds s = some (m + (s.length : Int), markL 1 o.length, markLL (1 + (o.length : Int)) ds, markL m s.length) ∧ m = tot (1 + (o.length : Int)) ds ∧ 1 ≤ m ∧ m ≤ 2199023255553 := by
 have hl := hs
 unfold Low1 at hl
 obtain ⟨m, e1, e2, e3, e4⟩ := markField_eq ho hd (k := 1) (by omega) (by omega)
 unfold wjk wya
 simp (disch := omega) only [EV, e1, markIntS_eq hs (k := m) (by omega) (by omega)]
 exact ⟨m, rfl, e2, by omega, by omega⟩
theorem eheldAtlas_eq {o : List Int} {ds : List (List Int)} {s : List Int} (ho : Low1 o) (hd : Low2 ds) (hs : Low1 s) (c : Int) {m : Int} (e2 : m = tot (1 + (o.length : Int)) ds) (e3 : 1 ≤ m) (e4 : m ≤ 2199023255553) :
  wjo (markL 1 o.length) (markLL (1 + (o.length : Int)) ds) (markL m s.length) c 1 = some (m + (s.length : Int)) := by
 have hl := hs
 unfold Low1 at hl
 have hn : ¬ m < 0 := by omega
 have hn2 : ¬ m + (s.length : Int) < 0 := by omega
 unfold wjo wyo
 simp (disch := omega) only [EV, heldField_eq ho hd (k := 1) (by omega) (by omega), ← e2, hn, heldIntS_eq (n := s.length) hl (k := m) (by omega) (by omega), hn2]
end Go.Proofs.YtnagpmhaddfgmaaGreat
