/-
 The laws of edits of atlases.
-/
import Derived.Test.YtnagpmhaddfgmaaGreatP52
import Derived.Test.YtnagpmhaddfgmaaGreatP7
import Derived.Test.YtnagpmhaddfgmaaGreatPM
namespace Go.Proofs.YtnagpmhaddfgmaaGreat
theorem elow0 : Low1 [] := by unfold Low1; simp
theorem elow00 : Low2 [] := ⟨by simp, fun r h => by simp at h⟩
theorem doT_low {o s : List Int} {ds : List (List Int)} {n k a b c : Int} {l : List Int} : ∃ c' b' o' ds' s', doT (doOf o ds s n k a b c l) = (c', (b', (o', (ds', s')))) ∧ Low1 o' ∧ Low2 ds' ∧ Low1 s' := by
 cases hd : doOf o ds s n k a b c l with
 | none => exact ⟨_, _, _, _, _, rfl, elow0, elow00, elow0⟩
 | some y =>
  have h := doOf_atl hd
  obtain ⟨h1, h2⟩ := fld_low h.fld
  exact ⟨_, _, _, _, _, rfl, h1, h2, h.set.low h.fld.len⟩
def edOf (o : List Int) (ds : List (List Int)) (s : List Int) (n k a b c : Int) (l : List Int) : Int × Bool × List Int × List (List Int) × List Int :=
 bif atlasB o ds s n then doT (doOf o ds s n k a b c l) else (0, false, [], [], [])
theorem edOf_low (o s : List Int) (ds : List (List Int)) (n k a b c : Int) (l : List Int) : ∃ c' b' o' ds' s', edOf o ds s n k a b c l = (c', (b', (o', (ds', s')))) ∧ Low1 o' ∧ Low2 ds' ∧ Low1 s' := by
 unfold edOf
 cases atlasB o ds s n with
 | false => exact ⟨_, _, _, _, _, rfl, elow0, elow00, elow0⟩
 | true => exact doT_low
theorem sp_EditAtlas_eq {o s : List Int} {ds : List (List Int)} (ho : Low1 o) (hd : Low2 ds) (hs : Low1 s) (n k a b c : Int) {l : List Int} (hl : Low1 l) : wpg o ds s n k a b c l = some (edOf o ds s n k a b c l) := by
 unfold wpg waai edOf
 rw [Tr.ev_c, l12Good_eq ho hd hs, Option.bind_some, Tr.ev_t]
 cases hb : atlasB o ds s n with
 | false => rfl
 | true =>
  rw [Bool.not_true, cond_false, cond_true, Tr.ev_c, edo_eq (atl_iff.1 hb) k a b c hl, Option.bind_some, Tr.ev_l]
theorem im_EditAtlas_eq {o s : List Int} {ds : List (List Int)} (ho : Low1 o) (hd : Low2 ds) (hs : Low1 s) (n k a b c : Int) {l : List Int} (hl : Low1 l) : wcn o ds s n k a b c l = some (edOf o ds s n k a b c l) := by
 cases hb : atlasB o ds s n with
 | true =>
  rw [iedit_eq (atl_iff.1 hb) k a b c hl]
  unfold edOf
  rw [hb]
  rfl
 | false =>
  unfold wcn T_zh edOf
  rw [Tr.ev_c, im_IsAtlas_eq ho hd hs, hb, Option.bind_some, Tr.ev_t]
  rfl
end Go.Proofs.YtnagpmhaddfgmaaGreat
