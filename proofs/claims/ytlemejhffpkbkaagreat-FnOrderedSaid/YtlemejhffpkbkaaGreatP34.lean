/-
  Plain laws: the sets of a size.
-/
import Derived.Test.YtlemejhffpkbkaaGreatP28
import Derived.Test.YtlemejhffpkbkaaGreatP8
namespace Go.Proofs.YtlemejhffpkbkaaGreat
theorem setP_places {n : Nat} (h7 : n ≤ 7) (hS : SetsP n) {s : List Int} (hs : s ∈ setsOf n) : Places s n ∧ 0 < s.length ∧ Low1 s := by
  obtain ⟨h1, h2, h3⟩ := hS.rising s hs
  have hl : Low1 s := by unfold Low1; omega
  exact ⟨Places.of hl h1, h2, hl⟩
def ofSz (n : Nat) (k : Int) : List (List Int) := (setsOf n).filter fun s => decide ((s.length : Int) = k)
def chkNE (n : Nat) : Bool := (List.range n).all fun k => (setsOf n).any fun s => Nat.beq s.length (k + 1)
theorem chkNE_all : ∀ n : Nat, n ≤ 7 → chkNE n = true
  | 0, _ => by kernel_rfl
  | 1, _ => by kernel_rfl
  | 2, _ => by kernel_rfl
  | 3, _ => by kernel_rfl
  | 4, _ => by kernel_rfl
  | 5, _ => by kernel_rfl
  | 6, _ => by kernel_rfl
  | 7, _ => by kernel_rfl
  | n + 8, h => by omega
theorem ofSz_ne {n : Nat} (h7 : n ≤ 7) {k : Int} (h1 : 1 ≤ k) (hk : k ≤ (n : Int)) : ofSz n k ≠ [] := by
  have h := chkNE_all n h7
  unfold chkNE at h
  have h2 := List.all_eq_true.1 h (k.toNat - 1) (List.mem_range.2 (by omega))
  obtain ⟨s, hs, e⟩ := List.any_eq_true.1 h2
  have e2 := Nat.eq_of_beq_eq_true e
  intro h3
  have h4 : s ∈ ofSz n k := List.mem_filter.2 ⟨hs, by simp; omega⟩
  rw [h3] at h4
  cases h4
theorem ofSz_mem {n : Nat} {k : Int} {s : List Int} : s ∈ ofSz n k ↔ s ∈ setsOf n ∧ (s.length : Int) = k := by
  unfold ofSz
  rw [List.mem_filter, decide_eq_true_eq]
theorem ofSize_eq {n : Nat} (h1 : 1 ≤ n) (h7 : n ≤ 7) (k : Int) : ∃ y, F_zag (n : Int) k = some y ∧ HG y ∧ permL y.1 y.2 = ofSz n k ∧ y.1.length = (ofSz n k).length ∧ (y.1.length : Int) ≤ 128 := by
  have hS := setsP h1 h7
  obtain ⟨x, e1, e2, e3⟩ := hS.im
  have hl128 := setsP_len hS h7
  have hxl : x.1.length = (setsOf n).length := by rw [← e3, permL_len]
  obtain ⟨y, k1, k2, k3⟩ := deleteFunc_eq (x := x) e2 (by omega) (p := fun h3_ => Option.bind (F_zah h3_.1 k) fun y4_ => some y4_) (q := fun s => !decide ((s.length : Int) = k)) fun s hs => by
    rw [e3] at hs
    obtain ⟨p1, p2, p3⟩ := setP_places h7 hS hs
    unfold Low1 at p3
    show Option.bind (F_zah s k) _ = _
    unfold F_zah T_zah
    simp (disch := omega) only [EV]
    by_cases h : (s.length : Int) = k <;> simp [h]
  have hk : permL y.1 y.2 = ofSz n k := by
    rw [k3, e3]
    unfold ofSz
    congr 1
    funext s
    simp
  have hyl : y.1.length = (ofSz n k).length := by rw [← hk, permL_len]
  have hle : (ofSz n k).length ≤ (setsOf n).length := List.length_filter_le _ _
  unfold F_zag T_zag
  simp (disch := omega) only [EV, e1, k1]
  exact ⟨_, rfl, k2, hk, hyl, by omega⟩
end Go.Proofs.YtlemejhffpkbkaaGreat
/-
  Plain laws: pairs with the greatest distance, and farthest places.
-/
namespace Go.Proofs.YtlemejhffpkbkaaGreat
structure FarL (m : List (List Int)) (k : Nat) (out : List Int) : Prop where
  len : out.length = k
  mem : ∀ x ∈ out, 0 ≤ x ∧ x < (m.length : Int)
end Go.Proofs.YtlemejhffpkbkaaGreat
