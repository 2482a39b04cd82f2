/-
  Plain laws: all sets of n sites, as both sides list them: computed by the kernel for each n.
-/
import Derived.Test.YtlmbhkmaflhagaaGreatEM2
import Derived.Test.YtlmbhkmaflhagaaGreatP8
namespace Go.Proofs.YtlmbhkmaflhagaaGreat
def setsOf : Nat → List (List Int)
  | 1 => [[0]]
  | 2 => [[0], [1], [0, 1]]
  | 3 => [[0], [1], [2], [0, 1], [0, 2], [1, 2], [0, 1, 2]]
  | 4 => [[0], [1], [2], [3], [0, 1], [0, 2], [0, 3], [1, 2], [1, 3], [2, 3], [0, 1, 2], [0, 1, 3], [0, 2, 3], [1, 2, 3], [0, 1, 2, 3]]
  | 5 => [[0], [1], [2], [3], [4], [0, 1], [0, 2], [0, 3], [0, 4], [1, 2], [1, 3], [1, 4], [2, 3], [2, 4], [3, 4], [0, 1, 2], [0, 1, 3], [0, 1, 4], [0, 2, 3], [0, 2, 4], [0, 3, 4], [1, 2, 3], [1, 2, 4], [1, 3, 4], [2, 3, 4], [0, 1, 2, 3], [0, 1, 2, 4], [0, 1, 3, 4], [0, 2, 3, 4], [1, 2, 3, 4], [0, 1, 2, 3, 4]]
  | _ => []
def allSets (n : Nat) : List (List Int) := [] :: setsOf n
def codeOf (s : List Int) : Nat := s.foldl (fun a x => a + 2 ^ x.toNat) 0
def subs : Nat → Int → List (List Int)
  | 0, _ => [[]]
  | m + 1, k => subs m (k + 1) ++ (subs m (k + 1)).map (k :: ·)
theorem mem_subs : ∀ (m : Nat) (k : Int) (s : List Int), s.Pairwise (· < ·) → (∀ x ∈ s, k ≤ x ∧ x < k + m) → s ∈ subs m k
  | 0, k, [], _, _ => List.mem_singleton.2 rfl
  | 0, k, x :: s, _, h => by have := h x List.mem_cons_self; omega
  | m + 1, k, [], hp, h => List.mem_append.2 (.inl (mem_subs m (k + 1) [] .nil fun x hx => by cases hx))
  | m + 1, k, x :: s, hp, h => by
    obtain ⟨h1, h2⟩ := List.pairwise_cons.1 hp
    have hx := h x List.mem_cons_self
    refine List.mem_append.2 ?_
    by_cases e : x = k
    · refine .inr (List.mem_map.2 ⟨s, mem_subs m (k + 1) s h2 fun y hy => ?_, by rw [e]⟩)
      have := h1 y hy
      have := h y (List.mem_cons_of_mem _ hy)
      omega
    · refine .inl (mem_subs m (k + 1) (x :: s) hp fun y hy => ?_)
      have h3 := h y hy
      rcases List.mem_cons.1 hy with rfl | hy
      · omega
      · have := h1 y hy
        omega
noncomputable def chkSets (n : Nat) : Bool := (Fm_zan (n : Int) == some (setsOf n)) && (Fm_zcw (n : Int) == some (setsOf n)) && Nat.beq (allSets n).length (2 ^ n)
noncomputable def chkSet (n : Nat) (s : List Int) : Bool := (Fm_zaf s == some (codeOf s : Int)) && (Fm_zbt s == some (codeOf s : Int)) && Nat.blt (codeOf s) (2 ^ n) && (Fm_zah (codeOf s : Int) == some s) && risingB s 0 ((n : Int) - 1)
noncomputable def chkHas (n : Nat) (s : List Int) : Bool := (List.range n).all fun x => (Fm_zag (codeOf s : Int) (x : Int) == some (s.contains (x : Int))) && (Fm_zcl s (x : Int) == some (s.contains (x : Int)))
def chkMem (n : Nat) : Bool := ((subs n 0).all fun s => (allSets n).contains s) && (List.range (2 ^ n)).all fun b => (allSets n).any fun s => Nat.beq (codeOf s) b
theorem chkSets_1 : chkSets 1 = true := by kernel_rfl
theorem chkSet_1 : (allSets 1).all (chkSet 1) = true := by kernel_rfl
theorem chkHas_1 : (allSets 1).all (chkHas 1) = true := by kernel_rfl
theorem chkMem_1 : chkMem 1 = true := by kernel_rfl
theorem chkSets_2 : chkSets 2 = true := by kernel_rfl
theorem chkSet_2 : (allSets 2).all (chkSet 2) = true := by kernel_rfl
theorem chkHas_2 : (allSets 2).all (chkHas 2) = true := by kernel_rfl
theorem chkMem_2 : chkMem 2 = true := by kernel_rfl
theorem chkSets_3 : chkSets 3 = true := by kernel_rfl
theorem chkSet_3 : (allSets 3).all (chkSet 3) = true := by kernel_rfl
theorem chkHas_3 : (allSets 3).all (chkHas 3) = true := by kernel_rfl
theorem chkMem_3 : chkMem 3 = true := by kernel_rfl
theorem chkSets_4 : chkSets 4 = true := by kernel_rfl
theorem chkSet_4 : (allSets 4).all (chkSet 4) = true := by kernel_rfl
theorem chkHas_4 : (allSets 4).all (chkHas 4) = true := by kernel_rfl
theorem chkMem_4 : chkMem 4 = true := by kernel_rfl
theorem chkSets_5 : chkSets 5 = true := by kernel_rfl
theorem chkSet_5 : (allSets 5).all (chkSet 5) = true := by kernel_rfl
theorem chkHas_5 : (allSets 5).all (chkHas 5) = true := by kernel_rfl
theorem chkMem_5 : chkMem 5 = true := by kernel_rfl
structure SetsOK (n : Nat) : Prop where
  im : F_zan (n : Int) = some (setsOf n)
  sp : F_zcw (n : Int) = some (setsOf n)
  len : (allSets n).length = 2 ^ n
  bagOf : ∀ s ∈ allSets n, F_zaf s = some (codeOf s : Int)
  code : ∀ s ∈ allSets n, F_zbt s = some (codeOf s : Int)
  lt : ∀ s ∈ allSets n, codeOf s < 2 ^ n
  list : ∀ s ∈ allSets n, F_zah (codeOf s : Int) = some s
  rising : ∀ s ∈ allSets n, risingB s 0 ((n : Int) - 1) = true
  has : ∀ s ∈ allSets n, ∀ x, x < n → F_zag (codeOf s : Int) (x : Int) = some (s.contains (x : Int))
  has' : ∀ s ∈ allSets n, ∀ x, x < n → F_zcl s (x : Int) = some (s.contains (x : Int))
  all : ∀ b, b < 2 ^ n → ∃ s ∈ allSets n, codeOf s = b
  mem : ∀ s, risingB s 0 ((n : Int) - 1) = true → s ∈ allSets n
theorem chk_all : ∀ n : Nat, 1 ≤ n → n ≤ 5 → chkSets n = true ∧ (allSets n).all (chkSet n) = true ∧ (allSets n).all (chkHas n) = true ∧ chkMem n = true
  | 1, _, _ => ⟨chkSets_1, chkSet_1, chkHas_1, chkMem_1⟩
  | 2, _, _ => ⟨chkSets_2, chkSet_2, chkHas_2, chkMem_2⟩
  | 3, _, _ => ⟨chkSets_3, chkSet_3, chkHas_3, chkMem_3⟩
  | 4, _, _ => ⟨chkSets_4, chkSet_4, chkHas_4, chkMem_4⟩
  | 5, _, _ => ⟨chkSets_5, chkSet_5, chkHas_5, chkMem_5⟩
  | 0, h, _ => by omega
  | n + 6, _, h => by omega
theorem setsOK {n : Nat} (h1 : 1 ≤ n) (h2 : n ≤ 5) : SetsOK n := by
  obtain ⟨c1, c2, c3, c4⟩ := chk_all n h1 h2
  simp only [chkSets, Bool.and_eq_true, beq_iff_eq] at c1
  have d2 : ∀ s ∈ allSets n, _ := fun s hs => List.all_eq_true.1 c2 s hs
  have d3 : ∀ s ∈ allSets n, _ := fun s hs => List.all_eq_true.1 c3 s hs
  simp only [chkSet, Bool.and_eq_true, beq_iff_eq] at d2
  simp only [chkHas, List.all_eq_true, List.mem_range, Bool.and_eq_true, beq_iff_eq] at d3
  simp only [chkMem, Bool.and_eq_true, List.all_eq_true, List.any_eq_true, List.mem_range] at c4
  refine ⟨mF_zan _ _ c1.1.1, mF_zcw _ _ c1.1.2, Nat.eq_of_beq_eq_true c1.2, fun s hs => mF_zaf _ _ (d2 s hs).1.1.1.1, fun s hs => mF_zbt _ _ (d2 s hs).1.1.1.2, fun s hs => by have := (d2 s hs).1.1.2; simpa using this,
    fun s hs => mF_zah _ _ (d2 s hs).1.2, fun s hs => (d2 s hs).2, fun s hs x hx => mF_zag _ _ _ (d3 s hs x hx).1, fun s hs x hx => mF_zcl _ _ _ (d3 s hs x hx).2, fun b hb => ?_, fun s hs => ?_⟩
  · obtain ⟨s, h3, h4⟩ := c4.2 b hb
    exact ⟨s, h3, Nat.eq_of_beq_eq_true h4⟩
  · obtain ⟨h3, h4⟩ := risingB_iff.1 hs
    have := c4.1 s (mem_subs n 0 s h4 fun x hx => by have := h3 x hx; omega)
    simpa using this
end Go.Proofs.YtlmbhkmaflhagaaGreat
