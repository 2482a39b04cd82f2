/-
  Regions whose order is drawn: the operations ahead of a forced chain write nothing; whichever comes first, the text's order says what is known in the end.
-/
import Derived.Test.YtafcpibodfbjnaaB17
import Derived.Orders
namespace Go.Proofs.Ytafcpibodfbjnaa
open Go.RowKit (Below)

def edgesOf (o : Oper) : List Nat := (o.after.toList.filter (Region.binds .any)).map (·.on)

/-- Operations 0 .. p-1 write nothing and may come in any order that their edges leave; from p on each waits for the one before. -/
def drawOK (fz : Nat → List Nat) (ops : Array Oper) (p : Nat) : Bool :=
  decide (p ≤ ops.size) &&
  (List.range ops.size).all (fun i => match ops[i]? with
    | some o => (edgesOf o).all fun e => decide (e < i)
    | none => true) &&
  (List.range ops.size).all (fun i => match ops[i]? with
    | some o => !decide (p < i) || (edgesOf o).contains (i - 1)
    | none => true) &&
  (decide (p = ops.size) || (List.range p).all fun i => (List.range (p + 1)).any fun j => decide (i < j) && match ops[j]? with
    | some o => (edgesOf o).contains i
    | none => false) &&
  (List.range p).all (fun i => match ops[i]? with
    | some o => !writes o && o.dst.isSome && (fz i).isEmpty && (List.range p).all fun j => match ops[j]? with
      | some o' => (Nat.beq i j || o.dst != o'.dst) && (match o'.dst with
        | some d => !(o.looksAt ops).contains d || Nat.beq i j || (edgesOf o).contains j || (edgesOf o').contains i
        | none => true)
      | none => false
    | none => false)

structure DrawOK (fz : Nat → List Nat) (ops : Array Oper) (p : Nat) : Prop where
  le : p ≤ ops.size
  back : ∀ i o, ops[i]? = some o → ∀ e ∈ edgesOf o, e < i
  chain : ∀ i o, ops[i]? = some o → p < i → i - 1 ∈ edgesOf o
  sink : p < ops.size → ∀ i, i < p → ∃ j o, i < j ∧ j ≤ p ∧ ops[j]? = some o ∧ i ∈ edgesOf o
  quiet : ∀ i o, i < p → ops[i]? = some o → writes o = false ∧ (∃ d, o.dst = some d) ∧ fz i = []
  apart : ∀ i j o o', i < p → j < p → ops[i]? = some o → ops[j]? = some o' → i ≠ j → o.dst ≠ o'.dst
  order : ∀ i j o o' d, i < p → j < p → ops[i]? = some o → ops[j]? = some o' → o'.dst = some d → d ∈ o.looksAt ops → i = j ∨ j ∈ edgesOf o ∨ i ∈ edgesOf o'

theorem drawOK_spec {fz : Nat → List Nat} {ops : Array Oper} {p : Nat} (h : drawOK fz ops p = true) : DrawOK fz ops p := by
  unfold drawOK at h
  simp only [Bool.and_eq_true, decide_eq_true_eq] at h
  obtain ⟨⟨⟨⟨h1, h2⟩, h3⟩, h4⟩, h5⟩ := h
  simp only [List.all_eq_true, List.mem_range] at h2 h3 h5
  have lt_of : ∀ {i : Nat} {o : Oper}, ops[i]? = some o → i < ops.size := fun {i o} hi => by
    rcases Nat.lt_or_ge i ops.size with h | h
    · exact h
    · rw [Array.getElem?_eq_none h] at hi; cases hi
  have main : ∀ i o, i < p → ops[i]? = some o → (writes o = false ∧ (∃ d, o.dst = some d) ∧ fz i = []) ∧ ∀ j o', j < p → ops[j]? = some o' → (i = j ∨ o.dst ≠ o'.dst) ∧ ∀ d, o'.dst = some d → d ∈ o.looksAt ops → i = j ∨ j ∈ edgesOf o ∨ i ∈ edgesOf o' := by
    intro i o hi ho
    have := h5 i hi
    rw [ho] at this
    simp only [Bool.and_eq_true, Bool.not_eq_true', List.all_eq_true, List.mem_range] at this
    obtain ⟨⟨⟨k1, k2⟩, k3⟩, k4⟩ := this
    refine ⟨⟨k1, Option.isSome_iff_exists.1 k2, by simpa using k3⟩, fun j o' hj ho' => ?_⟩
    have := k4 j hj
    rw [ho'] at this
    simp only [Bool.and_eq_true, Bool.or_eq_true, Nat.beq_eq] at this
    refine ⟨this.1.imp id (by simp), fun d hd hl => ?_⟩
    have h6 := this.2
    rw [hd] at h6
    simp only [Bool.or_eq_true, Nat.beq_eq, Bool.not_eq_true', List.contains_iff_mem] at h6
    rcases h6 with ((h6 | h6) | h6) | h6
    · have hc : (o.looksAt ops).contains d = true := List.contains_iff_mem.2 hl
      rw [hc] at h6
      cases h6
    · exact .inl h6
    · exact .inr (.inl h6)
    · exact .inr (.inr h6)
  refine ⟨h1, fun i o hi e he => ?_, fun i o hi hp => ?_, fun hp i hi => ?_, fun i o hi ho => (main i o hi ho).1, fun i j o o' hi hj ho ho' hne => ?_, fun i j o o' d hi hj ho ho' hd hl => ?_⟩
  · have := h2 i (lt_of hi)
    rw [hi] at this
    simp only [List.all_eq_true, decide_eq_true_eq] at this
    exact this e he
  · have := h3 i (lt_of hi)
    rw [hi] at this
    simp only [Bool.or_eq_true, Bool.not_eq_true', decide_eq_false_iff_not, List.contains_iff_mem] at this
    exact this.resolve_left fun h => h hp
  · simp only [Bool.or_eq_true, decide_eq_true_eq, List.all_eq_true, List.mem_range, List.any_eq_true, Bool.and_eq_true] at h4
    rcases h4 with h4 | h4
    · omega
    · obtain ⟨j, hj, hij, hm⟩ := h4 i hi
      split at hm
      next o ho => exact ⟨j, o, hij, by omega, ho, by simpa [List.contains_iff_mem] using hm⟩
      next => cases hm
  · exact ((main i o hi ho).2 j o' hj ho').1.resolve_left hne
  · exact ((main i o hi ho).2 j o' hj ho').2 d hd hl
end Go.Proofs.Ytafcpibodfbjnaa
