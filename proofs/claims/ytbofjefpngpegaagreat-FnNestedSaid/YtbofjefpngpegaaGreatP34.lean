/-
  Plain laws: pairs with the greatest distance, and farthest places.
-/
import Derived.Test.YtbofjefpngpegaaGreatP33
import Derived.Test.YtbofjefpngpegaaGreatP8
namespace Go.Proofs.YtbofjefpngpegaaGreat
theorem wwb : ∀ (n : Nat) (l : List Int), (∀ a, a < n → (a : Int) ∈ l) → n ≤ l.length
  | 0, _, _ => Nat.zero_le _
  | n + 1, l, h => by
    have h1 := h n (Nat.lt_succ_self n)
    have h2 := wwb n (l.erase (n : Int)) fun a ha => (List.mem_erase_of_ne (by omega)).2 (h a (by omega))
    have h3 := List.length_erase_of_mem h1
    have h4 : 0 < l.length := List.length_pos_of_mem h1
    omega
structure FarL (m : List (List Int)) (k : Nat) (out : List Int) : Prop where
  len : out.length = k
  mem : ∀ x ∈ out, 0 ≤ x ∧ x < (m.length : Int)
end Go.Proofs.YtbofjefpngpegaaGreat
