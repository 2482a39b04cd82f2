/-
  Plain laws: sets of sites as numbers: the small functions on them computed by the kernel.
-/
import Derived.Test.YtlmbhkmaflhagaaEM2
import Derived.Test.YtlmbhkmaflhagaaP8
import Derived.Test.YtlmbhkmaflhagaaPC
namespace Go.Proofs.Ytlmbhkmaflhagaa
def lst (x : Nat) : List Int := ((List.range 7).filter x.testBit).map fun (a : Nat) => (a : Int)
noncomputable def chkB (x : Nat) : Bool := (Fm_zx (x : Int) == some (lst x)) && risingB (lst x) 0 6 && (Nat.beq x 0 || Nat.blt 0 (lst x).length) && (List.range 7).all fun (a : Nat) =>
  (Fm_zw (x : Int) (a : Int) == some (x.testBit a)) && (Fm_zbu (lst x) (a : Int) == some (x.testBit a)) && (x.testBit a || (Fm_zbz (lst x) (a : Int) == some (lst (x ||| 2 ^ a)))) &&
  (IntKind.wrap .u64 (BitVec.toNat ((BitVec.ofInt (IntKind.bits .u64) (x : Int)) ||| (BitVec.ofInt (IntKind.bits .u64) (IntKind.wrap .u64 ((1 : Int) * 2 ^ (min a (IntKind.bits .u64))))))) == ((x ||| 2 ^ a : Nat) : Int))
theorem chkB_ok : (List.range 128).all chkB = true := by kernel_rfl
theorem chkB_at {x : Nat} (hx : x < 128) : (F_zx (x : Int) = some (lst x) ∧ risingB (lst x) 0 6 = true ∧ (0 < x → 0 < (lst x).length)) ∧ ∀ a : Nat, a < 7 →
    F_zw (x : Int) (a : Int) = some (x.testBit a) ∧ F_zbu (lst x) (a : Int) = some (x.testBit a) ∧ (x.testBit a = false → F_zbz (lst x) (a : Int) = some (lst (x ||| 2 ^ a))) ∧
    IntKind.wrap .u64 (BitVec.toNat ((BitVec.ofInt (IntKind.bits .u64) (x : Int)) ||| (BitVec.ofInt (IntKind.bits .u64) (IntKind.wrap .u64 ((1 : Int) * 2 ^ (min a (IntKind.bits .u64))))))) = ((x ||| 2 ^ a : Nat) : Int) := by
  have h := List.all_eq_true.1 chkB_ok x (List.mem_range.2 hx)
  simp only [chkB, Bool.and_eq_true, List.all_eq_true, List.mem_range, beq_iff_eq, Bool.or_eq_true] at h
  obtain ⟨⟨⟨h1, h2⟩, h3⟩, h4⟩ := h
  refine ⟨⟨mF_zx _ _ h1, h2, fun h0 => ?_⟩, fun a ha => ?_⟩
  · rcases h3 with h3 | h3
    · have := Nat.eq_of_beq_eq_true h3; omega
    · simpa using h3
  · obtain ⟨⟨⟨k1, k2⟩, k3⟩, k4⟩ := h4 a ha
    refine ⟨mF_zw _ _ _ k1, mF_zbu _ _ _ k2, fun hf => ?_, k4⟩
    rcases k3 with k3 | k3
    · rw [hf] at k3; cases k3
    · exact mF_zbz _ _ _ k3
theorem one_eq : ∀ a : Nat, a < 7 → IntKind.wrap .u64 ((1 : Int) * 2 ^ (min a (IntKind.bits .u64))) = ((2 ^ a : Nat) : Int)
  | 0, _ => by decide
  | 1, _ => by decide
  | 2, _ => by decide
  | 3, _ => by decide
  | 4, _ => by decide
  | 5, _ => by decide
  | 6, _ => by decide
  | n + 7, h => by omega
noncomputable def chkI (n : Nat) : Bool := match Fm_zad (n : Int) with
  | some L => Nat.ble L.length 128 && L.all (fun s => risingB s 0 ((n : Int) - 1) && Nat.blt 0 s.length && Nat.ble s.length 7) && (List.range (2 ^ n)).all (fun x => Nat.beq x 0 || L.contains (lst x))
  | none => false
theorem chkI_1 : chkI 1 = true := by kernel_rfl
theorem chkI_2 : chkI 2 = true := by kernel_rfl
theorem chkI_3 : chkI 3 = true := by kernel_rfl
theorem chkI_4 : chkI 4 = true := by kernel_rfl
theorem chkI_5 : chkI 5 = true := by kernel_rfl
theorem chkI_6 : chkI 6 = true := by kernel_rfl
theorem chkI_7 : chkI 7 = true := by kernel_rfl
theorem chkI_all : ∀ n : Nat, 1 ≤ n → n ≤ 7 → chkI n = true
  | 1, _, _ => chkI_1
  | 2, _, _ => chkI_2
  | 3, _, _ => chkI_3
  | 4, _, _ => chkI_4
  | 5, _, _ => chkI_5
  | 6, _, _ => chkI_6
  | 7, _, _ => chkI_7
  | 0, h, _ => by omega
  | n + 8, _, h => by omega
theorem sets_ok {n : Nat} (h1 : 1 ≤ n) (h2 : n ≤ 7) : ∃ L, F_zad (n : Int) = some L ∧ L.length ≤ 128 ∧ (∀ s ∈ L, risingB s 0 ((n : Int) - 1) = true ∧ 0 < s.length ∧ s.length ≤ 7) ∧ ∀ x, 0 < x → x < 2 ^ n → lst x ∈ L := by
  have c1 := chkI_all n h1 h2
  unfold chkI at c1
  split at c1
  next L hL =>
    simp only [Bool.and_eq_true, List.all_eq_true, List.mem_range, Bool.or_eq_true] at c1
    obtain ⟨⟨k1, k2⟩, k3⟩ := c1
    refine ⟨L, mF_zad _ _ hL, by simpa using k1, fun s hs => ⟨(k2 s hs).1.1, by simpa using (k2 s hs).1.2, by simpa using (k2 s hs).2⟩, fun x h0 hx => ?_⟩
    rcases k3 x hx with k | k
    · have := Nat.eq_of_beq_eq_true k; omega
    · simpa using k
  next => cases c1
end Go.Proofs.Ytlmbhkmaflhagaa
