/-
  Plain laws: the hubs of a list as a number's bits; all lists that begin with some hubs.
-/
import Derived.Test.YtlemejhffpkbkaaEM2
import Derived.Test.YtlemejhffpkbkaaP5
import Derived.Test.YtlemejhffpkbkaaP28
namespace Go.Proofs.Ytlemejhffpkbkaa
def lst5 (x : Nat) : List Int := ((List.range 5).filter x.testBit).map fun (a : Nat) => (a : Int)
noncomputable def chkH (x : Nat) : Bool := (Fm_im_bag_size (x : Int) == some (((lst5 x).length : Nat) : Int)) && (List.range 5).all fun (a : Nat) =>
  (Fm_sp_l1Put (lst5 x) (a : Int) == some (lst5 (x ||| 2 ^ a))) &&
  (IntKind.wrap .u64 (BitVec.toNat ((BitVec.ofInt (IntKind.bits .u64) (x : Int)) ||| (BitVec.ofInt (IntKind.bits .u64) (IntKind.wrap .u64 ((1 : Int) * 2 ^ (min a (IntKind.bits .u64))))))) == ((x ||| 2 ^ a : Nat) : Int)) && Nat.blt (x ||| 2 ^ a) 32
theorem chkH_ok : (List.range 32).all chkH = true := by kernel_rfl
theorem chkH_at {x : Nat} (hx : x < 32) : F_im_bag_size (x : Int) = some (((lst5 x).length : Nat) : Int) ∧ ∀ a : Nat, a < 5 → F_sp_l1Put (lst5 x) (a : Int) = some (lst5 (x ||| 2 ^ a)) ∧
    IntKind.wrap .u64 (BitVec.toNat ((BitVec.ofInt (IntKind.bits .u64) (x : Int)) ||| (BitVec.ofInt (IntKind.bits .u64) (IntKind.wrap .u64 ((1 : Int) * 2 ^ (min a (IntKind.bits .u64))))))) = ((x ||| 2 ^ a : Nat) : Int) ∧ x ||| 2 ^ a < 32 := by
  have h := List.all_eq_true.1 chkH_ok x (List.mem_range.2 hx)
  simp only [chkH, Bool.and_eq_true, List.all_eq_true, List.mem_range, beq_iff_eq] at h
  obtain ⟨h1, h2⟩ := h
  refine ⟨mF_im_bag_size _ _ h1, fun a ha => ?_⟩
  obtain ⟨⟨k1, k2⟩, k3⟩ := h2 a ha
  exact ⟨mF_sp_l1Put _ _ _ k1, k2, by simpa using k3⟩
def bits (h : List Int) : Nat := h.foldl (fun x a => x ||| 2 ^ a.toNat) 0
theorem lst5_len (x : Nat) : (lst5 x).length ≤ 5 := by
  have := List.length_filter_le x.testBit (List.range 5)
  simp only [lst5, List.length_map, List.length_range] at this ⊢
  exact this
theorem bits_lt {h : List Int} (hh : ∀ a ∈ h, 0 ≤ a ∧ a < 5) : bits h < 32 := by
  have key : ∀ (l : List Int) (x : Nat), (∀ a ∈ l, 0 ≤ a ∧ a < 5) → x < 32 → l.foldl (fun x a => x ||| 2 ^ a.toNat) x < 32 := by
    intro l
    induction l with
    | nil => intro x _ h; exact h
    | cons a l ih =>
      intro x hl hx
      have ha := hl a List.mem_cons_self
      exact ih _ (fun b hb => hl b (List.mem_cons_of_mem _ hb)) ((chkH_at hx).2 a.toNat (by omega)).2.2
  exact key h 0 hh (by omega)
theorem bagOf_bits {h : List Int} (hl : h.length ≤ 5) (hh : ∀ a ∈ h, 0 ≤ a ∧ a < 5) : F_im_bagOf h = some (bits h : Int) := by
  have key := (iter_foldl (f := fun v => (S_im_bagOf_0 (h, ((h.length : Nat) : Int)) v).ev) h 0 (mk := fun i (x : Nat) => ((x : Int), (i : Int))) (I := fun _ x => x < 32) (g := fun x a => x ||| 2 ^ a.toNat) (fin := fun x => (x : Int)) (s0 := 0) (by omega)
    (fun i x hi hx => by
      have ha := hh _ (getD_mem (d := 0) hi)
      obtain ⟨a, e⟩ : ∃ a : Nat, h.getD i 0 = (a : Int) := ⟨(h.getD i 0).toNat, by omega⟩
      obtain ⟨_, k2, k3⟩ := (chkH_at hx).2 a (by omega)
      rw [e, Int.toNat_natCast]
      refine ⟨?_, k3⟩
      have i1 : inR (i : Int) h.length = true := inR_int (by omega) (by omega)
      have i2 : (0 : Int) ≤ (a : Int) := by omega
      have i3 : (i : Int) < ((h.length : Nat) : Int) := by omega
      simp only [S_im_bagOf_0, Tr.ev_t, Tr.ev_g, Tr.ev_l, i1, Int.toNat_natCast, e, i2, i3, decide_true, cond_true]
      rw [k2, wrap64 (by omega) (by omega)]
      rfl)
    (fun x _ => by simp (disch := omega) only [EV, S_im_bagOf_0, Nat.lt_irrefl])).1
  have k2 : L_im_bagOf_0 (h, ((h.length : Nat) : Int)) (0, 0) = some (bits h : Int) := key
  unfold F_im_bagOf T_im_bagOf
  simp (disch := omega) only [EV, k2]
def exts : Nat → Nat → List Int → List (List Int)
  | 0, _, h => [h]
  | d + 1, n, h => (List.range n).flatMap fun (a : Nat) => exts d n (h ++ [(a : Int)])
def okH (n : Nat) (k : Int) (h : List Int) : Bool := allocB n h && decide ((((lst5 (bits h)).length : Nat) : Int) ≤ k)
theorem exts_len (n : Nat) : ∀ (d : Nat) (h : List Int), (exts d n h).length = n ^ d
  | 0, h => rfl
  | d + 1, h => by
    have key : ∀ m : Nat, ((List.range m).flatMap fun (a : Nat) => exts d n (h ++ [(a : Int)])).length = m * n ^ d := by
      intro m
      induction m with
      | zero => simp
      | succ m ih => rw [List.range_succ, List.flatMap_append, List.length_append, ih, List.flatMap_singleton, exts_len n d, Nat.succ_mul]
    show ((List.range n).flatMap _).length = n ^ (d + 1)
    rw [key, Nat.pow_succ, Nat.mul_comm]
theorem exts_mem (n : Nat) : ∀ (d : Nat) (h : List Int), (∀ a ∈ h, 0 ≤ a ∧ a < (n : Int)) → ∀ s ∈ exts d n h, s.length = h.length + d ∧ ∀ a ∈ s, 0 ≤ a ∧ a < (n : Int)
  | 0, h, hh, s, hs => by
    have : s = h := by simpa [exts] using hs
    subst this
    exact ⟨by omega, hh⟩
  | d + 1, h, hh, s, hs => by
    obtain ⟨a, ha, hs⟩ := List.mem_flatMap.1 hs
    have ha := List.mem_range.1 ha
    obtain ⟨h1, h2⟩ := exts_mem n d (h ++ [(a : Int)]) (fun b hb => by
      rcases List.mem_append.1 hb with hb | hb
      · exact hh b hb
      · rw [List.mem_singleton.1 hb]; omega) s hs
    exact ⟨by rw [h1]; simp; omega, h2⟩
theorem exts_all {n : Nat} : ∀ (s : List Int) (h : List Int), (∀ a ∈ s, 0 ≤ a ∧ a < (n : Int)) → h ++ s ∈ exts s.length n h
  | [], h, _ => by simp [exts]
  | a :: s, h, hs => by
    have ha := hs a List.mem_cons_self
    have := exts_all s (h ++ [a]) fun b hb => hs b (List.mem_cons_of_mem _ hb)
    refine List.mem_flatMap.2 ⟨a.toNat, List.mem_range.2 (by omega), ?_⟩
    rw [Int.toNat_of_nonneg ha.1]
    simpa using this
def chkE (n : Nat) : Bool := (exts n n []).any (okH n 1)
theorem chkE_all : ∀ n : Nat, n ≤ 5 → chkE n = true
  | 0, _ => by kernel_rfl
  | 1, _ => by kernel_rfl
  | 2, _ => by kernel_rfl
  | 3, _ => by kernel_rfl
  | 4, _ => by kernel_rfl
  | 5, _ => by kernel_rfl
  | n + 6, h => by omega
def allH (n : Nat) (k : Int) : List (List Int) := (exts n n []).filter (okH n k)
theorem allH_ne {n : Nat} (hn : n ≤ 5) {k : Int} (hk : 1 ≤ k) : allH n k ≠ [] := by
  obtain ⟨s, hs, e⟩ := List.any_eq_true.1 (chkE_all n hn)
  intro h
  have h2 : s ∈ allH n k := List.mem_filter.2 ⟨hs, by
    simp only [okH, Bool.and_eq_true, decide_eq_true_eq] at e ⊢
    exact ⟨e.1, by omega⟩⟩
  rw [h] at h2
  cases h2
theorem pow_le5 : ∀ n : Nat, n ≤ 5 → n ^ n ≤ 3125
  | 0, _ => by decide
  | 1, _ => by decide
  | 2, _ => by decide
  | 3, _ => by decide
  | 4, _ => by decide
  | 5, _ => by decide
  | n + 6, h => by omega
theorem pow_le5' {n d : Nat} (hn : n ≤ 5) (hd : d ≤ 5) : n ^ d ≤ 3125 :=
  Nat.le_trans (Nat.pow_le_pow_left hn d) (Nat.le_trans (Nat.pow_le_pow_right (by omega) hd) (by decide))
theorem permL_range {α : Type} (l : List (List α)) : permL (List.range l.length) l = l := by
  unfold permL
  apply List.ext_getElem
  · simp
  · intro i h1 h2
    simp [h2]
end Go.Proofs.Ytlemejhffpkbkaa
