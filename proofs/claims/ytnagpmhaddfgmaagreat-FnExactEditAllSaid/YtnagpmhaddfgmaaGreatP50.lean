/-
 Plain laws: sets of sites as numbers: the program's small functions on them computed by the kernel.
-/
import Derived.Test.YtnagpmhaddfgmaaGreatC1
import Derived.Test.YtnagpmhaddfgmaaGreatP47
namespace Go.Proofs.YtnagpmhaddfgmaaGreat
def esubs : Nat → List (List Int)
 | 0 => [[]]
 | n + 1 => esubs n ++ (esubs n).map fun s => s ++ [(n : Int)]
theorem esubs_mem : ∀ (n : Nat) {s : List Int}, s.Pairwise (· < ·) → (∀ x ∈ s, 0 ≤ x ∧ x < (n : Int)) → s ∈ esubs n
 | 0, s, _, h => by
  cases s with
  | nil => exact List.mem_singleton.2 rfl
  | cons x s => have := h x (by simp); omega
 | n + 1, s, hp, h => by
  rw [esubs, List.mem_append]
  rcases List.eq_nil_or_concat s with rfl | ⟨i, z, rfl⟩
  ·exact .inl (esubs_mem n hp fun x hx => by cases hx)
  ·rw [List.concat_eq_append] at hp h ⊢
   obtain ⟨p1, _, p3⟩ := List.pairwise_append.1 hp
   have hz := h z (by simp)
   by_cases e : z = (n : Int)
   ·refine .inr (List.mem_map.2 ⟨i, esubs_mem n p1 fun x hx => ?_, by rw [e]⟩)
    have h1 := h x (List.mem_append_left _ hx)
    have h2 := p3 x hx z (by simp)
    omega
   ·refine .inl (esubs_mem n hp fun x hx => ?_)
    have h1 := h x hx
    rcases List.mem_append.1 hx with hx | hx
    ·have h2 := p3 x hx z (by simp)
     omega
    ·rw [List.mem_singleton.1 hx] at h1 ⊢
     omega
def bits (h : List Int) : Nat := h.foldl (fun x a => x ||| 2 ^ a.toNat) 0
def lst (x : Nat) : List Int := ((List.range 7).filter x.testBit).map fun (a : Nat) => (a : Int)
def orB (x : Int) (a : Nat) : Int := IntKind.wrap .u64 (BitVec.toNat ((BitVec.ofInt (IntKind.bits .u64) x) ||| (BitVec.ofInt (IntKind.bits .u64) (IntKind.wrap .u64 ((1 : Int) * 2 ^ (min a (IntKind.bits .u64)))))))
def anB (x : Int) (a : Nat) : Int := IntKind.wrap .u64 (BitVec.toNat ((BitVec.ofInt (IntKind.bits .u64) x) &&& ~~~(BitVec.ofInt (IntKind.bits .u64) (IntKind.wrap .u64 ((1 : Int) * 2 ^ (min a (IntKind.bits .u64)))))))
def clr (x a : Nat) : Nat := if x.testBit a then x - 2 ^ a else x
noncomputable def chkB (x : Nat) : Bool := (wbn (x : Int) == some (lst x)) && (List.range 7).all fun (a : Nat) =>
 (wap (x : Int) (a : Int) == some (x.testBit a)) && ((lst x).contains (a : Int) == x.testBit a) && (orB (x : Int) a == ((x ||| 2 ^ a : Nat) : Int)) && Nat.blt (x ||| 2 ^ a) 128 && (anB (x : Int) a == ((clr x a : Nat) : Int)) && Nat.blt (clr x a) 128 &&
 (x.testBit a || (lst (x ||| 2 ^ a) == ins (a : Int) (lst x))) && (lst (clr x a) == wo (lst x) (a : Int))
theorem chkB_ok : (List.range 128).all chkB = true := by kernel_rfl
def chkL (s : List Int) : Bool := (lst (bits s) == s) && Nat.blt (bits s) 128
theorem chkL_ok : (esubs 7).all chkL = true := by kernel_rfl
structure BagP (x : Nat) : Prop where
 list : wbn (x : Int) = some (lst x)
 has : ∀ a : Nat, a < 7 → wap (x : Int) (a : Int) = some ((lst x).contains (a : Int))
 put : ∀ a : Nat, a < 7 → (a : Int) ∉ lst x → ∃ y : Nat, y < 128 ∧ orB (x : Int) a = (y : Int) ∧ lst y = ins (a : Int) (lst x)
 cut : ∀ a : Nat, a < 7 → ∃ y : Nat, y < 128 ∧ anB (x : Int) a = (y : Int) ∧ lst y = wo (lst x) (a : Int)
theorem bagP {x : Nat} (hx : x < 128) : BagP x := by
 have h := List.all_eq_true.1 chkB_ok x (List.mem_range.2 hx)
 simp only [chkB, Bool.and_eq_true, List.all_eq_true, List.mem_range, beq_iff_eq, Bool.or_eq_true] at h
 obtain ⟨h1, h2⟩ := h
 refine ⟨h1, fun a ha => ?_, fun a ha hn => ?_, fun a ha => ?_⟩
 ·obtain ⟨⟨⟨⟨⟨⟨⟨k1, k2⟩, k3⟩, k4⟩, k5⟩, k6⟩, k7⟩, k8⟩ := h2 a ha
  rw [k2]
  exact k1
 ·obtain ⟨⟨⟨⟨⟨⟨⟨k1, k2⟩, k3⟩, k4⟩, k5⟩, k6⟩, k7⟩, k8⟩ := h2 a ha
  refine ⟨x ||| 2 ^ a, by simpa using k4, k3, ?_⟩
  rcases k7 with k7 | k7
  ·rw [k7] at k2
   exact absurd (List.contains_iff_mem.1 k2) hn
  ·exact k7
 ·obtain ⟨⟨⟨⟨⟨⟨⟨k1, k2⟩, k3⟩, k4⟩, k5⟩, k6⟩, k7⟩, k8⟩ := h2 a ha
  exact ⟨clr x a, by simpa using k6, k5, k8⟩
theorem lst_bits {n : Nat} (hn : n ≤ 7) {s : List Int} (h : ris n s) : lst (bits s) = s ∧ bits s < 128 := by
 have hm := esubs_mem 7 h.2 fun x hx => by have := h.1 x hx; omega
 have hk := List.all_eq_true.1 chkL_ok s hm
 simp only [chkL, Bool.and_eq_true, beq_iff_eq] at hk
 exact ⟨hk.1, by simpa using hk.2⟩
theorem or_lt : ∀ (x a : Nat), x < 128 → a < 7 → x ||| 2 ^ a < 128 := fun x a hx ha => Nat.or_lt_two_pow (n := 7) hx (Nat.pow_lt_pow_right (by omega) ha)
theorem orB_eq {x a : Nat} (hx : x < 128) (ha : a < 7) : orB (x : Int) a = ((x ||| 2 ^ a : Nat) : Int) := by
 have h := List.all_eq_true.1 chkB_ok x (List.mem_range.2 hx)
 simp only [chkB, Bool.and_eq_true, List.all_eq_true, List.mem_range, beq_iff_eq, Bool.or_eq_true] at h
 exact (h.2 a ha).1.1.1.1.1.2
theorem bagOf_eq {n : Nat} (hn : n ≤ 7) {s : List Int} (h : ris n s) : F_zz s = some (bits s : Int) := by
 have hl := h.len
 have key := (iter_foldl (f := fun v => (wck (s, ((s.length : Nat) : Int)) v).ev) s 0 (mk := fun i (x : Nat) => ((x : Int), (i : Int))) (I := fun _ x => x < 128) (g := fun x a => x ||| 2 ^ a.toNat) (fin := fun x => (x : Int)) (s0 := 0) (by omega)
  (fun i x hi hx => by
   have ha := h.1 _ (getD_mem (d := 0) hi)
   obtain ⟨a, e⟩ : ∃ a : Nat, s.getD i 0 = (a : Int) := ⟨(s.getD i 0).toNat, by omega⟩
   have k2 := orB_eq hx (show a < 7 by omega)
   unfold orB at k2
   rw [e, Int.toNat_natCast]
   refine ⟨?_, or_lt x a hx (by omega)⟩
   have i1 : inR (i : Int) s.length = true := inR_int (by omega) (by omega)
   have i2 : (0 : Int) ≤ (a : Int) := by omega
   have i3 : (i : Int) < ((s.length : Nat) : Int) := by omega
   simp only [wck, Tr.ev_t, Tr.ev_g, Tr.ev_l, i1, Int.toNat_natCast, e, i2, i3, decide_true, cond_true]
   rw [k2, wrap64 (by omega) (by omega)]
   rfl)
  (fun x _ => by simp (disch := omega) only [EV, wck, Nat.lt_irrefl])).1
 have k2 : wmr (s, ((s.length : Nat) : Int)) (0, 0) = some (bits s : Int) := key
 unfold F_zz T_zz
 simp (disch := omega) only [EV, k2]
theorem bagHas_eq {n : Nat} (hn : n ≤ 7) {s : List Int} (h : ris n s) {a : Int} (h0 : 0 ≤ a) (ha : a < 7) : wap (bits s : Int) a = some (s.contains a) := by
 obtain ⟨e, hb⟩ := lst_bits hn h
 obtain ⟨a, rfl⟩ : ∃ b : Nat, a = (b : Int) := ⟨a.toNat, by omega⟩
 have := (bagP hb).has a (by omega)
 rwa [e] at this
theorem bagPut_eq {n : Nat} (hn : n ≤ 7) {s : List Int} (h : ris n s) {a : Int} (h0 : 0 ≤ a) (ha : a < 7) (hx : a ∉ s) : wbn (orB (bits s : Int) a.toNat) = some (ins a s) := by
 obtain ⟨e, hb⟩ := lst_bits hn h
 obtain ⟨a, rfl⟩ : ∃ b : Nat, a = (b : Int) := ⟨a.toNat, by omega⟩
 obtain ⟨y, y1, y2, y3⟩ := (bagP hb).put a (by omega) (by rw [e]; exact hx)
 rw [Int.toNat_natCast, y2, (bagP y1).list, y3, e]
theorem bagCut_eq {n : Nat} (hn : n ≤ 7) {s : List Int} (h : ris n s) {a : Int} (h0 : 0 ≤ a) (ha : a < 7) : wbn (anB (bits s : Int) a.toNat) = some (wo s a) := by
 obtain ⟨e, hb⟩ := lst_bits hn h
 obtain ⟨a, rfl⟩ : ∃ b : Nat, a = (b : Int) := ⟨a.toNat, by omega⟩
 obtain ⟨y, y1, y2, y3⟩ := (bagP hb).cut a (by omega)
 rw [Int.toNat_natCast, y2, (bagP y1).list, y3, e]
theorem swapped_eq {n : Nat} (hn : n ≤ 7) {s : List Int} (h : ris n s) {a b : Int} (h0 : 0 ≤ a) (ha : a < 7) (h1 : 0 ≤ b) (hb : b < 7) (hx : b ∉ s) : whx s a b = some (ins b (wo s a)) := by
 obtain ⟨e, hbs⟩ := lst_bits hn h
 have e0 := bagOf_eq hn h
 obtain ⟨y, y1, y2, y3⟩ := (bagP hbs).cut a.toNat (by omega)
 rw [e, show ((a.toNat : Nat) : Int) = a by omega] at y3
 obtain ⟨z, z1, z2, z3⟩ := (bagP y1).put b.toNat (by omega) (by rw [y3, show ((b.toNat : Nat) : Int) = b by omega]; exact wo_notin hx)
 rw [y3, show ((b.toNat : Nat) : Int) = b by omega] at z3
 have e1 := (bagP z1).list
 rw [z3, ← z2, ← y2] at e1
 unfold orB anB at e1
 unfold whx wuu
 rw [Tr.ev_c, e0, Option.bind_some, Tr.ev_g, decide_eq_true h0, cond_true, Tr.ev_g, decide_eq_true h1, cond_true, Tr.ev_c, e1, Option.bind_some, Tr.ev_l]
end Go.Proofs.YtnagpmhaddfgmaaGreat
