/-
 Plain laws: all sets of n sites, as both sides list them: computed by the kernel for each n.
-/
import Derived.Test.YtnagpmhaddfgmaaC1
import Derived.Test.YtnagpmhaddfgmaaP8
namespace Go.Proofs.Ytnagpmhaddfgmaa
def wbe : Nat → List (List Int)
 | 1 => [[0]]
 | 2 => [[0], [1], [0, 1]]
 | 3 => [[0], [1], [2], [0, 1], [0, 2], [1, 2], [0, 1, 2]]
 | 4 => [[0], [1], [2], [3], [0, 1], [0, 2], [0, 3], [1, 2], [1, 3], [2, 3], [0, 1, 2], [0, 1, 3], [0, 2, 3], [1, 2, 3], [0, 1, 2, 3]]
 | 5 => [[0], [1], [2], [3], [4], [0, 1], [0, 2], [0, 3], [0, 4], [1, 2], [1, 3], [1, 4], [2, 3], [2, 4], [3, 4], [0, 1, 2], [0, 1, 3], [0, 1, 4], [0, 2, 3], [0, 2, 4], [0, 3, 4], [1, 2, 3], [1, 2, 4], [1, 3, 4], [2, 3, 4], [0, 1, 2, 3], [0, 1, 2, 4], [0, 1, 3, 4], [0, 2, 3, 4], [1, 2, 3, 4], [0, 1, 2, 3, 4]]
 | 6 => [[0], [1], [2], [3], [4], [5], [0, 1], [0, 2], [0, 3], [0, 4], [0, 5], [1, 2], [1, 3], [1, 4], [1, 5], [2, 3], [2, 4], [2, 5], [3, 4], [3, 5], [4, 5], [0, 1, 2], [0, 1, 3], [0, 1, 4], [0, 1, 5], [0, 2, 3], [0, 2, 4], [0, 2, 5], [0, 3, 4], [0, 3, 5], [0, 4, 5], [1, 2, 3], [1, 2, 4], [1, 2, 5], [1, 3, 4], [1, 3, 5], [1, 4, 5], [2, 3, 4], [2, 3, 5], [2, 4, 5], [3, 4, 5], [0, 1, 2, 3], [0, 1, 2, 4], [0, 1, 2, 5], [0, 1, 3, 4], [0, 1, 3, 5], [0, 1, 4, 5], [0, 2, 3, 4], [0, 2, 3, 5], [0, 2, 4, 5], [0, 3, 4, 5], [1, 2, 3, 4], [1, 2, 3, 5], [1, 2, 4, 5], [1, 3, 4, 5], [2, 3, 4, 5], [0, 1, 2, 3, 4], [0, 1, 2, 3, 5], [0, 1, 2, 4, 5], [0, 1, 3, 4, 5], [0, 2, 3, 4, 5], [1, 2, 3, 4, 5], [0, 1, 2, 3, 4, 5]]
 | 7 => [[0], [1], [2], [3], [4], [5], [6], [0, 1], [0, 2], [0, 3], [0, 4], [0, 5], [0, 6], [1, 2], [1, 3], [1, 4], [1, 5], [1, 6], [2, 3], [2, 4], [2, 5], [2, 6], [3, 4], [3, 5], [3, 6], [4, 5], [4, 6], [5, 6], [0, 1, 2], [0, 1, 3], [0, 1, 4], [0, 1, 5], [0, 1, 6], [0, 2, 3], [0, 2, 4], [0, 2, 5], [0, 2, 6], [0, 3, 4], [0, 3, 5], [0, 3, 6], [0, 4, 5], [0, 4, 6], [0, 5, 6], [1, 2, 3], [1, 2, 4], [1, 2, 5], [1, 2, 6], [1, 3, 4], [1, 3, 5], [1, 3, 6], [1, 4, 5], [1, 4, 6], [1, 5, 6], [2, 3, 4], [2, 3, 5], [2, 3, 6], [2, 4, 5], [2, 4, 6], [2, 5, 6], [3, 4, 5], [3, 4, 6], [3, 5, 6], [4, 5, 6], [0, 1, 2, 3], [0, 1, 2, 4], [0, 1, 2, 5], [0, 1, 2, 6], [0, 1, 3, 4], [0, 1, 3, 5], [0, 1, 3, 6], [0, 1, 4, 5], [0, 1, 4, 6], [0, 1, 5, 6], [0, 2, 3, 4], [0, 2, 3, 5], [0, 2, 3, 6], [0, 2, 4, 5], [0, 2, 4, 6], [0, 2, 5, 6], [0, 3, 4, 5], [0, 3, 4, 6], [0, 3, 5, 6], [0, 4, 5, 6], [1, 2, 3, 4], [1, 2, 3, 5], [1, 2, 3, 6], [1, 2, 4, 5], [1, 2, 4, 6], [1, 2, 5, 6], [1, 3, 4, 5], [1, 3, 4, 6], [1, 3, 5, 6], [1, 4, 5, 6], [2, 3, 4, 5], [2, 3, 4, 6], [2, 3, 5, 6], [2, 4, 5, 6], [3, 4, 5, 6], [0, 1, 2, 3, 4], [0, 1, 2, 3, 5], [0, 1, 2, 3, 6], [0, 1, 2, 4, 5], [0, 1, 2, 4, 6], [0, 1, 2, 5, 6], [0, 1, 3, 4, 5], [0, 1, 3, 4, 6], [0, 1, 3, 5, 6], [0, 1, 4, 5, 6], [0, 2, 3, 4, 5], [0, 2, 3, 4, 6], [0, 2, 3, 5, 6], [0, 2, 4, 5, 6], [0, 3, 4, 5, 6], [1, 2, 3, 4, 5], [1, 2, 3, 4, 6], [1, 2, 3, 5, 6], [1, 2, 4, 5, 6], [1, 3, 4, 5, 6], [2, 3, 4, 5, 6], [0, 1, 2, 3, 4, 5], [0, 1, 2, 3, 4, 6], [0, 1, 2, 3, 5, 6], [0, 1, 2, 4, 5, 6], [0, 1, 3, 4, 5, 6], [0, 2, 3, 4, 5, 6], [1, 2, 3, 4, 5, 6], [0, 1, 2, 3, 4, 5, 6]]
 | _ => []
def ndB : List Nat → Bool
 | [] => true
 | a :: l => !(l.any (Nat.beq a)) && ndB l
theorem wagx : ∀ {l : List Nat}, ndB l = true → l.Nodup
 | [], _ => List.nodup_nil
 | a :: l, h => by
  simp only [ndB, Bool.and_eq_true, Bool.not_eq_true', List.any_eq_false] at h
  exact List.nodup_cons.2 ⟨fun hm => h.1 a hm (Nat.beq_refl a), wagx h.2⟩
noncomputable def chkI (n : Nat) : Bool := match F_zz (n : Int) with
 | some x => wgc x.1 x.2 == wbe n && (ndB x.1 && x.1.all fun i => Nat.blt i x.2.length)
 | none => false
noncomputable def chkS (n : Nat) : Bool := wakc (n : Int) == some (wbe n)
def chkR (n : Nat) : Bool := (wbe n).all (fun s => wgp s 0 ((n : Int) - 1) && Nat.blt 0 s.length && Nat.ble s.length 7) && Nat.beq ((wbe n).length + 1) (2 ^ n)
theorem wbdz : chkR 1 = true := by kernel_rfl
theorem wbea : chkR 2 = true := by kernel_rfl
theorem wbeb : chkR 3 = true := by kernel_rfl
theorem wbec : chkR 4 = true := by kernel_rfl
theorem wbed : chkR 5 = true := by kernel_rfl
theorem wbee : chkR 6 = true := by kernel_rfl
theorem wbef : chkR 7 = true := by kernel_rfl
theorem wayz : ∀ n : Nat, 1 ≤ n → n ≤ 7 → chkR n = true
 | 1, _, _ => wbdz
 | 2, _, _ => wbea
 | 3, _, _ => wbeb
 | 4, _, _ => wbec
 | 5, _, _ => wbed
 | 6, _, _ => wbee
 | 7, _, _ => wbef
 | 0, h, _ => by omega
 | n + 8, _, h => by omega
theorem wbeg : chkS 1 = true := by kernel_rfl
theorem wbeh : chkS 2 = true := by kernel_rfl
theorem wbei : chkS 3 = true := by kernel_rfl
theorem wbej : chkS 4 = true := by kernel_rfl
theorem wbek : chkS 5 = true := by kernel_rfl
theorem wbel : chkS 6 = true := by kernel_rfl
theorem wbem : chkS 7 = true := by kernel_rfl
theorem wben : ∀ n : Nat, 1 ≤ n → n ≤ 7 → chkS n = true
 | 1, _, _ => wbeg
 | 2, _, _ => wbeh
 | 3, _, _ => wbei
 | 4, _, _ => wbej
 | 5, _, _ => wbek
 | 6, _, _ => wbel
 | 7, _, _ => wbem
 | 0, h, _ => by omega
 | n + 8, _, h => by omega
theorem wbeo : chkI 1 = true := by kernel_rfl
theorem wbep : chkI 2 = true := by kernel_rfl
theorem wbeq : chkI 3 = true := by kernel_rfl
theorem wber : chkI 4 = true := by kernel_rfl
theorem wbes : chkI 5 = true := by kernel_rfl
theorem wbet : chkI 6 = true := by kernel_rfl
theorem wbeu : chkI 7 = true := by kernel_rfl
theorem wbev : ∀ n : Nat, 1 ≤ n → n ≤ 7 → chkI n = true
 | 1, _, _ => wbeo
 | 2, _, _ => wbep
 | 3, _, _ => wbeq
 | 4, _, _ => wber
 | 5, _, _ => wbes
 | 6, _, _ => wbet
 | 7, _, _ => wbeu
 | 0, h, _ => by omega
 | n + 8, _, h => by omega
structure SetsP (n : Nat) : Prop where
 im : ∃ ix l, F_zz (n : Int) = some (ix, l) ∧ wgc ix l = wbe n ∧ ix.Nodup ∧ ∀ i ∈ ix, i < l.length
 sp : wakc (n : Int) = some (wbe n)
 len : (wbe n).length + 1 = 2 ^ n
 rising : ∀ s ∈ wbe n, wgp s 0 ((n : Int) - 1) = true ∧ 0 < s.length ∧ s.length ≤ 7
theorem waly {n : Nat} (h1 : 1 ≤ n) (h2 : n ≤ 7) : SetsP n := by
 have c3 := wayz n h1 h2
 simp only [chkR, Bool.and_eq_true, List.all_eq_true] at c3
 have hr : ∀ s ∈ wbe n, wgp s 0 ((n : Int) - 1) = true ∧ 0 < s.length ∧ s.length ≤ 7 := fun s hs => ⟨(c3.1 s hs).1.1, by simpa using (c3.1 s hs).1.2, by simpa using (c3.1 s hs).2⟩
 have c2 := wben n h1 h2
 simp only [chkS, beq_iff_eq] at c2
 have hsp := c2
 have c1 := wbev n h1 h2
 have hi : ∃ ix l, F_zz (n : Int) = some (ix, l) ∧ wgc ix l = wbe n ∧ ix.Nodup ∧ ∀ i ∈ ix, i < l.length := by
  unfold chkI at c1
  split at c1
  next x hx =>
   simp only [Bool.and_eq_true, List.all_eq_true] at c1
   exact ⟨x.1, x.2, hx, beq_iff_eq.1 c1.1, wagx c1.2.1, fun i hi => by simpa using c1.2.2 i hi⟩
  next => cases c1
 exact ⟨hi, hsp, Nat.eq_of_beq_eq_true c3.2, hr⟩
theorem waza {n : Nat} (h : n ≤ 7) : 2 ^ n ≤ 2 ^ 7 := Nat.pow_le_pow_right (by omega) h
theorem wnk {n : Nat} (hS : SetsP n) (h : n ≤ 7) : (wbe n).length ≤ 128 := by
 have h1 := hS.len
 have h2 := waza h
 have h3 : 2 ^ 7 ≤ 128 := by decide
 omega
end Go.Proofs.Ytnagpmhaddfgmaa
