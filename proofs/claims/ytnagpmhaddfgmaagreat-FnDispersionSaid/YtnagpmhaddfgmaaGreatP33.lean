/-
 Plain laws: the sets of a size.
-/
import Derived.Test.YtnagpmhaddfgmaaGreatP28
import Derived.Test.YtnagpmhaddfgmaaGreatP8
namespace Go.Proofs.YtnagpmhaddfgmaaGreat
theorem wfn {n : Nat} (h7 : n ≤ 7) (hS : SetsP n) {s : List Int} (hs : s ∈ wbf n) : Places s n ∧ 0 < s.length ∧ wew s := by
 obtain ⟨h1, h2, h3⟩ := hS.rising s hs
 have hl : wew s := by unfold wew; omega
 exact ⟨Places.of hl h1, h2, hl⟩
def wie (n : Nat) (k : Int) : List (List Int) := (wbf n).filter fun s => decide ((s.length : Int) = k)
def wbtn (n : Nat) : Bool := (List.range n).all fun k => (wbf n).any fun s => Nat.beq s.length (k + 1)
theorem waoz : ∀ n : Nat, n ≤ 7 → wbtn n = true
 | 0, _ => by kernel_rfl
 | 1, _ => by kernel_rfl
 | 2, _ => by kernel_rfl
 | 3, _ => by kernel_rfl
 | 4, _ => by kernel_rfl
 | 5, _ => by kernel_rfl
 | 6, _ => by kernel_rfl
 | 7, _ => by kernel_rfl
 | n + 8, h => by omega
theorem wif {n : Nat} (h7 : n ≤ 7) {k : Int} (h1 : 1 ≤ k) (hk : k ≤ (n : Int)) : wie n k ≠ [] := by
 have h := waoz n h7
 unfold wbtn at h
 have h2 := List.all_eq_true.1 h (k.toNat - 1) (List.mem_range.2 (by omega))
 obtain ⟨s, hs, e⟩ := List.any_eq_true.1 h2
 have e2 := Nat.eq_of_beq_eq_true e
 intro h3
 have h4 : s ∈ wie n k := List.mem_filter.2 ⟨hs, by simp; omega⟩
 rw [h3] at h4
 cases h4
theorem wlx {n : Nat} {k : Int} {s : List Int} : s ∈ wie n k ↔ s ∈ wbf n ∧ (s.length : Int) = k := by
 unfold wie
 rw [List.mem_filter, decide_eq_true_eq]
theorem wvt {n : Nat} (h1 : 1 ≤ n) (h7 : n ≤ 7) (k : Int) : ∃ y, wakm (n : Int) k = some y ∧ HG y ∧ wbd y.1 y.2 = wie n k ∧ y.1.length = (wie n k).length ∧ (y.1.length : Int) ≤ 128 := by
 have hS := waoy h1 h7
 obtain ⟨x, e1, e2, e3⟩ := hS.im
 have hl128 := wvr hS h7
 have hxl : x.1.length = (wbf n).length := by rw [← e3, wjk]
 obtain ⟨y, k1, k2, k3⟩ := wsy (x := x) e2 (by omega) (p := fun h3_ => Option.bind (wakl h3_.1 k) fun y4_ => some y4_) (q := fun s => !decide ((s.length : Int) = k)) fun s hs => by
  rw [e3] at hs
  obtain ⟨p1, p2, p3⟩ := wfn h7 hS hs
  unfold wew at p3
  show Option.bind (wakl s k) _ = _
  unfold wakl wbdm
  simp (disch := omega) only [EV]
  by_cases h : (s.length : Int) = k <;> simp [h]
 have hk : wbd y.1 y.2 = wie n k := by
  rw [k3, e3]
  unfold wie
  congr 1
  funext s
  simp
 have hyl : y.1.length = (wie n k).length := by rw [← hk, wjk]
 have hle : (wie n k).length ≤ (wbf n).length := List.length_filter_le _ _
 unfold wakm wbdo
 simp (disch := omega) only [EV, e1, k1]
 exact ⟨_, rfl, k2, hk, hyl, by omega⟩
end Go.Proofs.YtnagpmhaddfgmaaGreat
