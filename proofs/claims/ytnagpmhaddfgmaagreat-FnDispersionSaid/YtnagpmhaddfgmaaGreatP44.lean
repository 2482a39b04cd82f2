/-
 All sets of places; numbers in order.
-/
import Derived.Test.YtnagpmhaddfgmaaGreatQ27
import Derived.Test.YtnagpmhaddfgmaaGreatP33
import Derived.Test.YtnagpmhaddfgmaaGreatPC
namespace Go.Proofs.YtnagpmhaddfgmaaGreat
def subs : Nat → List (List Int)
 | 0 => [[]]
 | n + 1 => subs n ++ (subs n).map fun s => s ++ [(n : Int)]
theorem wma : ∀ (n : Nat) {s : List Int}, s.Pairwise (· < ·) → (∀ x ∈ s, 0 ≤ x ∧ x < (n : Int)) → s ∈ subs n
 | 0, s, _, h => by
  cases s with
  | nil => exact List.mem_singleton.2 rfl
  | cons x s => have := h x (by simp); omega
 | n + 1, s, hp, h => by
  rw [subs, List.mem_append]
  rcases List.eq_nil_or_concat s with rfl | ⟨i, z, rfl⟩
  ·exact .inl (wma n hp fun x hx => by cases hx)
  ·rw [List.concat_eq_append] at hp h ⊢
   obtain ⟨p1, _, p3⟩ := List.pairwise_append.1 hp
   have hz := h z (by simp)
   by_cases e : z = (n : Int)
   ·refine .inr (List.mem_map.2 ⟨i, wma n p1 fun x hx => ?_, by rw [e]⟩)
    have h1 := h x (List.mem_append_left _ hx)
    have h2 := p3 x hx z (by simp)
    omega
   ·refine .inl (wma n hp fun x hx => ?_)
    have h1 := h x hx
    rcases List.mem_append.1 hx with hx | hx
    ·have h2 := p3 x hx z (by simp)
     omega
    ·rw [List.mem_singleton.1 hx] at h1 ⊢
     omega
def intB : Int → Int → Bool
 | .ofNat a, .ofNat b => Nat.beq a b
 | _, _ => false
def lstB : List Int → List Int → Bool
 | [], [] => true
 | a :: l, b :: r => intB a b && lstB l r
 | _, _ => false
theorem wapq : ∀ {a b : List Int}, lstB a b = true → a = b
 | [], [], _ => rfl
 | [], _ :: _, h => by cases h
 | _ :: _, [], h => by cases h
 | x :: a, y :: b, h => by
  unfold lstB at h
  rw [Bool.and_eq_true] at h
  have e : x = y := by
   have h1 := h.1
   unfold intB at h1
   split at h1
   ·exact congrArg Int.ofNat (Nat.eq_of_beq_eq_true h1)
   ·cases h1
  rw [e, wapq h.2]
def chkM (n : Nat) : Bool := (subs n).all fun s => s.isEmpty || (wbf n).any fun t => lstB s t
theorem waya : ∀ n : Nat, 1 ≤ n → n ≤ 7 → chkM n = true
 | 0, h, _ => by omega
 | 1, _, _ => by kernel_rfl
 | 2, _, _ => by kernel_rfl
 | 3, _, _ => by kernel_rfl
 | 4, _, _ => by kernel_rfl
 | 5, _, _ => by kernel_rfl
 | 6, _, _ => by kernel_rfl
 | 7, _, _ => by kernel_rfl
 | n + 8, _, h => by omega
theorem wayb {n : Nat} (h1 : 1 ≤ n) (h7 : n ≤ 7) {s : List Int} (hp : s.Pairwise (· < ·)) (hr : ∀ x ∈ s, 0 ≤ x ∧ x < (n : Int)) (h0 : s ≠ []) : s ∈ wbf n := by
 have h := List.all_eq_true.1 (waya n h1 h7) s (wma n hp hr)
 rw [Bool.or_eq_true] at h
 rcases h with h | h
 ·exact absurd (List.isEmpty_iff.1 h) h0
 ·obtain ⟨t, ht, e⟩ := List.any_eq_true.1 h
  rw [wapq e]
  exact ht
theorem wpv : ∀ {a b : List Int}, a.Pairwise (· < ·) → b.Pairwise (· < ·) → (∀ x, x ∈ a ↔ x ∈ b) → a = b
 | [], [], _, _, _ => rfl
 | [], y :: b, _, _, h => by have := (h y).2 (by simp); cases this
 | x :: a, [], _, _, h => by have := (h x).1 (by simp); cases this
 | x :: a, y :: b, ha, hb, h => by
  obtain ⟨a1, a2⟩ := List.pairwise_cons.1 ha
  obtain ⟨b1, b2⟩ := List.pairwise_cons.1 hb
  have e : x = y := by
   rcases List.mem_cons.1 ((h x).1 (by simp)) with e | hx
   ·exact e
   ·rcases List.mem_cons.1 ((h y).2 (by simp)) with e | hy
    ·exact e.symm
    ·have := a1 y hy
     have := b1 x hx
     omega
  subst e
  rw [wpv a2 b2 fun z => ?_]
  constructor
  ·intro hz
   have hlt := a1 z hz
   rcases List.mem_cons.1 ((h z).1 (List.mem_cons_of_mem _ hz)) with e | h'
   ·omega
   ·exact h'
  ·intro hz
   have hlt := b1 z hz
   rcases List.mem_cons.1 ((h z).2 (List.mem_cons_of_mem _ hz)) with e | h'
   ·omega
   ·exact h'
def upTo (l : List Int) (k : Nat) : List Int := ((List.range k).filter fun (a : Nat) => l.contains (a : Int)).map fun (a : Nat) => (a : Int)
theorem wapr (l : List Int) (k : Nat) : upTo l (k + 1) = bif l.contains (k : Int) then upTo l k ++ [(k : Int)] else upTo l k := by
 unfold upTo
 rw [List.range_succ, List.filter_append]
 cases h : l.contains (k : Int) with
 | true => rw [List.filter_cons_of_pos (p := fun (a : Nat) => l.contains (a : Int)) h]; simp
 | false => rw [List.filter_cons_of_neg (p := fun (a : Nat) => l.contains (a : Int)) (by rw [h]; exact Bool.noConfusion)]; simp
theorem wayc (l : List Int) (k : Nat) : (upTo l k).length ≤ k := by
 have h := List.length_filter_le (fun (a : Nat) => l.contains (a : Int)) (List.range k)
 simp only [List.length_range] at h
 simp only [upTo, List.length_map]
 exact h
theorem waps {l : List Int} {k : Nat} (hr : ∀ x ∈ l, 0 ≤ x ∧ x < (k : Int)) (hn : l.Nodup) : upTo l k = waz l := by
 obtain ⟨h1, _, h3⟩ := wez l
 refine wpv ?_ ?_ fun x => ?_
 ·unfold upTo
  refine List.Pairwise.map _ (fun a b (h : a < b) => ?_) ((List.pairwise_lt_range).filter _)
  omega
 ·have hs : (waz l).Nodup := (whb l).nodup_iff.2 hn
  exact (h1.and hs).imp fun {x y} h => by omega
 ·rw [h3]
  unfold upTo
  rw [List.mem_map]
  constructor
  ·rintro ⟨a, ha, rfl⟩
   exact List.contains_iff_mem.1 (List.mem_filter.1 ha).2
  ·intro hx
   have := hr x hx
   refine ⟨x.toNat, List.mem_filter.2 ⟨List.mem_range.2 (by omega), ?_⟩, by omega⟩
   rw [List.contains_iff_mem, Int.toNat_of_nonneg this.1]
   exact hx
theorem wtc {l : List Int} (hl : (l.length : Int) < 9223372036854775807) (x : Int) : wauu l x = some (l.contains x) := by
 have hs : walv (l, x) 0 = _ := wex (f := fun v => (woa (l, x) v).ev) (l := l) 0 (fun y => y == x) (mk := fun i => (i : Int)) (yes := fun _ => .inr ()) (no := .inl ()) (fun i hi => by
  simp (disch := omega) only [EV, woa, hi]
  cases (l.getD i 0 == x) <;> rfl) (by simp (disch := omega) only [EV, woa, Nat.lt_irrefl])
 unfold wauu wbfg
 simp (disch := omega) only [EV, hs]
 have e : l.contains x = l.any fun y => y == x := by
  rw [List.contains_eq_any_beq]
  congr 1
  funext y
  exact Bool.beq_comm
 rw [e]
 have h2 := wed (l := l) (q := fun y => y == x)
 cases h : l.findIdx? fun y => y == x with
 | none =>
  rw [h] at h2
  have h3 : (l.any fun y => y == x) = false := by
   rw [Bool.eq_false_iff]
   exact fun h4 => by have := h2.1 h4; simp at this
  rw [h3]
  rfl
 | some i =>
  rw [h] at h2
  rw [h2.2 rfl]
  rfl
theorem wzi {l : List Int} (hn : l.length ≤ 1000) (hl : ∀ a ∈ l, 0 ≤ a ∧ a < 1001) (hd : l.Nodup) : wauw l = some (waz l) := by
 have hz : l.contains (-1) = false := by
  rw [Bool.eq_false_iff]
  intro h
  have := hl _ (List.contains_iff_mem.1 h)
  omega
 obtain ⟨r, h1, h2⟩ := wcz (f := fun v => (whx l v).ev) (n := 1002) (fun k v => v = (((k : Int) - 1), upTo l (k - 1))) (fun r => r = waz l)
  (fun k v hk hv => by
   subst hv
   cases k with
   | zero =>
    refine ⟨(0, []), ?_, rfl⟩
    have e0 : (((0 : Nat) : Int) - 1) = -1 := rfl
    rw [e0]
    simp (disch := omega) only [EV, whx, wtc (l := l) (by omega), hz]
    rfl
   | succ k =>
    have e1 : (((k + 1 : Nat) : Int) - 1) = (k : Int) := by omega
    have e2 : (((k + 1 + 1 : Nat) : Int) - 1) = (k : Int) + 1 := by omega
    have hk' : (k : Int) ≤ 1000 := by omega
    have hu := wayc l k
    have r1 := waxz (upTo l k) (k : Int) (by omega)
    have hs := wapr l k
    rw [Nat.add_sub_cancel, e1, Nat.add_sub_cancel, e2]
    cases hb : l.contains (k : Int) with
    | true =>
     rw [hb] at hs
     refine ⟨_, ?_, rfl⟩
     rw [hs]
     simp (disch := omega) only [EV, whx, hk', wtc (l := l) (by omega), hb, r1]
    | false =>
     rw [hb] at hs
     refine ⟨_, ?_, rfl⟩
     rw [hs]
     simp (disch := omega) only [EV, whx, hk', wtc (l := l) (by omega), hb])
  (fun v hv => by
   subst hv
   have e1 : (((1002 : Nat) : Int) - 1) = 1001 := rfl
   have hk' : ¬ (1001 : Int) ≤ 1000 := by omega
   rw [e1]
   exact ⟨_, by simp (disch := omega) only [EV, whx, hk'], waps hl hd⟩)
  (v := ((-1 : Int), ([] : List Int))) rfl
 rw [h2] at h1
 have h1' : walw l ((-1 : Int), ([] : List Int)) = _ := h1
 unfold wauw wbfk
 simp (disch := omega) only [EV, h1']
end Go.Proofs.YtnagpmhaddfgmaaGreat
