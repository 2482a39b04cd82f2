/-
 laws.eqIntA2, walked by hand (an index that is no literal): two pairs are equal.
-/
import Derived.Test.YtnagpmhaddfgmaaB31
import Derived.Test.YtnagpmhaddfgmaaProg
import Derived.Shelf.Abstract
import Derived.WalkKit
import Derived.OwnWalkIn
import Derived.TacticsInMore
import Derived.LoopNIn
import Derived.LoopIn
import Derived.RegionTactic
import Derived.ChangeAlike
import Derived.BigRegionIn
namespace Go.Proofs.Ytnagpmhaddfgmaa
open Go.RowKit Go.Shelf
open Go.Proofs.Try
attribute [local go_sem] Oper.semAt_some
def Upto (m k : Nat) (a c : Int) : Prop := m ≤ k → a = c
set_option maxRecDepth 100000 in
set_option maxHeartbeats 2000000 in
theorem watu (F : Fence) (n : Nat) (h9 : F.fn 40) (hro : F.round = none) (a b c d : Int) (w : World) :
  CallsIn F n prog 40 #[.agg #[.int .i64 a, .int .i64 b], .agg #[.int .i64 c, .int .i64 d]] w fun e w' => e = .returned (.bool (a == c && b == d)) ∧ Below w.heap.size w w' := by
 refine callsIn_of_wp func40 rfl h9 ?_ hro
 simp only [ntmps40, List.size_toArray, List.length_cons, List.length_nil, Nat.reduceAdd, Nat.reduceSub, Array.replicate_succ, Array.replicate_zero, List.push_toArray, List.append_toArray, List.nil_append, List.cons_append]
 gi_wp2
 gi_loopw [5] (fun i wr => ∃ k : Nat, k ≤ 2 ∧ i = .int .i64 k ∧ Upto 1 k a c ∧ Upto 2 k b d ∧ Below w.heap.size w wr ∧ wr.cell? ⟨w.heap.size, 0, none⟩ = some (.int .i64 a) ∧ wr.cell? ⟨w.heap.size, 1, none⟩ = some (.int .i64 b) ∧ wr.cell? ⟨w.heap.size + 1, 0, none⟩ = some (.int .i64 c) ∧ wr.cell? ⟨w.heap.size + 1, 1, none⟩ = some (.int .i64 d))
  (fun i _ => 2 - (intOf i).toNat)
 case atStart =>
  refine ⟨0, by omega, rfl, fun h => by omega, fun h => by omega, ((Below.refl _ w).alloc (Nat.le_refl _) _).alloc (by simp) _, ?_, ?_, ?_, ?_⟩
  ·rw [World.cell?_alloc_past _ _ _ (by simp), World.cell?_alloc_at _ _ _ _ rfl]
   rfl
  ·rw [World.cell?_alloc_past _ _ _ (by simp), World.cell?_alloc_at _ _ _ _ rfl]
   rfl
  ·rw [World.cell?_alloc_at _ _ _ _ (by simp)]
   rfl
  ·rw [World.cell?_alloc_at _ _ _ _ (by simp)]
   rfl
 case round =>
  obtain ⟨k, hk, rfl, h1, h2, hB, c1, c2, c3, c4⟩ := hrel
  have hk3 : k = 0 ∨ k = 1 ∨ k = 2 := by omega
  rcases hk3 with rfl | rfl | rfl
  ·gi_wp2
   gi_region
   all_goals gi_wp2
   all_goals first
    |(have hne : (a != c) = true := by assumption
      have hne : a ≠ c := by simpa using hne
      refine bodyPost_ret (results_tmp rfl _ _ _) rfl ?_
      exact ⟨by simp [hne], hB.drew⟩)
    |(have hne : (a != c) = false := by assumption
      have he : a = c := by simpa using hne
      exact ⟨⟨1, by omega, rfl, fun _ => he, fun h => by omega, hB.drew, c1, c2, c3, c4⟩, by simp [intOf]⟩)
  ·gi_wp2
   gi_region
   all_goals gi_wp2
   all_goals first
    |(have hne : (b != d) = true := by assumption
      have hne : b ≠ d := by simpa using hne
      refine bodyPost_ret (results_tmp rfl _ _ _) rfl ?_
      exact ⟨by simp [hne], hB.drew⟩)
    |(have hne : (b != d) = false := by assumption
      have he2 : b = d := by simpa using hne
      have he := h1 (Nat.le_refl _)
      exact ⟨⟨2, by omega, rfl, fun _ => he, fun h => he2, hB.drew, c1, c2, c3, c4⟩, by simp [intOf]⟩)
  ·gi_wp2
   go_ret
   have he := h1 (by omega)
   have he2 := h2 (Nat.le_refl _)
   exact ⟨by simp [he, he2], hB⟩
theorem wafi {P : Program} {w : World} {lo : Nat → Prop} {μ : Nat → Option MV} {S : Nat → Prop} {a b : Int} {x : Value} (h : RelV P w lo μ S (.agg [.dat (.int .i64) a, .dat (.int .i64) b]) x) : x = .agg #[.int .i64 a, .int .i64 b] := by
 cases h with
 | agg hl h =>
  rename_i xs
  have h2 : xs.size = 2 := by simpa using hl.symm
  have e0 := warl (h 0 _ rfl)
  have e1 := warl (h 1 _ rfl)
  congr 1
  apply Array.ext
  ·simpa using h2
  ·intro i hi hi2
   have : i = 0 ∨ i = 1 := by simp at hi2; omega
   rcases this with rfl | rfl
   ·simpa [Array.getD, hi] using e0
   ·simpa [Array.getD, hi] using e1
def warm : FD where
 A := .cons (.agg (.cons (.dat (.int .i64)) (.cons (.dat (.int .i64)) .nil))) (.cons (.agg (.cons (.dat (.int .i64)) (.cons (.dat (.int .i64)) .nil))) .nil)
 ins := []
 lend := []
 R := Bool
 F := fun x => some (x.1.1.1 == x.1.2.1.1 && x.1.1.2.1 == x.1.2.1.2.1)
 emb := fun r => ([.dat .bool r], [])
theorem wafj : wat prog (40, warm) := by
 intro x r hr w X μi vals hX hm hins hsz hv
 obtain ⟨⟨⟨a, b, u1⟩, ⟨c, d, u2⟩, u⟩, v⟩ := x
 have e : (a == c && b == d) = r := Option.some.inj hr
 subst e
 obtain ⟨x, y, rfl, h1, h2⟩ := wbll (v := .agg [.dat (.int .i64) a, .dat (.int .i64) b]) (u := .agg [.dat (.int .i64) c, .dat (.int .i64) d]) hsz hv
 rw [wafi h1, wafi h2]
 have hb : f40.body.isSome = true := by kernel_rfl
 obtain ⟨cd, hc⟩ := Option.isSome_iff_exists.1 hb
 refine .inl ⟨wkv func40 (by kernel_rfl) hc _ w, ?_⟩
 refine ((watu Fence.wide 1 trivial rfl a b c d w).calls (fun _ _ h => by cases h)).mono fun e w' ⟨he, hb'⟩ => ⟨_, he, ?_⟩
 exact watt rfl (fun _ => rfl) (Kept.of hb' hm.hlo) hX hm.hlo hm.tab
end Go.Proofs.Ytnagpmhaddfgmaa
