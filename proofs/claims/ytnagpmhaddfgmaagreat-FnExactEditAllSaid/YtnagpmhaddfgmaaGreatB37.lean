/-
 slices.Clone at []int, by the shelf's contract: the copy is the caller's own.
-/
import Derived.Test.YtnagpmhaddfgmaaGreatB31
import Derived.Test.YtnagpmhaddfgmaaGreatProg
import Derived.Shelf.SlicesG.Clone
namespace Go.Proofs.YtnagpmhaddfgmaaGreat
open Go.RowKit (Below)
open Go.Proofs.Tryz
def cloneRen : Go.Shelf.Ren := ⟨fun | 41 => 146 | n => n, fun | 22 => 24 | 23 => 3 | 4 => 4 | n => n, fun n => n⟩
theorem cloneLays : SlLaysN.n41 prog cloneRen := {
 mixed := by kernel_rfl
 f41 := ⟨f146.name, by kernel_rfl, func146.trans (congrArg some (by kernel_rfl))⟩
 t4 := underlying4
 a4 := isAgg4
 z4 := sizeOf4
 v4 := zeroValue4
 t22 := underlying24
 a22 := isAgg24
 z22 := sizeOf24
 v22 := zeroValue24
 t23 := underlying3
 a23 := isAgg3
 z23 := sizeOf3
 v23 := zeroValue3
 i23 := by kernel_rfl }
theorem repL_ints {S : Nat → Prop} {w : World} : ∀ l : List Int, RepL S w (.int .i64) l (l.map (Value.int .i64))
 | [] => rfl
 | x :: l => ⟨[.int .i64 x], l.map (Value.int .i64), rfl, rfl, repL_ints l⟩
theorem res_own [Tabs] {P : Program} {X lo : Nat → Prop} {w w' : World} {μi : Nat → Option MV} {e : Nat} {l : List Int} {v : Value} (ho : w'.ownsRow w.heap.size e 1 v l.length (l.map (Value.int .i64))) (hk : Kept lo w w') (hX : ∀ b, X b → lo b) (hlo : ∀ b, lo b → b < w.heap.size)
  (htab : TabsOK w lo) : ResOK P X lo w w' μi ([.arr 0], [(0, .arr e (.int .i64) l)]) v := by
 obtain ⟨a, n, c, rfl⟩ : ∃ a n c, v = .slice a n c := by
  rcases ho.2 with ⟨e, _⟩ | ⟨_, _, _, e, _⟩
  ·exact ⟨_, _, _, e⟩
  ·exact ⟨_, _, _, e⟩
 refine ⟨hk, again (fun _ => none) 0 ⟨.slice a n c, (rootV (.slice a n c)).toList, []⟩, ⟨hX, fun b hb => Nat.lt_of_lt_of_le (hlo b hb) hk.size, fun o mv h => ?_, fun o p mv mv' b h1 h2 _ _ => ?_, htab.step hk.block⟩, fun o mv h => ?_, fun p hp hge => ?_, .inl ⟨_, rfl, .arr (rs := (rootV (.slice a n c)).toList) (hs := []) again_self⟩⟩
 ·rcases again_inv h with ⟨rfl, rfl⟩ | ⟨_, h⟩
  ·refine ⟨_, rfl, ⟨rfl, rfl⟩, fun b hb hl => ?_, l.map (Value.int .i64), ⟨ho.1, ?_⟩, repL_ints l⟩
   ·rcases ho.2 with ⟨e1, _⟩ | ⟨gb, cap, cur, e1, h1, _⟩
    ·rw [e1] at hb; simp [rootV] at hb
    ·rw [e1] at hb
     simp only [rootV, Option.some.injEq] at hb
     have := hlo b hl
     omega
   ·rcases ho.2 with h | ⟨gb, cap, cur, e1, h1, h2⟩
    ·exact .inl h
    ·exact .inr ⟨gb, cap, cur, e1, Nat.zero_le _, h2⟩
  ·cases h
 ·rcases again_inv h1 with ⟨rfl, rfl⟩ | ⟨_, h1⟩
  ·rcases again_inv h2 with ⟨rfl, rfl⟩ | ⟨_, h2⟩
   ·rfl
   ·cases h2
  ·cases h1
 ·rcases again_inv h with ⟨rfl, rfl⟩ | ⟨_, h⟩
  ·exact ⟨_, List.mem_singleton.2 rfl, rfl⟩
  ·cases h
 ·rw [List.mem_singleton.1 hp] at hge
  exact absurd hge (by simp)
def cloneF (l : List Int) : Option (List Int) := if l.length * 8 ≤ 140737488355328 then some l else none
def fdClone : FD where
 A := .cons (.dat (.slice (.int .i64))) .nil
 ins := []
 lend := []
 R := List Int
 F := fun x => cloneF x.1.1
 emb := fun r => ([.arr 0], [(0, .arr 3 (.int .i64) r)])
theorem hand_clone : FDok prog (146, fdClone) := by
 intro x r hr w X μi vals hX hm hins hsz hv
 obtain ⟨⟨l, u⟩, v⟩ := x
 have hr' : cloneF l = some r := hr
 unfold cloneF at hr'
 split at hr'
 next hin =>
  have e : l = r := Option.some.inj hr'
  subst e
  obtain ⟨x, rfl, h1⟩ := args1 (v := .dat (.slice (.int .i64)) l) hsz hv
  have hb : f146.body.isSome = true := by kernel_rfl
  obtain ⟨c, hc⟩ := Option.isSome_iff_exists.1 hb
  have hrep : Rep (SS X μi) w (.slice (.int .i64)) l [x] := by
   cases h1 with | dat _ hr => exact hr
  simp only [Rep] at hrep
  obtain ⟨a, cap, e, hcap, hel⟩ := hrep
  simp only [List.cons.injEq, and_true] at e
  subst e
  refine .inl ⟨run_enter func146 (by kernel_rfl) hc _ w, ?_⟩
  have fin : ∀ {v' : Value} {w' : World}, w'.ownsRow w.heap.size 3 1 v' l.length (l.map (Value.int .i64)) → Below w.heap.size w w' → ResOK prog X (old w μi) w w' μi (fdClone.emb l) v' := fun ho hb =>
   res_own ho (Kept.of hb hm.hlo) hX hm.hlo hm.tab
  cases l with
  | nil =>
   cases a with
   | none =>
    refine (AnyG.slices_Clone_int_nil cloneLays _ _ w).mono fun e w' ⟨he, hw⟩ => ⟨_, he, ?_⟩
    subst hw
    exact fin (World.ownsRow_nil w' _ _ _) (Below.refl _ _)
   | some a =>
    refine (AnyG.slices_Clone_int_zero cloneLays a _ w).mono fun e w' ⟨v', he, ho, _, hb⟩ => ⟨_, he, ?_⟩
    exact fin ho hb
  | cons y l =>
   obtain ⟨b, off, c', ha, _⟩ := hel 0 y rfl
   subst ha
   have hcell : ∀ j, j < (y :: l).length → w.cell? ⟨b, off + j, none⟩ = some (.int .i64 ((y :: l).getD j 0)) := fun j hj => by
    obtain ⟨b', off', c1, h1, _, h3, h4⟩ := hel j _ (List.getElem?_eq_getElem hj)
    cases h1
    subst h3
    have := h4 0 _ rfl
    simp only [Ty.size, Nat.mul_one, Nat.add_zero] at this
    rw [this, List.getD_eq_getElem?_getD, List.getElem?_eq_getElem hj]
    rfl
   refine (AnyG.slices_Clone_int cloneLays b off _ _ (y :: l) w (Nat.le_refl _) hin hcell).mono fun e w' ⟨v', he, ho, _, hb⟩ => ⟨_, he, ?_⟩
   rw [List.take_length] at ho
   exact fin ho hb
 next => cases hr'
end Go.Proofs.YtnagpmhaddfgmaaGreat
