/-
 slices.Values at []int as data of its own, and slices.Collect of it: the list in new memory.
-/
import Derived.Test.YtnagpmhaddfgmaaGreatB31
import Derived.Test.YtnagpmhaddfgmaaGreatProg
import Derived.RangeFuncBox
import Derived.RangeFuncLeaves
import Derived.Shelf.Abstract
import Derived.WalkKit
import Derived.OwnWalkIn
import Derived.TacticsInMore
import Derived.LoopNIn
import Derived.LoopIn
import Derived.Maps.AppendAt
namespace Go.Proofs.YtnagpmhaddfgmaaGreat
open Go.RowKit Go.Shelf
open Go.Proofs.Tryz
attribute [local go_sem] Oper.semAt_some
theorem waao {zs : List Int} {k : Nat} (hk : k < zs.length) : zs.take k ++ [zs[k]?.getD 0] = zs.take (k + 1) := by
 rw [List.take_succ_eq_append_getElem hk, List.getElem?_eq_getElem hk]
 rfl
set_option maxRecDepth 100000 in
set_option maxHeartbeats 2000000 in
theorem wbbq (F : Fence) (n : Nat) (h7 : F.fn 242) (hro : F.round = none) (l Bs n0 b off cap : Nat) (zs : List Int) (hreach : zs.length * 8 ≤ 140737488351232) (hb : b < n0) (J Jx : List Int → World → Prop)
  (hY : ∀ pre x W, J pre W → pre.length < zs.length → YieldAt F (n - 1) prog l #[.int .i64 x] W fun e W' =>
   (e = .returned (.bool true) ∧ J (pre ++ [x]) W' ∧ Below n0 W W') ∨ (e = .returned (.bool false) ∧ Jx (pre ++ [x]) W'))
  (hn : 1 ≤ n) (W : World) (hBs : W.cell? ⟨Bs, 0, none⟩ = some (.slice (some ⟨b, off, none⟩) zs.length cap)) (hc : ∀ j, j < zs.length → W.cell? ⟨b, off + j, none⟩ = some (.int .i64 (zs[j]?.getD 0))) (h0 : J [] W) :
  CallsIn F n prog 242 #[.func (.yield l) #[] #[], .pointer (some ⟨Bs, 0, none⟩)] W fun e W' => (∃ v, e = .returned v) ∧
   ((∃ ys, ys = zs ∧ J ys W') ∨ (∃ pre, pre <+: zs ∧ Jx pre W')) := by
 refine callsIn_of_wp func242 rfl h7 ?_ hro
 simp only [ntmps242, List.size_toArray, List.length_cons, List.length_nil, Nat.reduceAdd, Nat.reduceSub, Array.replicate_succ, Array.replicate_zero, List.push_toArray, List.append_toArray, List.nil_append, List.cons_append]
 gi_wp2
 gi_loopw [7] (fun i wr => ∃ k : Nat, k ≤ zs.length ∧ i = .int .i64 k ∧ J (zs.take k) wr ∧ Below n0 W wr)
  (fun i _ => zs.length - (intOf i).toNat)
 case atStart => exact ⟨0, Nat.zero_le _, rfl, h0, Below.refl _ _⟩
 case round =>
  obtain ⟨k, hk, rfl, hJs, hnx⟩ := hrel
  have hcx : k < zs.length → wr.cell? ⟨b, off + k, none⟩ = some (.int .i64 (zs[k]?.getD 0)) := fun h => (hnx.cell (p := ⟨b, off + k, none⟩) hb).trans (hc k h)
  by_cases hlt : k < zs.length
  ·obtain ⟨fn, tmps, assign, body, hy, hR⟩ := hY _ (zs[k]?.getD 0) wr hJs (by rw [List.length_take]; omega)
   have hcx' := hcx hlt
   have hg : zs[k]?.getD 0 = zs[k] := by rw [List.getElem?_eq_getElem hlt]; rfl
   rw [hg] at hy hcx'
   gi_wp2
   refine hR.mono ?_
   rintro e W3 (⟨rfl, hJ3, hk3⟩ | ⟨rfl, hJx3⟩)
   ·gi_wp2
    go_roundw
    case rel => exact ⟨k + 1, by omega, by simp, by rw [← waao hlt]; exact hJ3, hnx.trans hk3⟩
    case measure => simp [intOf]; omega
   ·gi_wp2
    refine bodyPost_ret (results_none rfl _ _ _) rfl ?_
    exact ⟨⟨_, rfl⟩, .inr ⟨_, by rw [waao hlt]; exact List.take_prefix _ _, hJx3⟩⟩
  ·obtain rfl : k = zs.length := by omega
   rw [List.take_length] at hJs
   gi_wp2
   go_end0
   exact ⟨⟨_, rfl⟩, .inl ⟨_, rfl, hJs⟩⟩
set_option maxRecDepth 100000 in
set_option maxHeartbeats 1000000 in
theorem wbbr (F : Fence) (n : Nat) (h7 : F.fn 242) (hro : F.round = none) (l Bs : Nat) (a : Option Addr) (cap : Nat) (J : List Int → World → Prop) (W : World) (hBs : W.cell? ⟨Bs, 0, none⟩ = some (.slice a 0 cap)) (h0 : J [] W) :
  CallsIn F n prog 242 #[.func (.yield l) #[] #[], .pointer (some ⟨Bs, 0, none⟩)] W fun e W' => (∃ v, e = .returned v) ∧ J [] W' := by
 refine callsIn_of_wp func242 rfl h7 ?_ hro
 simp only [ntmps242, List.size_toArray, List.length_cons, List.length_nil, Nat.reduceAdd, Nat.reduceSub, Array.replicate_succ, Array.replicate_zero, List.push_toArray, List.append_toArray, List.nil_append, List.cons_append]
 gi_wp2
 gi_loopw [7] (fun i wr => i = .int .i64 0 ∧ J [] wr) (fun _ _ => 0)
 case atStart => exact ⟨rfl, h0⟩
 case round =>
  obtain ⟨rfl, hJs⟩ := hrel
  gi_wp2
  go_end0
  exact ⟨⟨_, rfl⟩, hJs⟩
set_option maxHeartbeats 1000000 in
theorem wbnj (F : Fence) (n : Nat) (h5 : F.fn 204) (hro : F.round = none) (a : Option Addr) (len cap : Nat) (w : World) :
  CallsIn F n prog 204 #[.slice a len cap] w fun e w' => e = .returned (.func (.func 242) #[] #[.pointer (some ⟨w.heap.size, 0, none⟩)]) ∧ w' = w.alloc (.cells #[.slice a len cap] 24) := by
 refine callsIn_of_wp func204 rfl h5 ?_ hro
 simp only [ntmps204, List.size_toArray, List.length_cons, List.length_nil, Nat.reduceAdd, Nat.reduceSub, Array.replicate_succ, Array.replicate_zero, List.push_toArray, List.append_toArray, List.nil_append, List.cons_append]
 gi_wp2
 go_ret
 exact ⟨rfl, rfl⟩
def Nums (n0 : Nat) (W : World) (a : Option Addr) (zs : List Int) : Prop := ∀ (i : Nat) (x : Int), zs[i]? = some x → ∃ b off, a = some ⟨b, off, none⟩ ∧ b < n0 ∧ W.cell? ⟨b, off + i, none⟩ = some (.int .i64 x)
theorem Nums.below {n0 : Nat} {A B : World} (h : Below n0 A B) {a : Option Addr} {zs : List Int} (hN : Nums n0 A a zs) : Nums n0 B a zs := fun i x hx => by
 obtain ⟨b, off, e, hb, hc⟩ := hN i x hx
 exact ⟨b, off, e, hb, (h.cell (p := ⟨b, off + i, none⟩) hb).trans hc⟩
theorem warx (F : Fence) (n : Nat) (h7 : F.fn 242) (hro : F.round = none) (hn : 1 ≤ n) (Bs n0 : Nat) (a : Option Addr) (cap : Nat) (zs : List Int) (hreach : zs.length * 8 ≤ 140737488351232) (w : World) (hBs : Bs < w.heap.size) (hn0 : n0 ≤ w.heap.size)
  (hc : w.cell? ⟨Bs, 0, none⟩ = some (.slice a zs.length cap)) (hI : Nums n0 w a zs) :
  SeqStopsK F n prog 242 #[.pointer (some ⟨Bs, 0, none⟩)] (fun x : Int => #[Value.int .i64 x]) (Below n0) (fun ys => ys = zs) (fun pre => pre <+: zs) zs.length w := fun l J Jx W hW _ _ hY h0 => by
 have hc' := (hW.cell (p := ⟨Bs, 0, none⟩) hBs).trans hc
 have hI' := hI.below (hW.mono hn0)
 cases zs with
 | nil => exact (wbbr F n h7 hro l Bs a cap J W hc' h0).mono fun e W' ⟨he, hj⟩ => ⟨he, .inl ⟨_, rfl, hj⟩⟩
 | cons z zs =>
  obtain ⟨b, off, rfl, hb, _⟩ := hI' 0 z rfl
  refine wbbq F n h7 hro l Bs n0 b off cap (z :: zs) hreach hb J Jx hY hn W hc' (fun j hj => ?_) h0
  obtain ⟨b', off', e, _, hx⟩ := hI' j _ (List.getElem?_eq_getElem hj)
  cases e
  rw [hx, List.getElem?_eq_getElem hj]
  rfl
theorem undS : prog.underlying 24 = some (.slice 3) := by kernel_rfl
theorem wbbs : (prog.info? 3).map (fun i => (i.zero, i.size, i.bytes)) = some (some (.int .i64 0), 1, 8) := by kernel_rfl
set_option maxRecDepth 100000 in
set_option maxHeartbeats 2000000 in
theorem wqu (F : Fence) (n : Nat) (h3 : F.fn 263) (h7 : F.fn 242) (hro : F.round = none) (hn : 3 ≤ n) (Bs : Nat) (a : Option Addr) (cap : Nat) (zs : List Int) (hreach : zs.length * 8 ≤ 140737488351232) (w : World) (hBs : Bs < w.heap.size)
  (hc : w.cell? ⟨Bs, 0, none⟩ = some (.slice a zs.length cap)) (hI : Nums w.heap.size w a zs) :
  CallsIn F n prog 263 #[.slice none 0 0, .func (.func 242) #[] #[.pointer (some ⟨Bs, 0, none⟩)]] w fun e W' => ∃ v, e = .returned v ∧ W'.ownsRow w.heap.size 3 1 v zs.length (zs.map (Value.int .i64)) ∧ Below w.heap.size w W' := by
 have h1 : 1 ≤ n := by omega
 obtain ⟨i0, hi, hz0, hz1, hz2⟩ := info_parts wbbs
 refine callsIn_of_wp_marks func263 rfl h3 ?_ hro
 simp only [ntmps263, List.size_toArray, List.length_cons, List.length_nil, Nat.reduceAdd, Nat.reduceSub, Array.replicate_succ, Array.replicate_zero, List.push_toArray, List.append_toArray, List.nil_append, List.cons_append]
 gi_wp2
 have bO := Boxed.new w 24 (.slice none 0 0)
 have hB0 : Below w.heap.size w (w.alloc (.cells #[.slice none 0 0] 24)) := (Below.refl _ w).alloc (Nat.le_refl _) _
 refine wpIn_rangeFunc_ownG hro h1 (gf := 242) (lb := #[.pointer (some ⟨Bs, 0, none⟩)]) rfl h7 (enters_of func242 (by kernel_rfl) rfl)
  (warx F (n - 1) h7 hro (by omega) Bs w.heap.size a cap zs hreach (w.alloc (.cells #[.slice none 0 0] 24)) (by simp; omega) (by simp) ((hB0.cell (p := ⟨Bs, 0, none⟩) hBs).trans hc) (hI.below hB0)) belowK_t (belowK_b (by simp)) (Below.refl _ _) (fun _ => rfl)
  (fun (pre : List Int) W => (∃ v, Boxed W w.heap.size 24 v ∧ W.ownsRow w.heap.size 3 1 v pre.length (pre.map (Value.int .i64)) ∧ True) ∧ Below w.heap.size w W)
  (fun _ _ _ => False)
  (OwnFrom.and (Own.from (holdsRow_own w.heap.size w.heap.size 24 3 1 (fun pre : List Int => pre.length) (fun pre : List Int => pre.map (Value.int .i64)) (fun _ _ => True)) _) (ownFrom_below (Nat.le_refl _) (by simp)))
  (fun _ _ _ _ _ hs _ _ => hs)
  ⟨⟨_, bO, World.ownsRow_nil _ _ _ _, trivial⟩, hB0⟩
  (fun x => { tmps := #[.slice none 0 0, .func (.func 242) #[] #[.pointer (some ⟨Bs, 0, none⟩)], .pointer (some ⟨w.heap.size, 0, none⟩), undef, .slice none 0 0, .int .i64 x, .func (.func 242) #[] #[.pointer (some ⟨Bs, 0, none⟩)], .int .i64 x, undef, undef, undef, undef, undef], defers := [] }) ?assign ?body ?done ?stop
 case assign =>
  intro l x W K hK
  gi_wp2
  exact hK
 case body =>
  rintro l pre x W ⟨⟨v, hv, hrow, _⟩, hB⟩ hlt
  have hc := hv.cell
  gi_wp2_with (gi_at_builtin; refine wpListIn_append_own _ rfl _ _ 24 rfl w.heap.size 3 i0 (.int .i64 0) 1 8 undS hi hz0 hz1 hz2 rfl (by decide) _ _ _ rfl (hrow.alloc _) ⟨W.heap.size, 0, none⟩ 1 1 [.int .i64 x] rfl rfl (cell_one_new _ _ _) (by simp [Value.oneCell']) (by have : maxLen = 9223372036854775807 := rfl; omega) (by omega) (by have := hB.size; simp; omega) ?_; intro v' w1 hown' hgrow _; obtain ⟨g', cap', rfl⟩ := ownsRow_succ hown'; obtain ⟨hv1, hv2, hr2, hk2, hb2⟩ := hv.appended (by decide) hrow hB.size (Nat.le_refl _) hown' hgrow; have hc1 := hv1.cell; have hf1 := hv1.frozen)
  exact ⟨hk2.from _, hb2, ⟨_, hv2, by simpa using hr2, trivial⟩, hB.trans hb2⟩
 case done =>
  rintro D ys W hD rfl ⟨⟨v, hv, hrow, _⟩, hB⟩ hK
  have hc := hv.cell
  gi_wp2
  refine ⟨by simp, .inl ⟨_, _, rfl, run_takeDeferred hK, ?_⟩⟩
  exact ⟨_, results_tmp rfl _ _ _, v, rfl, ownsRow_putObj hrow _ hK rfl, hB.trans (belowK_b (w := w) (Nat.le_refl _) W D _ _ (by simp at hD; omega) hK rfl rfl)⟩
 case stop =>
  rintro D c pre W _ _ h _
  exact h.elim
set_option maxHeartbeats 1000000 in
theorem wxg (F : Fence) (n : Nat) (h8 : F.fn 240) (h3 : F.fn 263) (h7 : F.fn 242) (hro : F.round = none) (hn : 4 ≤ n) (Bs : Nat) (a : Option Addr) (cap : Nat) (zs : List Int) (hreach : zs.length * 8 ≤ 140737488351232) (w : World) (hBs : Bs < w.heap.size)
  (hc : w.cell? ⟨Bs, 0, none⟩ = some (.slice a zs.length cap)) (hI : Nums w.heap.size w a zs) :
  CallsIn F n prog 240 #[.func (.func 242) #[] #[.pointer (some ⟨Bs, 0, none⟩)]] w fun e W' => ∃ v, e = .returned v ∧ W'.ownsRow w.heap.size 3 1 v zs.length (zs.map (Value.int .i64)) ∧ Below w.heap.size w W' := by
 have h1 : 1 ≤ n := by omega
 refine callsIn_of_wp func240 rfl h8 ?_ hro
 simp only [ntmps240, List.size_toArray, List.length_cons, List.length_nil, Nat.reduceAdd, Nat.reduceSub, Array.replicate_succ, Array.replicate_zero, List.push_toArray, List.append_toArray, List.nil_append, List.cons_append]
 gi_wp2_with (gi_at_call 263; refine (wqu F (n - 1) h3 h7 hro (by omega) Bs a cap zs hreach w hBs hc hI).mono ?_; rintro e w' ⟨v, rfl, hrow, hb⟩)
 go_ret
 exact ⟨v, rfl, hrow, hb⟩
theorem wuk {S : Nat → Prop} {w : World} : ∀ l : List Int, RepL S w (.int .i64) l (l.map (Value.int .i64))
 | [] => rfl
 | x :: l => ⟨[.int .i64 x], l.map (Value.int .i64), rfl, rfl, wuk l⟩
theorem wbbt [Tabs] {P : Program} {X lo : Nat → Prop} {w w' : World} {μi : Nat → Option MV} {e : Nat} {l : List Int} {v : Value} (ho : w'.ownsRow w.heap.size e 1 v l.length (l.map (Value.int .i64))) (hk : Kept lo w w') (hX : ∀ b, X b → lo b) (hlo : ∀ b, lo b → b < w.heap.size)
  (htab : TabsOK w lo) : waer P X lo w w' μi ([.arr 0], [(0, .arr e (.int .i64) l)]) v := by
 obtain ⟨a, n, c, rfl⟩ : ∃ a n c, v = .slice a n c := by
  rcases ho.2 with ⟨e, _⟩ | ⟨_, _, _, e, _⟩
  ·exact ⟨_, _, _, e⟩
  ·exact ⟨_, _, _, e⟩
 refine ⟨hk, again (fun _ => none) 0 ⟨.slice a n c, (wz (.slice a n c)).toList, []⟩, ⟨hX, fun b hb => Nat.lt_of_lt_of_le (hlo b hb) hk.size, fun o mv h => ?_, fun o p mv mv' b h1 h2 _ _ => ?_, htab.step hk.block⟩, fun o mv h => ?_, fun p hp hge => ?_, .inl ⟨_, rfl, .arr (rs := (wz (.slice a n c)).toList) (hs := []) wat⟩⟩
 ·rcases waf h with ⟨rfl, rfl⟩ | ⟨_, h⟩
  ·refine ⟨_, rfl, ⟨rfl, rfl⟩, fun b hb hl => ?_, l.map (Value.int .i64), ⟨ho.1, ?_⟩, wuk l⟩
   ·rcases ho.2 with ⟨e1, _⟩ | ⟨gb, cap, cur, e1, h1, _⟩
    ·rw [e1] at hb; simp [wz] at hb
    ·rw [e1] at hb
     simp only [wz, Option.some.injEq] at hb
     have := hlo b hl
     omega
   ·rcases ho.2 with h | ⟨gb, cap, cur, e1, h1, h2⟩
    ·exact .inl h
    ·exact .inr ⟨gb, cap, cur, e1, Nat.zero_le _, h2⟩
  ·cases h
 ·rcases waf h1 with ⟨rfl, rfl⟩ | ⟨_, h1⟩
  ·rcases waf h2 with ⟨rfl, rfl⟩ | ⟨_, h2⟩
   ·rfl
   ·cases h2
  ·cases h1
 ·rcases waf h with ⟨rfl, rfl⟩ | ⟨_, h⟩
  ·exact ⟨_, List.mem_singleton.2 rfl, rfl⟩
  ·cases h
 ·rw [List.mem_singleton.1 hp] at hge
  exact absurd hge (by simp)
theorem wary [Tabs] {P : Program} {X lo : Nat → Prop} {w w' : World} {μi : Nat → Option MV} {t : Ty} {v : t.I} {x : Value} (ht : t.size = 1) (hr : Rep (SS X fun _ => none) w' t v [x]) (hk : Kept lo w w') (hX : ∀ b, X b → lo b) (hlo : ∀ b, lo b → b < w.heap.size)
  (htab : TabsOK w lo) : waer P X lo w w' μi ([.dat t v], []) x :=
 ⟨hk, fun _ => none, ⟨hX, fun b hb => Nat.lt_of_lt_of_le (hlo b hb) hk.size, fun o mv h => (by cases h), fun o p mv mv' b h => (by cases h), htab.step hk.block⟩, fun o mv h => (by cases h), fun p hp => (by cases hp), .inl ⟨_, rfl, .dat ht hr⟩⟩
def waap : FD where
 A := .cons (.dat (.slice (.int .i64))) .nil
 ins := []
 lend := []
 R := List Int
 F := fun x => some x.1.1
 emb := fun r => ([.dat (.seq 242) r], [])
theorem wxh : wav prog (204, waap) := by
 intro x r hr w X μi vals hX hm hins hsz hv
 obtain ⟨⟨l, u⟩, v⟩ := x
 have e : l = r := Option.some.inj hr
 subst e
 obtain ⟨x, rfl, h1⟩ := wbni (v := .dat (.slice (.int .i64)) l) hsz hv
 have hb : f204.body.isSome = true := by kernel_rfl
 obtain ⟨c, hc⟩ := Option.isSome_iff_exists.1 hb
 have hrep : Rep (SS X μi) w (.slice (.int .i64)) l [x] := by
  cases h1 with | dat _ hr => exact hr
 simp only [Rep] at hrep
 obtain ⟨a, cap, e, hcap, hel⟩ := hrep
 simp only [List.cons.injEq, and_true] at e
 subst e
 refine .inl ⟨wjf func204 (by kernel_rfl) hc _ w, ?_⟩
 refine ((wbnj Fence.wide 1 trivial rfl a l.length cap w).calls (fun _ _ h => by cases h)).mono fun e w' ⟨he, hw⟩ => ⟨_, he, ?_⟩
 subst hw
 have hB : Below w.heap.size w (w.alloc (.cells #[.slice a l.length cap] 24)) := (Below.refl _ w).alloc (Nat.le_refl _) _
 refine wary rfl ?_ (Kept.of hB hm.hlo) hX hm.hlo hm.tab
 simp only [Rep]
 refine ⟨w.heap.size, a, cap, rfl, ⟨fun hx => ?_, fun o mv h => by cases h⟩, (Boxed.new w 24 (.slice a l.length cap)).cell, hcap, fun i x hx => ?_⟩
 ·have := hm.hlo _ (hX _ hx)
  omega
 ·obtain ⟨b, off, c', ea, hS, hr, hcc⟩ := hel i x hx
  subst hr
  have h2 := hcc 0 _ rfl
  simp only [Ty.size, Nat.mul_one, Nat.add_zero] at h2
  exact ⟨b, off, ea, ⟨hS.1, fun o mv h => by cases h⟩, (hB.cell (p := ⟨b, off + i, none⟩) (block_lt_of_cell h2)).trans h2⟩
def wgw (l : List Int) : Option (List Int) := if l.length * 8 ≤ 140737488351232 then some l else none
def wul : FD where
 A := .cons (.dat (.seq 242)) .nil
 ins := []
 lend := []
 R := List Int
 F := fun x => wgw x.1.1
 emb := fun r => ([.arr 0], [(0, .arr 3 (.int .i64) r)])
theorem wum : wav prog (240, wul) := by
 intro x r hr w X μi vals hX hm hins hsz hv
 obtain ⟨⟨l, u⟩, v⟩ := x
 have hr' : wgw l = some r := hr
 unfold wgw at hr'
 split at hr'
 next hin =>
  have e : l = r := Option.some.inj hr'
  subst e
  obtain ⟨x, rfl, h1⟩ := wbni (v := .dat (.seq 242) l) hsz hv
  have hb : f240.body.isSome = true := by kernel_rfl
  obtain ⟨c, hc⟩ := Option.isSome_iff_exists.1 hb
  have hrep : Rep (SS X μi) w (.seq 242) l [x] := by
   cases h1 with | dat _ hr => exact hr
  simp only [Rep] at hrep
  obtain ⟨b, a, cap, e, hS, hbx, hcap, hel⟩ := hrep
  simp only [List.cons.injEq, and_true] at e
  subst e
  refine .inl ⟨wjf func240 (by kernel_rfl) hc _ w, ?_⟩
  have hI : Nums w.heap.size w a l := fun i x hx => by
   obtain ⟨b', off, ea, _, hcc⟩ := hel i x hx
   exact ⟨b', off, ea, block_lt_of_cell hcc, hcc⟩
  refine ((wxg Fence.wide 4 trivial trivial trivial rfl (Nat.le_refl _) b a cap l hin w (block_lt_of_cell hbx) hbx hI).calls (fun _ _ h => by cases h)).mono fun e w' ⟨v', he, ho, hb'⟩ => ⟨_, he, ?_⟩
  exact wbbt ho (Kept.of hb' hm.hlo) hX hm.hlo hm.tab
 next => cases hr'
end Go.Proofs.YtnagpmhaddfgmaaGreat
