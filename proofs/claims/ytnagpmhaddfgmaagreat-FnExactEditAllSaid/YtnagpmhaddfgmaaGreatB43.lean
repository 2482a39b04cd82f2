/-
 slices.Delete at []int and at [][]int, walked: what is behind moves ahead, in the caller's own array.
-/
import Derived.Test.YtnagpmhaddfgmaaGreatB31
import Derived.Test.YtnagpmhaddfgmaaGreatProg
import Derived.Shelf.RegionOpenPlain
import Derived.WalkKit
import Derived.Deep.LoopGhost
import Derived.Deep.RegionLaw
import Derived.Lib.Walk
import Derived.Sort.WalkB12
import Derived.Lib.SliceRun
import Derived.Lib.SlicesDelete
namespace Go.Proofs.YtnagpmhaddfgmaaGreat
open Go.RowKit Go.Lib Go.Sort
open Go.Proofs.Tryz
theorem info_at {P : Program} {t n : Nat} (h : (P.info? t).map (·.size) = some n) : ∃ i, P.info? t = some i ∧ i.size = n := by
 obtain ⟨i, h1, h2⟩ := Option.map_eq_some_iff.1 h
 exact ⟨i, h1, h2⟩
set_option maxHeartbeats 4000000 in
set_option maxRecDepth 1000000 in
theorem del_runI (blk cap i j : Nat) (d : Array Value) (w : World) (hH : Holds id w blk 0 d) (ho : ∀ u ∈ d.toList, u.oneCell' = true) (hcap : d.size ≤ cap) (hm : cap ≤ 9223372036854775807) (hij : i < j) (hj : j ≤ d.size) :
  Calls prog 147 #[.slice (some ⟨blk, 0, none⟩) d.size cap, .int .i64 i, .int .i64 j] w fun e w' => e = .returned (.slice (some ⟨blk, 0, none⟩) (d.size - (j - i)) cap) ∧ ∃ q, w' = putRow id (Sort.ahead w q) blk 0 (d.toList.take i ++ d.toList.drop j ++ List.replicate (j - i) (Value.int .i64 0)).toArray := by
 have mixed : prog.follows .mixedOrders = true := by kernel_rfl
 obtain ⟨i0, hi0, hz1⟩ := info_at (P := prog) (t := 3) (n := 1) (by kernel_rfl)
 obtain ⟨news, hnews⟩ : ∃ news, news = d.toList.drop j := ⟨_, rfl⟩
 have hlen : news.length = d.size - j := by rw [hnews]; simp
 have hget : ∀ t, t < d.size - j → news[t]? = some d[j + t]! := by
  intro t ht
  rw [hnews, List.getElem?_drop, Array.getElem?_toList, getElem!_pos d (j + t) (by omega), Array.getElem?_eq_getElem (by omega)]
 obtain ⟨A, hA, hsrc⟩ : ∃ A : Addr, (if cap = j then some (⟨blk, 0, none⟩ : Addr) else some ⟨blk, j, none⟩) = some A ∧ Hid (∀ t u, news[t]? = some u → w.drew.cell? (A.add t) = some u) := by
  by_cases h : cap = j
  ·refine ⟨⟨blk, 0, none⟩, by simp [h], fun t u hu => ?_⟩
   have h0 : news.length = 0 := by rw [hlen]; omega
   rw [List.length_eq_zero_iff.1 h0] at hu
   simp at hu
  ·refine ⟨⟨blk, j, none⟩, by simp [h], fun t u hu => ?_⟩
   have ht : t < d.size - j := by
    have := (List.getElem?_eq_some_iff.1 hu).1
    rwa [hlen] at this
   rw [hget t ht] at hu
   rw [Addr.add_lit, show j + t = 0 + (j + t) by omega]
   exact (hH (j + t) (by omega)).1.trans hu
 have s1 : Hid (news.length = (d.size - j) * 1) := by rw [Nat.mul_one]; exact hlen
 have s2 : Hid (∀ u ∈ news, u.oneCell' = true) := fun u hu => ho u (List.mem_of_mem_drop (hnews ▸ hu))
 have s3 : Hid (∀ t, t < news.length → (w.drew.cell? ⟨blk, 0 + i * 1 + t, none⟩).isSome = true ∧ w.drew.frozen? ⟨blk, 0 + i * 1 + t, none⟩ = false) := by
  intro t ht
  rw [hlen] at ht
  rw [Nat.mul_one, Nat.add_assoc]
  exact ⟨by show (w.cell? _).isSome = true; rw [(hH (i + t) (by omega)).1]; rfl, (hH (i + t) (by omega)).2⟩
 obtain ⟨W1, hW1⟩ : ∃ W1, W1 = w.drew.setCells blk (0 + i * 1) news := ⟨_, rfl⟩
 have hW1' : W1 = putRow id (Sort.ahead w 1) blk 0 (lay d i (d.toList.drop j)) := by
  have e := putRow_setCells id (Sort.ahead w 1) blk 0 (d.toList.drop j) d i (by simp; omega)
  rw [List.map_id, putRow_self id (Sort.ahead w 1) blk 0 d (holds_ahead id w 1 blk 0 d hH)] at e
  rw [hW1, hnews, Nat.mul_one, ← e]
  rfl
 have hH1 : Holds id W1 blk 0 (lay d i (d.toList.drop j)) := by rw [hW1']; exact holds_putRow id _ blk 0 d _ (holds_ahead id w 1 blk 0 d hH) (lay_size _ _ _)
 have hcl : ∀ ty, (Builtin.clear_ #[24] ty #[.slice (some ⟨blk, i + (d.size - j), none⟩) (d.size - (i + (d.size - j))) (cap - (i + (d.size - j)))]).run prog W1 = .ok (.tuple #[]) (W1.setCells blk (i + (d.size - j)) (List.replicate (d.size - (i + (d.size - j))) (Value.int .i64 0))) :=
  fun ty => Lib.run_clear_slice W1 _ _ ty _ underlying24 zeroValue3 rfl rfl blk (i + (d.size - j)) _ _ (by omega) (fun t ht => by rw [show i + (d.size - j) + t = 0 + (i + (d.size - j) + t) by omega, (hH1 _ (by rw [lay_size]; omega)).1]; rfl) (fun t ht => by rw [show i + (d.size - j) + t = 0 + (i + (d.size - j) + t) by omega]; exact (hH1 _ (by rw [lay_size]; omega)).2)
 have X : Aside (W1 = putRow id (Sort.ahead w 1) blk 0 (lay d i (d.toList.drop j))) := hW1'
 have hW : Hid (W1 = w.drew.setCells blk (0 + i * 1) news) := hW1
 have hic : i ≤ cap := by omega
 have hjc : j ≤ cap := by omega
 clear hW1 hW1' hH1 hH hget hnews hlen ho
 go_enter func147, (show (f147).ntmps = 33 from by kernel_rfl)
 go_wp2_with fail
 go_region_law_o (refine step_append_room rfl (.tmp 22) (.tmp 25) 24 rfl 3 i0 1 underlying24 hi0 hz1 blk 0 i cap (by simp [Act.eval, Act.put]) A (d.size - j) (cap - j) news (by simp [Act.eval, Act.put]) s1.out hsrc.out s2.out (by omega) s3.out ?_; rw [← hW.out])
 go_wp2
 go_ret
 refine ⟨by rw [show d.size - (j - i) = i + (d.size - j) by omega]; rfl, 1, ?_⟩
 have e := putRow_setCells id (Sort.ahead w 1) blk 0 (List.replicate (d.size - (i + (d.size - j))) (Value.int .i64 0)) (lay d i (d.toList.drop j)) (i + (d.size - j)) (by rw [lay_size]; simp; omega)
 rw [List.map_id, ← X.out, Nat.zero_add] at e
 rw [← delete_arr d i j (Value.int .i64 0) (by omega) hj, show j - i = d.size - (i + (d.size - j)) by omega]
 exact e
set_option maxHeartbeats 4000000 in
set_option maxRecDepth 1000000 in
theorem del_runR (blk cap i j : Nat) (d : Array Value) (w : World) (hH : Holds id w blk 0 d) (ho : ∀ u ∈ d.toList, u.oneCell' = true) (hcap : d.size ≤ cap) (hm : cap ≤ 9223372036854775807) (hij : i < j) (hj : j ≤ d.size) :
  Calls prog 148 #[.slice (some ⟨blk, 0, none⟩) d.size cap, .int .i64 i, .int .i64 j] w fun e w' => e = .returned (.slice (some ⟨blk, 0, none⟩) (d.size - (j - i)) cap) ∧ ∃ q, w' = putRow id (Sort.ahead w q) blk 0 (d.toList.take i ++ d.toList.drop j ++ List.replicate (j - i) (Value.slice none 0 0)).toArray := by
 have mixed : prog.follows .mixedOrders = true := by kernel_rfl
 obtain ⟨i0, hi0, hz1⟩ := info_at (P := prog) (t := 24) (n := 1) (by kernel_rfl)
 obtain ⟨news, hnews⟩ : ∃ news, news = d.toList.drop j := ⟨_, rfl⟩
 have hlen : news.length = d.size - j := by rw [hnews]; simp
 have hget : ∀ t, t < d.size - j → news[t]? = some d[j + t]! := by
  intro t ht
  rw [hnews, List.getElem?_drop, Array.getElem?_toList, getElem!_pos d (j + t) (by omega), Array.getElem?_eq_getElem (by omega)]
 obtain ⟨A, hA, hsrc⟩ : ∃ A : Addr, (if cap = j then some (⟨blk, 0, none⟩ : Addr) else some ⟨blk, j, none⟩) = some A ∧ Hid (∀ t u, news[t]? = some u → w.drew.cell? (A.add t) = some u) := by
  by_cases h : cap = j
  ·refine ⟨⟨blk, 0, none⟩, by simp [h], fun t u hu => ?_⟩
   have h0 : news.length = 0 := by rw [hlen]; omega
   rw [List.length_eq_zero_iff.1 h0] at hu
   simp at hu
  ·refine ⟨⟨blk, j, none⟩, by simp [h], fun t u hu => ?_⟩
   have ht : t < d.size - j := by
    have := (List.getElem?_eq_some_iff.1 hu).1
    rwa [hlen] at this
   rw [hget t ht] at hu
   rw [Addr.add_lit, show j + t = 0 + (j + t) by omega]
   exact (hH (j + t) (by omega)).1.trans hu
 have s1 : Hid (news.length = (d.size - j) * 1) := by rw [Nat.mul_one]; exact hlen
 have s2 : Hid (∀ u ∈ news, u.oneCell' = true) := fun u hu => ho u (List.mem_of_mem_drop (hnews ▸ hu))
 have s3 : Hid (∀ t, t < news.length → (w.drew.cell? ⟨blk, 0 + i * 1 + t, none⟩).isSome = true ∧ w.drew.frozen? ⟨blk, 0 + i * 1 + t, none⟩ = false) := by
  intro t ht
  rw [hlen] at ht
  rw [Nat.mul_one, Nat.add_assoc]
  exact ⟨by show (w.cell? _).isSome = true; rw [(hH (i + t) (by omega)).1]; rfl, (hH (i + t) (by omega)).2⟩
 obtain ⟨W1, hW1⟩ : ∃ W1, W1 = w.drew.setCells blk (0 + i * 1) news := ⟨_, rfl⟩
 have hW1' : W1 = putRow id (Sort.ahead w 1) blk 0 (lay d i (d.toList.drop j)) := by
  have e := putRow_setCells id (Sort.ahead w 1) blk 0 (d.toList.drop j) d i (by simp; omega)
  rw [List.map_id, putRow_self id (Sort.ahead w 1) blk 0 d (holds_ahead id w 1 blk 0 d hH)] at e
  rw [hW1, hnews, Nat.mul_one, ← e]
  rfl
 have hH1 : Holds id W1 blk 0 (lay d i (d.toList.drop j)) := by rw [hW1']; exact holds_putRow id _ blk 0 d _ (holds_ahead id w 1 blk 0 d hH) (lay_size _ _ _)
 have hcl : ∀ ty, (Builtin.clear_ #[25] ty #[.slice (some ⟨blk, i + (d.size - j), none⟩) (d.size - (i + (d.size - j))) (cap - (i + (d.size - j)))]).run prog W1 = .ok (.tuple #[]) (W1.setCells blk (i + (d.size - j)) (List.replicate (d.size - (i + (d.size - j))) (Value.slice none 0 0))) :=
  fun ty => Lib.run_clear_slice W1 _ _ ty _ underlying25 zeroValue24 rfl rfl blk (i + (d.size - j)) _ _ (by omega) (fun t ht => by rw [show i + (d.size - j) + t = 0 + (i + (d.size - j) + t) by omega, (hH1 _ (by rw [lay_size]; omega)).1]; rfl) (fun t ht => by rw [show i + (d.size - j) + t = 0 + (i + (d.size - j) + t) by omega]; exact (hH1 _ (by rw [lay_size]; omega)).2)
 have X : Aside (W1 = putRow id (Sort.ahead w 1) blk 0 (lay d i (d.toList.drop j))) := hW1'
 have hW : Hid (W1 = w.drew.setCells blk (0 + i * 1) news) := hW1
 have hic : i ≤ cap := by omega
 have hjc : j ≤ cap := by omega
 clear hW1 hW1' hH1 hH hget hnews hlen ho
 go_enter func148, (show (f148).ntmps = 33 from by kernel_rfl)
 go_wp2_with fail
 go_region_law_o (refine step_append_room rfl (.tmp 22) (.tmp 25) 25 rfl 24 i0 1 underlying25 hi0 hz1 blk 0 i cap (by simp [Act.eval, Act.put]) A (d.size - j) (cap - j) news (by simp [Act.eval, Act.put]) s1.out hsrc.out s2.out (by omega) s3.out ?_; rw [← hW.out])
 go_wp2
 go_ret
 refine ⟨by rw [show d.size - (j - i) = i + (d.size - j) by omega]; rfl, 1, ?_⟩
 have e := putRow_setCells id (Sort.ahead w 1) blk 0 (List.replicate (d.size - (i + (d.size - j))) (Value.slice none 0 0)) (lay d i (d.toList.drop j)) (i + (d.size - j)) (by rw [lay_size]; simp; omega)
 rw [List.map_id, ← X.out, Nat.zero_add] at e
 rw [← delete_arr d i j (Value.slice none 0 0) (by omega) hj, show j - i = d.size - (i + (d.size - j)) by omega]
 exact e
theorem putRow_heap {w : World} {b q : Nat} {cur : Array Value} {e : Nat} {fr : Nat × Nat} (hb : w.heap[b]? = some (.cells cur e fr)) {d : Array Value} (hd : d.size ≤ cur.size) :
  (putRow id (Sort.ahead w q) b 0 d).heap[b]? = some (.cells (Sort.putCells id 0 d cur) e fr) ∧ (∀ k, k ≠ b → (putRow id (Sort.ahead w q) b 0 d).heap[k]? = w.heap[k]?) ∧ (putRow id (Sort.ahead w q) b 0 d).heap.size = w.heap.size ∧
  (Sort.putCells id 0 d cur).size = cur.size ∧ (Sort.putCells id 0 d cur).toList.take d.size = d.toList := by
 have hah : (Sort.ahead w q).heap = w.heap := rfl
 refine ⟨?_, fun k hk => ?_, by rw [size_putRow]; rfl, by simp [Sort.putCells], ?_⟩
 ·simp [putRow, mapBlock, Array.getElem?_modify, hah, hb, onCells]
 ·simp only [putRow, mapBlock, Array.getElem?_modify, hah, if_neg (Ne.symm hk)]
 ·apply List.ext_getElem?
  intro k
  rw [List.getElem?_take]
  split
  next hk =>
   rw [Array.getElem?_toList, Array.getElem?_toList, Sort.putCells, Array.getElem?_mapIdx, Array.getElem?_eq_getElem (show k < cur.size by omega), Option.map_some, if_pos ⟨Nat.zero_le _, by omega⟩, Nat.sub_zero, getElem!_pos d k hk, Array.getElem?_eq_getElem hk]
   rfl
  next hk => rw [Array.getElem?_toList, Array.getElem?_eq_none (by omega)]
theorem args3 {R : AV → Value → Prop} {v u t : AV} {vals : Array Value} (h1 : List.length [v, u, t] = vals.size) (h2 : ∀ j z, nth [v, u, t] j = some z → R z (vals.getD j undef)) : ∃ x y z, vals = #[x, y, z] ∧ R v x ∧ R u y ∧ R t z := by
 have : vals.size = 3 := by simpa using h1.symm
 refine ⟨vals.getD 0 undef, vals.getD 1 undef, vals.getD 2 undef, ?_, h2 0 v rfl, h2 1 u rfl, h2 2 t rfl⟩
 apply Array.ext
 ·simpa using this
 ·intro i hi hi2
  have : i = 0 ∨ i = 1 ∨ i = 2 := by simp at hi2; omega
  rcases this with rfl | rfl | rfl <;> simp [Array.getD, hi]
def delM (μi : Nat → Option MV) (m : MV) (o : Nat) : Option MV := match o with
 | 0 => some m
 | o => if o = 64 then (μi 64).map fun mv => ⟨mv.v, [], []⟩ else none
theorem delM_inv {μi : Nat → Option MV} {m mv : MV} {o : Nat} (h : delM μi m o = some mv) : (o = 0 ∧ mv = m) ∨ (o = 64 ∧ ∃ mv0, μi 64 = some mv0 ∧ mv = ⟨mv0.v, [], []⟩) := by
 unfold delM at h
 split at h
 ·exact .inl ⟨rfl, (Option.some.inj h).symm⟩
 ·split at h
  next e =>
   obtain ⟨mv0, h1, h2⟩ := Option.map_eq_some_iff.1 h
   exact .inr ⟨e, mv0, h1, h2.symm⟩
  next => cases h
theorem del_res [Tabs] {P : Program} {X : Nat → Prop} {w w' : World} {μi : Nat → Option MV} {m m0 : MV} {x : Ob} {a : Option Addr} {n c : Nat} (hX : ∀ b, X b → old w μi b) (htab : TabsOK w (old w μi)) (hk : Kept (old w μi) w w') (h64 : μi 64 = some m0)
  (hv : m.v = .slice a n c) (ho : ∀ S' : Nat → Prop, (∀ b, SS X μi b → b < w.heap.size → S' b) → ObOK P w' (old w μi) (delM μi m) S' x m) (hr : m.rs = m0.rs) : ResOK P X (old w μi) w w' μi ([.arr 0], [(0, x), (64, .spent)]) (.slice a n c) := by
 refine ⟨hk, delM μi m, ⟨hX, fun b hb => Nat.lt_of_lt_of_le hb.1 hk.size, fun o mv h => ?_, fun o p mv mv' b h1 h2 k1 k2 => ?_, htab.step hk.block⟩, fun o mv h => ?_, fun p hp hge => ?_, .inl ⟨_, rfl, ?_⟩⟩
 ·rcases delM_inv h with ⟨rfl, rfl⟩ | ⟨rfl, mv0, h1, rfl⟩
  ·refine ⟨x, rfl, ho _ fun b hs _ => ⟨hs.1, fun o mv h => ?_⟩⟩
   rcases delM_inv h with ⟨rfl, rfl⟩ | ⟨rfl, mv0, h1, rfl⟩
   ·rw [hr]; exact hs.2 64 _ h64
   ·simp
  ·exact ⟨.spent, rfl, rfl, fun b hb => by cases hb⟩
 ·rcases delM_inv h1 with ⟨rfl, rfl⟩ | ⟨rfl, mv0, _, rfl⟩
  ·rcases delM_inv h2 with ⟨rfl, rfl⟩ | ⟨rfl, mv0, _, rfl⟩
   ·rfl
   ·cases k2
  ·cases k1
 ·rcases delM_inv h with ⟨rfl, rfl⟩ | ⟨rfl, _⟩
  ·exact ⟨(0, x), by simp, rfl⟩
  ·exact ⟨(64, .spent), by simp, rfl⟩
 ·rcases List.mem_cons.1 hp with rfl | hp
  ·exact absurd hge (by simp)
  ·rw [List.mem_singleton.1 hp]
   refine ⟨m0, [], [], h64, ?_⟩
   show (if (64 : Nat) = 64 then (μi 64).map fun mv => (⟨mv.v, [], []⟩ : MV) else none) = _
   rw [if_pos rfl, h64]
   rfl
 ·exact .arr (rs := m.rs) (hs := m.hs) (by show some m = _; rw [← hv])
theorem RepL.take [Tabs] {S : Nat → Prop} {w : World} {t : Ty} (ht : t.size = 1) : ∀ {l : List t.I} {cs : List Value} (i : Nat), RepL S w t l cs → RepL S w t (l.take i) (cs.take i)
 | [], cs, i, h => by
  have : cs = [] := h
  subst this
  simp only [List.take_nil]
  exact (rfl : ([] : List Value) = [])
 | x :: l, cs, 0, h => (rfl : ([] : List Value) = [])
 | x :: l, cs, i + 1, h => by
  obtain ⟨c, r, rfl, h1, h2⟩ := h
  have hc := h1.len
  rw [ht] at hc
  obtain ⟨u, rfl⟩ := List.length_eq_one_iff.1 hc
  exact ⟨[u], r.take i, rfl, h1, RepL.take ht i h2⟩
theorem RepL.drop [Tabs] {S : Nat → Prop} {w : World} {t : Ty} (ht : t.size = 1) : ∀ {l : List t.I} {cs : List Value} (i : Nat), RepL S w t l cs → RepL S w t (l.drop i) (cs.drop i)
 | [], cs, i, h => by
  have : cs = [] := h
  subst this
  simp only [List.drop_nil]
  exact (rfl : ([] : List Value) = [])
 | x :: l, cs, 0, h => h
 | x :: l, cs, i + 1, h => by
  obtain ⟨c, r, rfl, h1, h2⟩ := h
  have hc := h1.len
  rw [ht] at hc
  obtain ⟨u, rfl⟩ := List.length_eq_one_iff.1 hc
  exact RepL.drop ht i h2
def delF {α : Type} (i j : Int) (l : List α) : Option (List α) := if 0 ≤ i ∧ i < j ∧ j ≤ (l.length : Int) then some (l.take i.toNat ++ l.drop j.toNat) else none
def fdDelI : FD where
 A := .cons (.arr 64) (.cons (.dat (.int .i64)) (.cons (.dat (.int .i64)) .nil))
 ins := [(64, .arr 3 (.int .i64))]
 lend := [.arg 0]
 R := List Int
 F := fun x => delF x.1.2.1 x.1.2.2.1 x.2.1
 emb := fun r => ([.arr 0], [(0, .arr 3 (.int .i64) r), (64, .spent)])
def fdDelR : FD where
 A := .cons (.arr 64) (.cons (.dat (.int .i64)) (.cons (.dat (.int .i64)) .nil))
 ins := [(64, .rows 24 3 (.int .i64))]
 lend := [.arg 0]
 R := List (List Int)
 F := fun x => delF x.1.2.1 x.1.2.2.1 x.2.1
 emb := fun r => ([.arr 0], [(0, .rows 24 3 (.int .i64) r none), (64, .spent)])
theorem del_block {w : World} {b cap n i j q : Nat} {cur : Array Value} {e : Nat} {xs : List Value} (hg : w.heap[b]? = some (.cells cur e (0, 0))) (hn : n ≤ cap) (hcs : cur.size = cap) (hx : cur.toList.take n = xs) (hij : i < j) (hj : j ≤ n) (z : Value) :
  Holds id w b 0 xs.toArray ∧ xs.length = n ∧ ∀ w', w' = putRow id (Sort.ahead w q) b 0 (xs.take i ++ xs.drop j ++ List.replicate (j - i) z).toArray →
   (∃ cur', w'.heap[b]? = some (.cells cur' e (0, 0)) ∧ cur'.size = cap ∧ cur'.toList.take (n - (j - i)) = xs.take i ++ xs.drop j) ∧ (∀ k, k ≠ b → w'.heap[k]? = w.heap[k]?) ∧ w'.heap.size = w.heap.size := by
 have hl : xs.length = n := by rw [← hx]; simp; omega
 refine ⟨fun t ht => ?_, hl, fun w' hw => ?_⟩
 ·have ht' : t < n := by simpa [hl] using ht
  have e1 : (xs.toArray)[t]! = cur[t]'(by omega) := by
   rw [getElem!_pos xs.toArray t ht]
   simp [← hx]
  refine ⟨?_, ?_⟩
  ·rw [e1]
   simp [World.cell?, hg, Array.getElem?_eq_getElem (show 0 + t < cur.size by omega)]
  ·simp [World.frozen?, hg]
 ·have hsz : (xs.take i ++ xs.drop j ++ List.replicate (j - i) z).toArray.size = n := by simp; omega
  obtain ⟨h1, h2, h3, h4, h5⟩ := putRow_heap (q := q) hg (d := (xs.take i ++ xs.drop j ++ List.replicate (j - i) z).toArray) (by omega)
  subst hw
  refine ⟨⟨_, h1, by omega, ?_⟩, h2, h3⟩
  have h6 := congrArg (List.take (n - (j - i))) h5
  rw [hsz, List.take_take, Nat.min_eq_left (by omega)] at h6
  rw [h6]
  simp only [List.toList_toArray]
  rw [List.take_append_of_le_length (by simp; omega), List.take_of_length_le (by simp; omega)]
theorem cut_get {α : Type} (l : List α) {i j : Nat} (n : Nat) (hi : i ≤ l.length) : (l.take i ++ l.drop j)[n]? = l[if n < i then n else j + (n - i)]? := by
 have hlt : (l.take i).length = i := by rw [List.length_take]; omega
 by_cases hn : n < i
 ·rw [List.getElem?_append_left (by omega), List.getElem?_take_of_lt hn, if_pos hn]
 ·rw [List.getElem?_append_right (by omega), hlt, List.getElem?_drop, if_neg hn]
theorem hand_delI : FDok prog (147, fdDelI) := by
 intro x r hr w X μi vals hX hm hins hsz hv
 obtain ⟨⟨u, i, j, u2⟩, l, u3⟩ := x
 have hr' : delF i j l = some r := hr
 unfold delF at hr'
 split at hr'
 next hin =>
  cases hr'
  obtain ⟨hi0, hij, hjl⟩ := hin
  obtain ⟨i, rfl⟩ := Int.eq_ofNat_of_zero_le hi0
  obtain ⟨j, rfl⟩ := Int.eq_ofNat_of_zero_le (show (0 : Int) ≤ j by omega)
  obtain ⟨x, y, z, rfl, h1, h2, h3⟩ := args3 (v := .arr 64) (u := .dat (.int .i64) (i : Int)) (t := .dat (.int .i64) (j : Int)) hsz hv
  rw [int_of h2, int_of h3]
  cases h1 with
  | @arr _ _ a n c rs hs hμ =>
   obtain ⟨ob, hob, hobo⟩ := hm.ob 64 _ hμ
   have hob' : ob = .arr 3 (.int .i64) l := by
    have : look (mkObs fdDelI.ins (l, u3)) 64 = some (.arr 3 (.int .i64) l) := rfl
    exact Option.some.inj (hob.symm.trans this)
   subst hob'
   obtain ⟨⟨hhs, hrs⟩, hnl, xs, hown, hrep⟩ := hobo
   simp only at hhs hrs hnl hown
   subst hhs
   rcases hown.2 with ⟨_, e2⟩ | ⟨b, cap, cur, ev, _, hg, hnc, hcm, hcs, htk⟩
   ·omega
   ·simp only [Value.slice.injEq] at ev
    obtain ⟨rfl, rfl, rfl⟩ := ev
    have hsz1 : Ty.size (.int .i64) = 1 := rfl
    rw [hsz1, Nat.mul_one] at hcs htk
    obtain ⟨hH, hxl, _⟩ := del_block (q := 0) hg hnc hcs htk (i := i) (j := j) (by omega) (by omega) (.int .i64 0)
    have hb : f147.body.isSome = true := by kernel_rfl
    obtain ⟨cd, hc⟩ := Option.isSome_iff_exists.1 hb
    have hone := hrep.one
    have hrun := del_runI b c i j xs.toArray w hH (fun u hu => hone u (by simpa using hu)) (by simpa [hxl] using hnc) (by simpa [maxLen] using hcm) (by omega) (by simp [hxl]; omega)
    rw [show xs.toArray.size = l.length by simpa using hxl] at hrun
    refine .inl ⟨run_enter func147 (by kernel_rfl) hc _ w, ?_⟩
    refine hrun.mono fun e w' ⟨he, q, hq⟩ => ⟨_, he, ?_⟩
    obtain ⟨⟨cur', g1, g2, g3⟩, g4, g5⟩ := (del_block (q := q) hg hnc hcs htk (i := i) (j := j) (by omega) (by omega) (.int .i64 0)).2.2 w' (by simpa using hq)
    have hbr : b ∈ rs := by rw [hrs]; simp [rootV]
    have hos : w'.os = w.os ∧ w'.tape = w.tape ∧ w'.output = w.output := by rw [hq]; exact ⟨rfl, rfl, rfl⟩
    have hk : Kept (old w μi) w w' := ⟨hos.1, hos.2.1, hos.2.2, Nat.le_of_eq g5.symm, fun k hk => g4 k fun e => hk.2 64 _ hμ (e ▸ hbr)⟩
    refine del_res (m := ⟨.slice (some ⟨b, 0, none⟩) (l.length - (j - i)) c, rs, []⟩) hX hm.tab hk hμ rfl (fun S' hS' => ?_) rfl
    refine ⟨⟨rfl, hrs⟩, fun b' hb' => hnl b' hb', xs.take i ++ xs.drop j, ⟨?_, .inr ⟨b, c, cur', ?_, Nat.zero_le _, g1, ?_, hcm, ?_, ?_⟩⟩, ?_⟩
    ·simp [hsz1]
     omega
    ·simp; omega
    ·simp; omega
    ·rw [hsz1, Nat.mul_one]; exact g2
    ·rw [hsz1, Nat.mul_one]
     simp only [Int.toNat_natCast, List.length_append, List.length_take, List.length_drop]
     rw [← g3]
     congr 1
     omega
    ·have hst : RepL S' w' (.int .i64) l xs := hrep.plain (d := rfl)
     exact (RepL.take rfl i hst).append (RepL.drop rfl j hst)
 next => cases hr'
theorem hand_delR : FDok prog (148, fdDelR) := by
 intro x r hr w X μi vals hX hm hins hsz hv
 obtain ⟨⟨u, i, j, u2⟩, l, u3⟩ := x
 have hr' : delF i j l = some r := hr
 unfold delF at hr'
 split at hr'
 next hin =>
  cases hr'
  obtain ⟨hi0, hij, hjl⟩ := hin
  obtain ⟨i, rfl⟩ := Int.eq_ofNat_of_zero_le hi0
  obtain ⟨j, rfl⟩ := Int.eq_ofNat_of_zero_le (show (0 : Int) ≤ j by omega)
  obtain ⟨x, y, z, rfl, h1, h2, h3⟩ := args3 (v := .arr 64) (u := .dat (.int .i64) (i : Int)) (t := .dat (.int .i64) (j : Int)) hsz hv
  rw [int_of h2, int_of h3]
  cases h1 with
  | @arr _ _ a n c rs hs hμ =>
   obtain ⟨ob, hob, hobo⟩ := hm.ob 64 _ hμ
   have hob' : ob = .rows 24 3 (.int .i64) l none := by
    have : look (mkObs fdDelR.ins (l, u3)) 64 = some (.rows 24 3 (.int .i64) l none) := rfl
    exact Option.some.inj (hob.symm.trans this)
   subst hob'
   obtain ⟨hro, _⟩ := hobo
   have hown := hro.own
   have hlen := hro.len
   simp only at hown hlen
   have hno : ∀ k, inRow none k := fun k i d h => by cases h
   rcases hown.2 with ⟨_, e2⟩ | ⟨b, cap, cur, ev, _, hg, hnc, hcm, hcs, htk⟩
   ·omega
   ·simp only [Value.slice.injEq] at ev
    obtain ⟨rfl, rfl, rfl⟩ := ev
    rw [Nat.mul_one] at hcs htk
    obtain ⟨hH, hxl, _⟩ := del_block (q := 0) hg hnc hcs htk (i := i) (j := j) (by omega) (by omega) (.slice none 0 0)
    have hb : f148.body.isSome = true := by kernel_rfl
    obtain ⟨cd, hc⟩ := Option.isSome_iff_exists.1 hb
    have hone : ∀ u ∈ hs, u.oneCell' = true := fun u hu => by
     obtain ⟨a2, n2, c2, rfl⟩ := hro.slc u hu
     rfl
    have hrun := del_runR b c i j hs.toArray w hH (fun u hu => hone u (by simpa using hu)) (by simpa [hxl] using hnc) (by simpa [maxLen] using hcm) (by omega) (by simp [hxl]; omega)
    rw [show hs.toArray.size = l.length by simpa using hxl] at hrun
    refine .inl ⟨run_enter func148 (by kernel_rfl) hc _ w, ?_⟩
    refine hrun.mono fun e w' ⟨he, q, hq⟩ => ⟨_, he, ?_⟩
    obtain ⟨⟨cur', g1, g2, g3⟩, g4, g5⟩ := (del_block (q := q) hg hnc hcs htk (i := i) (j := j) (by omega) (by omega) (.slice none 0 0)).2.2 w' (by simpa using hq)
    have hbr : b ∈ rs := hro.top b (by simp [rootV])
    have hos : w'.os = w.os ∧ w'.tape = w.tape ∧ w'.output = w.output := by rw [hq]; exact ⟨rfl, rfl, rfl⟩
    have hk : Kept (old w μi) w w' := ⟨hos.1, hos.2.1, hos.2.2, Nat.le_of_eq g5.symm, fun k hk => g4 k fun e => hk.2 64 _ hμ (e ▸ hbr)⟩
    refine del_res (m := ⟨.slice (some ⟨b, 0, none⟩) (l.length - (j - i)) c, rs, hs.take i ++ hs.drop j⟩) hX hm.tab hk hμ rfl (fun S' hS' => ?_) rfl
    refine ⟨⟨⟨?_, .inr ⟨b, c, cur', ?_, Nat.zero_le _, g1, ?_, hcm, ?_, ?_⟩⟩, fun k hk => hro.top k hk, fun k hk => ⟨(hro.low k hk).1, by rw [g5]; exact (hro.low k hk).2⟩, fun y hy => ?_, fun q y r hj' hy hq => ?_, fun q q' y z kb hj' hk' hy hz h3 h4 => ?_⟩, fun i' d' hd' => by cases hd'⟩
    ·simp
     omega
    ·simp; omega
    ·simp; omega
    ·rw [Nat.mul_one]; exact g2
    ·rw [Nat.mul_one]
     simp only [Int.toNat_natCast, List.length_append, List.length_take, List.length_drop]
     rw [← g3]
     congr 1
     omega
    ·rcases List.mem_append.1 hy with hy | hy
     ·exact hro.slc y (List.mem_of_mem_take hy)
     ·exact hro.slc y (List.mem_of_mem_drop hy)
    ·simp only [Int.toNat_natCast] at hy hq
     rw [cut_get _ _ (by omega)] at hy hq
     obtain ⟨z1, ys, z2, z3⟩ := hro.row _ y r (hno _) hy hq
     refine ⟨fun k hk => ⟨(z1 k hk).1, fun hk2 => (z1 k hk).2 hk2⟩, ys, ownsRow_same z2 fun k hk => g4 k fun e => (z1 k hk).2 (by rw [e]; rfl), z3.plain (d := rfl)⟩
    ·simp only [Int.toNat_natCast] at hy hz
     rw [cut_get _ _ (by omega)] at hy hz
     have := hro.apart _ _ y z kb (hno _) (hno _) hy hz h3 h4
     split at this <;> split at this <;> omega
 next => cases hr'
end Go.Proofs.YtnagpmhaddfgmaaGreat
