/-
 Appends; one operation; the operations of a region in the order of the text.
-/
import Derived.Test.YtnagpmhaddfgmaaB14
namespace Go.Proofs.Ytnagpmhaddfgmaa
open Go.RowKit (Below)
section
variable {P : Program} {tt : Nat → TD} {w : World} {lo : Nat → Prop} {N : Par} {μ : Nat → Option MV} {S : Nat → Prop} {X : Nat → Prop} {g : Nat → Option Ob} {a : Act} {E : Env} {w0 : World}
theorem wkj {ty rt e n c sz : Nat} {i : TypeInfo} (hu : P.underlying ty = some (.slice e)) (hi : P.info? e = some i) {mv : Value} {xs : List Value} (hown : w.ownsRow 0 e sz mv n xs) :
  (Builtin.append_ #[ty, ty] rt #[mv, .slice none 0 c]).run P w = .ok mv w := by
 rcases hown.2 with ⟨rfl, rfl⟩ | ⟨g, cap, cur, rfl, _, _, hnc, _⟩
 ·simp [Builtin.append_, run_underlying hu, sizeOf, typeInfo, hi, Builtin.lenOf, Builtin.firstCells]
 ·simp [Builtin.append_, run_underlying hu, sizeOf, typeInfo, hi, Builtin.lenOf, Builtin.firstCells, hnc, storeCells]
theorem wce [Tabs] {ty rt e n m : Nat} {t : Ty} {i : TypeInfo} {z : Value} {b : Nat} (hu : P.underlying ty = some (.slice e)) (hi : P.info? e = some i) (hs : i.size = t.size) (hb : i.bytes = b) (hz : i.zero = some z) (hzc : z.cells.size = t.size)
  {mv : Value} {xs : List Value} (hown : w.ownsRow 0 e t.size mv n xs) {ax : Option Addr} {c : Nat} {news : List Value} (hl : news.length = m * t.size) (hax : ax = none → m = 0) (hnews : ∀ ad, ax = some ad → ∀ j u, news[j]? = some u → w.cell? (ad.add j) = some u)
  (h1 : ∀ u ∈ news, u.oneCell' = true) (hbytes : (n + m) * b ≤ 140737488355328) (hb0 : 0 < b) :
  ∃ v' w', (Builtin.append_ #[ty, ty] rt #[mv, .slice ax m c]).run P w = .ok v' w' ∧ w'.ownsRow 0 e t.size v' (n + m) (xs ++ news) ∧ w'.os = w.os ∧ w'.tape = w.tape ∧ w'.output = w.output ∧ w.heap.size ≤ w'.heap.size ∧
   (∀ k, k < w.heap.size → wu mv ≠ some k → w'.heap[k]? = w.heap[k]?) ∧ (∀ k, wu v' = some k → wu mv = some k ∨ w.heap.size ≤ k) ∧ ∃ a' n' c', v' = .slice a' n' c' := by
 have hsmall : n + m ≤ 140737488355328 := by
  have := Nat.le_mul_of_pos_right (n + m) hb0
  omega
 have h63 : n + m ≤ maxLen := by unfold maxLen; omega
 have hform : ∃ a' n' c', mv = .slice a' n' c' := by
  rcases hown.2 with ⟨rfl, _⟩ | ⟨gb, cap, cur, rfl, _⟩
  ·exact ⟨_, _, _, rfl⟩
  ·exact ⟨_, _, _, rfl⟩
 cases ax with
 | none =>
  obtain rfl := hax rfl
  have hn : news = [] := List.eq_nil_of_length_eq_zero (by simpa using hl)
  subst hn
  have hrun := wkj (P := P) (rt := rt) (c := c) hu hi hown
  exact ⟨mv, w, hrun, by simpa using hown, rfl, rfl, rfl, Nat.le_refl _, fun _ _ _ => rfl, fun _ h => .inl h, hform⟩
 | some ad =>
  have hnews := hnews ad rfl
  rcases hown.2 with ⟨rfl, rfl⟩ | ⟨gb, cap, cur, rfl, hbg, hg, hnc, hcm, hcs, htake⟩
  ·have hown' : w.ownsRow w.heap.size e t.size (.slice none 0 0) 0 xs := ⟨hown.1, .inl ⟨rfl, rfl⟩⟩
   obtain ⟨v', w', h2, h3, h4, h5⟩ := run_append_own (P := P) w w.heap.size ty rt e i z t.size b hu hi hz hs hb hzc t.size_pos (.slice none 0 0) 0 xs hown' ad m c news hl hnews h1 h63 hbytes (Nat.le_refl _)
   refine ⟨v', w', h2, ⟨h3.1, h3.2.imp id fun ⟨gb, cap, cur, e1, e2, e3⟩ => ⟨gb, cap, cur, e1, Nat.zero_le _, e3⟩⟩, h4.os, h4.tape, h4.output, h4.size, fun k hk _ => h4.block k hk (by simp [Value.ownBlock]), fun k hk => .inr ?_, ?_⟩
   ·rcases h3.2 with ⟨rfl, _⟩ | ⟨gb, cap, cur, rfl, e2, _⟩
    ·simp [wu] at hk
    ·simp [wu] at hk; omega
   ·rcases h3.2 with ⟨rfl, _⟩ | ⟨gb, cap, cur, rfl, e2, _⟩
    ·exact ⟨_, _, _, rfl⟩
    ·exact ⟨_, _, _, rfl⟩
  ·have hlen : (xs ++ news).length = (n + m) * t.size := by rw [List.length_append, hown.1, hl, Nat.add_mul]
   by_cases hroom : n + m ≤ cap
   ·have hfit : n * i.size + news.length ≤ cur.size := by rw [hl, hcs, hs, ← Nat.add_mul]; exact Nat.mul_le_mul_right _ hroom
    have hr := run_append_room (P := P) w ty rt e i hu hi gb n cap cur hg ad m c news (by rw [hs]; exact hl) hnews h1 hroom hfit
    rw [hs] at hr hfit
    refine ⟨_, _, hr, ⟨hlen, .inr ⟨gb, cap, _, rfl, hbg, setRow_heap w gb cur _ e _ hg, hroom, hcm, ?_, ?_⟩⟩, rfl, rfl, rfl, by simp, fun k _ hk => setRow_other w gb k _ (fun e => hk (by simp [wu, e])), fun k hk => .inl hk, ⟨_, _, _, rfl⟩⟩
    ·simp only [List.size_toArray, List.length_append, List.length_take, List.length_drop, Array.length_toList]
     omega
    ·rw [htake, ← hlen]
     exact List.take_left
   ·have holds : ∀ j u, xs[j]? = some u → w.cell? ((⟨gb, 0, none⟩ : Addr).add j) = some u := hown.cells (g := gb) rfl
    have hr := run_append_grow (P := P) w ty rt e i z hu hi hz ⟨gb, 0, none⟩ n cap xs (by rw [hs]; exact hown.1) holds ad m c news (by rw [hs]; exact hl) hnews (by omega) (by omega) (growslice_fits (by omega) (by rw [hb]; exact hbytes))
    have hge := grownCap_ge w (n + m) cap e
    refine ⟨_, _, hr, ⟨hlen, .inr ⟨w.heap.size, _, _, rfl, Nat.zero_le _, heap_alloc_new w.drew _, hge, grownCap_le_maxLen w (n + m) cap e h63, ?_, ?_⟩⟩, rfl, rfl, rfl, by simp, fun k hk _ => heap_alloc_old w.drew _ hk, fun k hk => ?_, ⟨_, _, _, rfl⟩⟩
    ·simp only [Array.size_append, List.size_toArray, size_zeroCells, hzc, hown.1, hl, ← Nat.add_mul]
     congr 1
     omega
    ·simp only [Array.toList_append, List.append_assoc]
     rw [← List.append_assoc, ← hlen]
     exact List.take_left
    ·simp [wu] at hk
     exact .inr (by omega)
end
end Go.Proofs.Ytnagpmhaddfgmaa
