/-
 Plain laws: farthest places have at least half of the greatest dispersion; groups bound the dispersion.
-/
import Derived.Test.YtnagpmhaddfgmaaGreatP34
namespace Go.Proofs.YtnagpmhaddfgmaaGreat
theorem wzd {x : List (List Int)} : wfk x = true ↔ ∀ i j k, i < x.length → j < x.length → k < x.length → at2 x i j ≤ at2 x i k + at2 x k j := by
 unfold wfk
 simp only [List.all_eq_true, List.mem_range, decide_eq_true_eq]
 exact ⟨fun h i j k hi hj hk => h i hi j hj k hk, fun h i hi j hj k hk => h i j k hi hj hk⟩
theorem wagq {s : List Int} {i : Nat} (hi : i < s.length) : pl s i = (s[i]).toNat := by
 unfold pl
 rw [List.getD_eq_getElem?_getD, List.getElem?_eq_getElem hi]
 rfl
theorem wop {m : List (List Int)} (hm : Ground m) {s : List Int} (hs : ∀ x ∈ s, 0 ≤ x ∧ x < (m.length : Int)) (b : Int) {x y : Int} (hx : x ∈ s) (hy : y ∈ s) (hne : x ≠ y) : wcj m s b ≤ at2 m x.toNat y.toNat := by
 obtain ⟨i, hi, rfl⟩ := List.getElem_of_mem hx
 obtain ⟨j, hj, rfl⟩ := List.getElem_of_mem hy
 have h1 := hs _ hx
 have h2 := hs _ hy
 rcases Nat.lt_trichotomy i j with h | h | h
 ·have := wyx m s b hj h
  rw [wagq hi, wagq hj] at this
  rw [hm.sym _ _ (by omega) (by omega)]
  exact this
 ·subst h; exact absurd rfl hne
 ·have := wyx m s b hi h
  rw [wagq hi, wagq hj] at this
  exact this
theorem wks {α : Type} [DecidableEq α] : ∀ (l m : List α), l.Nodup → (∀ x ∈ l, x ∈ m) → l.length ≤ m.length
 | [], _, _, _ => Nat.zero_le _
 | x :: l, m, hn, hs => by
  rw [List.nodup_cons] at hn
  have h1 := hs x List.mem_cons_self
  have h2 := wks l (m.erase x) hn.2 fun y hy => (List.mem_erase_of_ne (fun e => hn.1 (by rw [← e]; exact hy))).2 (hs y (List.mem_cons_of_mem _ hy))
  have h3 := List.length_erase_of_mem h1
  have h4 := List.length_pos_of_mem h1
  rw [List.length_cons]
  omega
theorem wbak {α β : Type} [DecidableEq β] {l : List α} {m : List β} (f : α → β) (hn : l.Nodup) (hf : ∀ x ∈ l, f x ∈ m) (hlt : m.length < l.length) : ∃ x, x ∈ l ∧ ∃ y, y ∈ l ∧ x ≠ y ∧ f x = f y := by
 refine Classical.byContradiction fun hno => ?_
 have h1 : (l.map f).Nodup := by
  unfold List.Nodup
  rw [List.pairwise_map]
  exact List.Pairwise.imp_of_mem (fun {a b} ha hb hab e => hno ⟨a, ha, b, hb, hab, e⟩) hn
 have h2 := wks (l.map f) m h1 fun y hy => by
  obtain ⟨x, hx, rfl⟩ := List.mem_map.1 hy
  exact hf x hx
 rw [List.length_map] at h2
 omega
theorem wvz {n : Nat} {s : List Int} : s ∈ wom n ↔ ∃ i j : Nat, i < j ∧ j < n ∧ s = [(i : Int), (j : Int)] := by
 unfold wom
 simp only [List.mem_flatMap, List.mem_map, List.mem_range]
 constructor
 ·rintro ⟨i, hi, k, hk, rfl⟩
  exact ⟨i, i + 1 + k, by omega, by omega, rfl⟩
 ·rintro ⟨i, j, h1, h2, rfl⟩
  exact ⟨i, by omega, j - (i + 1), by omega, by rw [show i + 1 + (j - (i + 1)) = j by omega]⟩
theorem wapk (m : List (List Int)) (out : List Int) (z : Int) (a : Nat) : wem m (out ++ [z]) a = min (wem m out a) (at2 m a z.toNat) := by
 unfold wem
 rw [List.foldl_append]
 rfl
theorem wbmg {m : List (List Int)} (hm : Ground m) {out : List Int} (hne : out ≠ []) (ho : ∀ x ∈ out, 0 ≤ x ∧ x < (m.length : Int)) {a : Nat} (ha : a < m.length) : ∃ y, y ∈ out ∧ at2 m a y.toNat ≤ wem m out a := by
 have key : ∀ (l : List Int) (w : Int), l.foldl (fun w b => min w (at2 m a b.toNat)) w = w ∨ ∃ y, y ∈ l ∧ at2 m a y.toNat ≤ l.foldl (fun w b => min w (at2 m a b.toNat)) w := by
  intro l
  induction l with
  | nil => intro w; exact .inl rfl
  | cons x l ih =>
   intro w
   rw [List.foldl_cons]
   rcases ih (min w (at2 m a x.toNat)) with h | ⟨y, hy, h⟩
   ·by_cases hw : w ≤ at2 m a x.toNat
    ·left; rw [h]; omega
    ·right; exact ⟨x, List.mem_cons_self, by rw [h]; omega⟩
   ·exact .inr ⟨y, List.mem_cons_of_mem _ hy, h⟩
 rcases key out 99 with h | h
 ·obtain ⟨y, l, rfl⟩ := List.exists_cons_of_ne_nil hne
  have h1 := ho y List.mem_cons_self
  have h2 := hm.in ha (show y.toNat < m.length by omega)
  refine ⟨y, List.mem_cons_self, ?_⟩
  unfold wem
  rw [h]
  omega
 ·exact h
structure FarS (m : List (List Int)) (k : Nat) (out : List Int) : Prop where
 len : out.length = k
 mem : ∀ x ∈ out, 0 ≤ x ∧ x < (m.length : Int)
 nodup : out.Nodup
 inv : ∀ a, a < m.length → (a : Int) ∉ out → ∀ x ∈ out, ∀ y ∈ out, x ≠ y → wem m out a ≤ at2 m x.toNat y.toNat
theorem wwa {m : List (List Int)} (hm : Ground m) (h2 : 2 ≤ m.length) : ∃ i j : Nat, i < j ∧ j < m.length ∧ waj (fun s => -wcj m s 100) (wie m.length 2) = [(i : Int), (j : Int)] ∧ ∀ a b, a < m.length → b < m.length → a ≠ b → at2 m a b ≤ at2 m i j := by
 have h7 := hm.len
 have hne := wif h7 (k := 2) (by omega) (by omega)
 obtain ⟨h1, h3⟩ := wco (g := fun s => -wcj m s 100) hne
 have hle := (wfi (l := (wie m.length 2).map fun s => -wcj m s 100) (by simpa using hne)).2
 rw [← h3] at hle
 rw [wadv _ h7] at h1 hle ⊢
 obtain ⟨i, j, h4, h5, e⟩ := wvz.1 h1
 refine ⟨i, j, h4, h5, e, fun a b ha hb hab => ?_⟩
 have key : ∀ a b, a < b → b < m.length → at2 m a b ≤ at2 m i j := fun a b hab hb => by
  have := hle _ (List.mem_map_of_mem (f := fun s => -wcj m s 100) (wvz.2 ⟨a, b, hab, hb, rfl⟩))
  simp only [e] at this
  rw [wjl hm (by omega) h5, wjl hm (by omega) hb] at this
  omega
 rcases Nat.lt_or_gt_of_ne hab with h | h
 ·exact key a b h hb
 ·rw [hm.sym _ _ ha hb]; exact key b a h ha
theorem wze {m : List (List Int)} (hm : Ground m) : ∀ j, 2 + j ≤ m.length → FarS m (2 + j) (wbp m j)
 | 0, h => by
  obtain ⟨i, j, h1, h2, e, h3⟩ := wwa hm (by omega)
  have e2 : wbp m 0 = [(i : Int), (j : Int)] := e
  have hmem : ∀ x ∈ wbp m 0, x = (i : Int) ∨ x = (j : Int) := fun x hx => by
   rw [e2] at hx
   simpa using hx
  refine ⟨by rw [e2]; rfl, fun x hx => by rcases hmem x hx with rfl | rfl <;> omega, ?_, fun a ha hn x hx y hy hxy => ?_⟩
  ·rw [e2]
   simp
   omega
  ·have hxi : (i : Int) ∈ wbp m 0 := by rw [e2]; simp
   have h4 := wjm (m := m) (a := a) hxi
   rw [Int.toNat_natCast] at h4
   have h5 : a ≠ i := fun e => hn (by rw [e]; exact hxi)
   have h6 := h3 a i ha (by omega) h5
   have h7 : at2 m x.toNat y.toNat = at2 m i j := by
    rcases hmem x hx with rfl | rfl <;> rcases hmem y hy with rfl | rfl
    ·exact absurd rfl hxy
    ·rfl
    ·exact hm.sym _ _ h2 (by omega)
    ·exact absurd rfl hxy
   omega
 | j + 1, h => by
  have ih := wze hm j (by omega)
  have e2 : wbp m (j + 1) = wbp m j ++ [wdg m (wbp m j)] := by unfold wbp; rw [wau]
  obtain ⟨q, e, h1, h2, h3⟩ := wgq (m := m) (out := wbp m j) (by rw [ih.len]; omega)
  rw [e2, e]
  refine ⟨by rw [List.length_append, ih.len]; rfl, fun x hx => ?_, ?_, fun a ha hn x hx y hy hxy => ?_⟩
  ·rcases List.mem_append.1 hx with h4 | h4
   ·exact ih.mem x h4
   ·rw [List.mem_singleton.1 h4]; omega
  ·rw [List.nodup_append]
   refine ⟨ih.nodup, by simp, fun a ha b hb => ?_⟩
   rw [List.mem_singleton.1 hb]
   exact fun e => h2 (e ▸ ha)
  ·have hn' : (a : Int) ∉ wbp m j := fun hh => hn (List.mem_append_left _ hh)
   have h4 : wem m (wbp m j ++ [(q : Int)]) a ≤ wem m (wbp m j) a := by rw [wapk]; omega
   have h5 := h3 a ha hn'
   rcases List.mem_append.1 hx with hx | hx <;> rcases List.mem_append.1 hy with hy | hy
   ·have := ih.inv a ha hn' x hx y hy hxy; omega
   ·rw [List.mem_singleton.1 hy]
    have h6 := wjm (m := m) (a := q) hx
    have h7 := ih.mem x hx
    rw [hm.sym _ _ h1 (by omega)] at h6
    rw [Int.toNat_natCast]
    omega
   ·rw [List.mem_singleton.1 hx]
    have h6 := wjm (m := m) (a := q) hy
    rw [Int.toNat_natCast]
    omega
   ·rw [List.mem_singleton.1 hx, List.mem_singleton.1 hy] at hxy
    exact absurd rfl hxy
theorem waxy {m : List (List Int)} (hm : Ground m) (j : Nat) (hj : 2 + j ≤ m.length) : ∃ c : Int, c ≤ 99 ∧ (∀ x ∈ wbp m j, ∀ y ∈ wbp m j, x ≠ y → c ≤ at2 m x.toNat y.toNat) ∧
  (wfk m = true → ∀ s : List Int, s.Nodup → (∀ x ∈ s, 0 ≤ x ∧ x < (m.length : Int)) → s.length = 2 + j → ∃ x, x ∈ s ∧ ∃ y, y ∈ s ∧ x ≠ y ∧ at2 m x.toNat y.toNat ≤ 2 * c) := by
 cases j with
 | zero =>
  obtain ⟨i, j, h1, h2, e, h3⟩ := wwa hm (by omega)
  have e2 : wbp m 0 = [(i : Int), (j : Int)] := e
  have h9 := hm.in (show i < m.length by omega) h2
  have hmem : ∀ x ∈ wbp m 0, x = (i : Int) ∨ x = (j : Int) := fun x hx => by
   rw [e2] at hx
   simpa using hx
  refine ⟨at2 m i j, h9.2, fun x hx y hy hxy => ?_, fun _ s hn hs hl => ?_⟩
  ·rcases hmem x hx with rfl | rfl <;> rcases hmem y hy with rfl | rfl
   ·exact absurd rfl hxy
   ·exact Int.le_refl _
   ·rw [Int.toNat_natCast, Int.toNat_natCast, hm.sym _ _ h2 (by omega)]
    exact Int.le_refl _
   ·exact absurd rfl hxy
  ·match s, hn, hs, hl with
   | [x, y], hn, hs, _ =>
    have hxy : x ≠ y := by simpa using hn
    have h4 := hs x (by simp)
    have h5 := hs y (by simp)
    have := h3 x.toNat y.toNat (by omega) (by omega) (by omega)
    exact ⟨x, by simp, y, by simp, hxy, by omega⟩
 | succ j =>
  have ih := wze hm j (by omega)
  have e2 : wbp m (j + 1) = wbp m j ++ [wdg m (wbp m j)] := by unfold wbp; rw [wau]
  obtain ⟨q, e, h1, h2, h3⟩ := wgq (m := m) (out := wbp m j) (by rw [ih.len]; omega)
  rw [e] at e2
  refine ⟨wem m (wbp m j) q, wbma, fun x hx y hy hxy => ?_, fun hmet s hn hs hl => ?_⟩
  ·rw [e2] at hx hy
   rcases List.mem_append.1 hx with hx | hx <;> rcases List.mem_append.1 hy with hy | hy
   ·exact ih.inv q h1 h2 x hx y hy hxy
   ·rw [List.mem_singleton.1 hy]
    have h6 := wjm (m := m) (a := q) hx
    have h7 := ih.mem x hx
    rw [hm.sym _ _ h1 (by omega)] at h6
    rw [Int.toNat_natCast]
    exact h6
   ·rw [List.mem_singleton.1 hx]
    have h6 := wjm (m := m) (a := q) hy
    rw [Int.toNat_natCast]
    exact h6
   ·rw [List.mem_singleton.1 hx, List.mem_singleton.1 hy] at hxy
    exact absurd rfl hxy
  ·have h0 : 0 ≤ wem m (wbp m j) q := wapb hm h1 ih.mem
   have hne : wbp m j ≠ [] := fun e => by have := ih.len; rw [e] at this; simp at this; omega
   have hnear : ∀ x : Int, ∃ y, (x ∈ s → y ∈ wbp m j ∧ at2 m x.toNat y.toNat ≤ wem m (wbp m j) q) := fun x => by
    by_cases hx : x ∈ s
    ·have h4 := hs x hx
     by_cases hxo : x ∈ wbp m j
     ·refine ⟨x, fun _ => ⟨hxo, ?_⟩⟩
      rw [hm.diag _ (by omega)]
      exact h0
     ·obtain ⟨y, hy, h5⟩ := wbmg hm hne ih.mem (a := x.toNat) (by omega)
      have h6 := h3 x.toNat (by omega) (by rw [Int.toNat_of_nonneg h4.1]; exact hxo)
      exact ⟨y, fun _ => ⟨hy, by omega⟩⟩
    ·exact ⟨0, fun h => absurd h hx⟩
   obtain ⟨x, hx, y, hy, hxy, hf⟩ := wbak (fun x => Classical.choose (hnear x)) hn (fun x hx => (Classical.choose_spec (hnear x) hx).1) (m := wbp m j) (by rw [ih.len, hl]; omega)
   have h4 := Classical.choose_spec (hnear x) hx
   have h5 := Classical.choose_spec (hnear y) hy
   rw [← hf] at h5
   generalize Classical.choose (hnear x) = w at h4 h5
   have h6 := hs x hx
   have h7 := hs y hy
   have h8 := ih.mem w h4.1
   have h9 := wzd.1 hmet x.toNat y.toNat w.toNat (by omega) (by omega) (by omega)
   have h10 := hm.sym w.toNat y.toNat (by omega) (by omega)
   exact ⟨x, hx, y, hy, hxy, by omega⟩
theorem wwb {m : List (List Int)} {d : Int} {groups : List (List Int)} (hc : ∀ a, a < m.length → ∃ g, g ∈ groups ∧ (a : Int) ∈ g) (hp : ∀ g ∈ groups, ∀ x ∈ g, ∀ y ∈ g, x ≠ y → at2 m x.toNat y.toNat < d)
  {s : List Int} (hn : s.Nodup) (hs : ∀ x ∈ s, 0 ≤ x ∧ x < (m.length : Int)) (hl : groups.length < s.length) : ∃ x, x ∈ s ∧ ∃ y, y ∈ s ∧ x ≠ y ∧ at2 m x.toNat y.toNat < d := by
 have hi : ∀ x : Int, ∃ k : Nat, x ∈ s → k ∈ List.range groups.length ∧ x ∈ groups.getD k [] := fun x => by
  by_cases hx : x ∈ s
  ·have h1 := hs x hx
   obtain ⟨g, hg, hxg⟩ := hc x.toNat (by omega)
   rw [Int.toNat_of_nonneg h1.1] at hxg
   obtain ⟨k, hk, rfl⟩ := List.getElem_of_mem hg
   exact ⟨k, fun _ => ⟨List.mem_range.2 hk, by rw [List.getD_eq_getElem?_getD, List.getElem?_eq_getElem hk]; exact hxg⟩⟩
  ·exact ⟨0, fun h => absurd h hx⟩
 obtain ⟨x, hx, y, hy, hxy, hf⟩ := wbak (fun x => Classical.choose (hi x)) hn (fun x hx => (Classical.choose_spec (hi x) hx).1) (m := List.range groups.length) (by rw [List.length_range]; exact hl)
 have h4 := Classical.choose_spec (hi x) hx
 have h5 := Classical.choose_spec (hi y) hy
 rw [← hf] at h5
 generalize Classical.choose (hi x) = k at h4 h5
 exact ⟨x, hx, y, hy, hxy, hp _ (getD_mem (List.mem_range.1 h4.1)) x h4.2 y h5.2 hxy⟩
end Go.Proofs.YtnagpmhaddfgmaaGreat
