/-
 Arguments are opened: what is trodden reads as typed data.
-/
import Derived.Test.YtnagpmhaddfgmaaB28
import Derived.ProofKit
namespace Go.Proofs.Ytnagpmhaddfgmaa
open Go.RowKit (Below)
def Fit : (t : Ty) → t.I → Prop
 | .int k, n => (Lit.int k n).wf = true
 | .bool, _ => True
 | .str, s => List.length (α := UInt8) s ≤ maxLen
 | .seq _, _ => False
 | .slice t, l => l.length ≤ maxLen ∧ ∀ x ∈ l, Fit t x
 | .pair a b, v => Fit a v.1 ∧ Fit b v.2
def wfa (P : Program) (chk : Nat → Ty → Bool) : List Go.Field → Nat → Ty → Bool
 | [], _, _ => false
 | [f], o, t => Nat.beq f.offset o && Nat.beq (P.cellsOf f.type) t.size && chk f.type t
 | f :: g :: fs, o, .pair a b => Nat.beq f.offset o && Nat.beq (P.cellsOf f.type) a.size && chk f.type a && wfa P chk (g :: fs) (o + a.size) b
 | _ :: _ :: _, _, _ => false
def wkw (P : Program) : Nat → Nat → Ty → Bool
 | 0, _, _ => false
 | n + 1, T, t => match P.underlying T with
  | some (.int k) => match t with
   | .int k' => decide (k = k')
   | _ => false
  | some .bool => match t with
   | .bool => true
   | _ => false
  | some .string => match t with
   | .str => true
   | _ => false
  | some (.slice e) => match t with
   | .slice t => Nat.beq (P.cellsOf e) t.size && wkw P n e t
   | _ => false
  | some (.struct fs) => Nat.beq (P.cellsOf T) t.size && wfa P (wkw P n) fs.toList 0 t
  | _ => false
section
variable {H : Type} {enc : TypeId × Value → H} {P : Program} {w : World} {base : Nat} {spare : Nat → Bool} {held : Bool}
theorem wxy {α β : Type} {f : α → Option β} : ∀ {l : List α} {r : List β}, l.mapM f = some r → ∀ (i : Nat) (a : α), l[i]? = some a → ∃ b, r[i]? = some b ∧ f a = some b
 | [], r, h, i, a, ha => by simp at ha
 | x :: l, r, h, i, a, ha => by
  rw [List.mapM_cons] at h
  cases hx : f x with
  | none => rw [hx] at h; cases h
  | some y =>
   rw [hx] at h
   cases hl : l.mapM f with
   | none => simp [hl] at h
   | some ys =>
    simp [hl] at h
    subst h
    match i, ha with
    | 0, ha => simp at ha; subst ha; exact ⟨y, rfl, hx⟩
    | i + 1, ha => exact wxy hl i a ha
theorem wafg {a : Addr} {n : Nat} {cs : List Value} (h : w.cells? base a n = some cs) : cs.length = n ∧ ∀ j u, cs[j]? = some u → w.cell? (a.add j) = some u := by
 unfold World.cells? at h
 split at h
 ·have hlen : ∀ {l : List Nat} {r : List Value}, l.mapM (fun i => w.cell? (a.add i)) = some r → r.length = l.length := by
   intro l
   induction l with
   | nil => intro r h; simp at h; subst h; rfl
   | cons x l ih =>
    intro r h
    rw [List.mapM_cons] at h
    cases hx : w.cell? (a.add x) with
    | none => rw [hx] at h; cases h
    | some y =>
     rw [hx] at h
     cases hl : l.mapM (fun i => w.cell? (a.add i)) with
     | none => simp [hl] at h
     | some ys => simp [hl] at h; subst h; simp [ih hl]
  have hl := hlen h
  rw [List.length_range] at hl
  refine ⟨hl, fun j u hu => ?_⟩
  have hj : j < n := by
   rw [← hl]
   exact (List.getElem?_eq_some_iff.1 hu).1
  obtain ⟨b, h1, h2⟩ := wxy h j j (List.getElem?_range hj)
  rw [hu] at h1
  cases h1
  exact h2
 ·cases h
theorem wafh {a : Addr} {u : Value} (h : w.cell? a = some u) : a.spot = none := by
 unfold World.cell? at h
 split at h
 ·split at h
  ·cases h
  ·rename_i hs
   cases hsp : a.spot with
   | none => rfl
   | some x => rw [hsp] at hs; simp at hs
 ·cases h
theorem wnv {chk : Nat → Ty → Bool} {cs : List Value} {G : List Go.Field}
  (hF : ∀ f ∈ G, ∀ t, chk f.type t = true → P.cellsOf f.type = t.size → f.offset + t.size ≤ cs.length → ∃ v, Rep (fun _ => True) w t v ((cs.drop f.offset).take t.size) ∧ Fit t v) :
  ∀ {fs : List Go.Field} {o : Nat} {t : Ty}, (∀ f ∈ fs, f ∈ G) → wfa P chk fs o t = true → o + t.size ≤ cs.length → ∃ v, Rep (fun _ => True) w t v ((cs.drop o).take t.size) ∧ Fit t v
 | [], _, _, _, h, _ => by simp [wfa] at h
 | [f], o, t, hm, h, hle => by
  simp only [wfa, Bool.and_eq_true] at h
  obtain ⟨⟨h1, h2⟩, h3⟩ := h
  have e1 := Nat.eq_of_beq_eq_true h1
  rw [← e1] at hle ⊢
  exact hF f (hm f (by simp)) t h3 (Nat.eq_of_beq_eq_true h2) hle
 | f :: g :: fs, o, .pair a b, hm, h, hle => by
  simp only [wfa, Bool.and_eq_true] at h
  obtain ⟨⟨⟨h1, h2⟩, h3⟩, h4⟩ := h
  have e1 := Nat.eq_of_beq_eq_true h1
  simp only [Ty.size] at hle
  obtain ⟨v1, r1, k1⟩ := hF f (hm f (by simp)) a h3 (Nat.eq_of_beq_eq_true h2) (by omega)
  rw [e1] at r1
  obtain ⟨v2, r2, k2⟩ := wnv hF (fun x hx => hm x (List.mem_cons_of_mem _ hx)) h4 (by omega)
  refine ⟨(v1, v2), ⟨_, _, ?_, r1, r2⟩, k1, k2⟩
  simp only [Ty.size]
  rw [← List.drop_drop, List.take_add]
 | _ :: _ :: _, _, .int _, _, h, _ => by simp [wfa] at h
 | _ :: _ :: _, _, .bool, _, h, _ => by simp [wfa] at h
 | _ :: _ :: _, _, .str, _, h, _ => by simp [wfa] at h
 | _ :: _ :: _, _, .seq _, _, h, _ => by simp [wfa] at h
 | _ :: _ :: _, _, .slice _, _, h, _ => by simp [wfa] at h
theorem wpa : ∀ {n T : Nat} {t : Ty} {fuel : Nat} {cs : List Value} {x : DataW H × List MemPlace}, wkw P n T t = true → DataW.trod enc P w base spare held fuel T cs = some x → ∃ v, Rep (fun _ => True) w t v cs ∧ Fit t v
 | 0, _, _, _, _, _, h, _ => by simp [wkw] at h
 | n + 1, T, t, fuel, cs, x, hc, h => by
  simp only [wkw] at hc
  split at hc
  next k hk =>
   split at hc
   next k' =>
    have e : k = k' := by simpa using hc
    subst e
    obtain ⟨m, rfl, _, hw⟩ := DataW.trod_int hk h
    exact ⟨m, rfl, hw⟩
   next => cases hc
  next hk =>
   split at hc
   next =>
    obtain ⟨b, rfl, _⟩ := DataW.trod_bool hk h
    exact ⟨b, rfl, trivial⟩
   next => cases hc
  next hk =>
   split at hc
   next =>
    obtain ⟨s, rfl, _, hs⟩ := DataW.trod_string hk h
    exact ⟨s.data.toList, by simp [Rep], by
     show s.data.toList.length ≤ maxLen
     rw [Array.length_toList]
     exact hs⟩
   next => cases hc
  next e hk =>
   split at hc
   next t =>
    simp only [Bool.and_eq_true] at hc
    have hce := Nat.eq_of_beq_eq_true hc.1
    rcases DataW.trod_slice hk h with ⟨rfl, _⟩ | ⟨a, len, cap, els, rest, m, _, rfl, _, _, hlc, hm, hlen, hels, _⟩
    ·exact ⟨[], Rep.nil, Nat.zero_le _, fun x hx => by cases hx⟩
    ·have hex : ∀ i, ∃ v : t.I, i < len → Fit t v ∧ ∃ c, Rep (fun _ => True) w t v c ∧ ∀ j u, c[j]? = some u → w.cell? ((a.add (i * t.size)).add j) = some u := fun i => by
      by_cases hi : i < len
      ·have hy := hels i hi
       rw [List.getElem?_eq_getElem (by omega)] at hy
       obtain ⟨c, hcs, hy⟩ := wcy hy
       obtain ⟨v, h1, h2⟩ := wpa hc.2 hy
       exact ⟨v, fun _ => ⟨h2, c, h1, by rw [← hce]; exact (wafg hcs).2⟩⟩
      ·exact ⟨t.dflt, fun h => absurd h hi⟩
     refine ⟨(List.range len).map fun i => (hex i).choose, ⟨some a, cap, by simp, by simpa using hlc, fun i x hx => ?_⟩, by simp; omega, fun x hx => ?_⟩
     ·rw [List.getElem?_map] at hx
      have hi : i < len := by
       rcases Nat.lt_or_ge i len with h | h
       ·exact h
       ·rw [List.getElem?_eq_none (by simpa using h)] at hx; cases hx
      rw [List.getElem?_range hi] at hx
      simp only [Option.map_some, Option.some.injEq] at hx
      subst hx
      obtain ⟨_, c, h1, h2⟩ := (hex i).choose_spec hi
      have hpos := t.size_pos
      have hl := h1.len
      have hsp : a.spot = none := by
       obtain ⟨_, c0, g1, g2⟩ := (hex 0).choose_spec (by omega)
       have hl0 := g1.len
       have h0 : ∃ u, c0[0]? = some u := ⟨c0[0]'(by omega), List.getElem?_eq_getElem _⟩
       obtain ⟨u, hu⟩ := h0
       have := wafh (g2 0 u hu)
       rw [Nat.zero_mul] at this
       have e : (a.add 0).add 0 = a := by simp [Addr.add]
       rw [e] at this
       exact this
      obtain ⟨ab, ao, asp⟩ := a
      simp only at hsp
      subst hsp
      refine ⟨ab, ao, c, rfl, trivial, h1, fun j u hu => ?_⟩
      have := h2 j u hu
      rw [Addr.add_lit, Addr.add_lit, Nat.add_assoc] at this
      exact this
     ·obtain ⟨i, hi, rfl⟩ := List.mem_map.1 hx
      exact ((hex i).choose_spec (List.mem_range.1 hi)).1
   next => cases hc
  next fs hk =>
   simp only [Bool.and_eq_true] at hc
   have hce := Nat.eq_of_beq_eq_true hc.1
   obtain ⟨xs, m, _, _, hlen, hxl, hf⟩ := DataW.trod_struct hk h
   have hlt : cs.length = t.size := by rw [hlen, hce]
   obtain ⟨v, h1, h2⟩ := wnv (P := P) (w := w) (cs := cs) (G := fs.toList) (chk := wkw P n) (fun f hmem t' hc' hsz hle => by
    obtain ⟨i, hi, he⟩ := List.getElem_of_mem hmem
    have hi' : i < fs.size := by simpa using hi
    have := hf i f (by rw [Array.getElem?_eq_getElem hi']; simpa using he)
    rw [List.getElem?_eq_getElem (by omega), hsz] at this
    exact wpa hc' this) (fun _ h => h) hc.2 (by omega)
   rw [List.drop_zero, List.take_of_length_le (by omega)] at h1
   exact ⟨v, h1, h2⟩
  next => cases hc
end
end Go.Proofs.Ytnagpmhaddfgmaa
