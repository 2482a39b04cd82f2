/-
  Regions whose order is drawn: whatever order comes, the text's order says what is known in the end.
-/
import Derived.Test.YtafcpibodfbjnaaB19
namespace Go.Proofs.Ytafcpibodfbjnaa
open Go.RowKit (Below)

structure Plan (E : Env) (tt : Nat → TD) (fz : Nat → List Nat) (ops : Array Oper) (p : Nat) (s0 : St) (σ : Nat → St) (D : Nat → Nat) (Q : Nat → QR) (B : Nat → Bool) : Prop where
  ok : DrawOK fz ops p
  s0 : σ 0 = s0
  step : ∀ k o, k < p → ops[k]? = some o → Step1 E tt ops o (σ k) (σ (k + 1)) (D k) (Q k) (B k)

section
variable {E : Env} {tt : Nat → TD} {fz : Nat → List Nat} {ops : Array Oper} {p : Nat} {s0 : St} {σ : Nat → St} {D : Nat → Nat} {Q : Nat → QR} {B : Nat → Bool}

theorem Plan.oper (h : Plan E tt fz ops p s0 σ D Q B) {k : Nat} (hk : k < p) : ∃ o, ops[k]? = some o :=
  ⟨ops[k]'(Nat.lt_of_lt_of_le hk h.ok.le), Array.getElem?_eq_getElem _⟩

theorem Plan.inj (h : Plan E tt fz ops p s0 σ D Q B) {i j : Nat} (hi : i < p) (hj : j < p) (e : D i = D j) : i = j := by
  obtain ⟨o, ho⟩ := h.oper hi
  obtain ⟨o', ho'⟩ := h.oper hj
  by_cases hne : i = j
  · exact hne
  · exact absurd (by rw [(h.step i o hi ho).dst, (h.step j o' hj ho').dst, e]) (h.ok.apart i j o o' hi hj ho ho' hne)

theorem Plan.slot (h : Plan E tt fz ops p s0 σ D Q B) : ∀ k, k ≤ p → (∀ i, i < k → (σ k).slot (D i) = (Q i).1) ∧ ∀ t, (∀ i, i < k → D i ≠ t) → (σ k).slot t = s0.slot t
  | 0, _ => ⟨fun i hi => absurd hi (Nat.not_lt_zero _), fun t _ => by rw [h.s0]⟩
  | k + 1, hk => by
    obtain ⟨h1, h2⟩ := Plan.slot h k (by omega)
    obtain ⟨o, ho⟩ := h.oper (k := k) (by omega)
    have hs := h.step k o (by omega) ho
    refine ⟨fun i hi => ?_, fun t ht => ?_⟩
    · rw [hs.slot]
      by_cases e : i = k
      · subst e; simp
      · rw [if_neg fun e' => e (h.inj (by omega) (by omega) e').symm]
        exact h1 i (by omega)
    · rw [hs.slot, if_neg (ht k (by omega))]
      exact h2 t fun i hi => ht i (by omega)

theorem Plan.mono (h : Plan E tt fz ops p s0 σ D Q B) {k : Nat} : ∀ {m : Nat}, k ≤ m → m ≤ p → ∀ o x, (σ k).g o = some x → (σ m).g o = some x
  | 0, hk, _, o, x, hx => by rw [Nat.le_zero.1 hk] at hx; exact hx
  | m + 1, hk, hm, o, x, hx => by
    by_cases e : k = m + 1
    · rw [← e]; exact hx
    · have := Plan.mono h (m := m) (by omega) (by omega) o x hx
      obtain ⟨op, ho⟩ := h.oper (k := m) (by omega)
      have hs := h.step m op (by omega) ho
      rw [hs.obj]
      cases hl : look (Q m).2 o with
      | none => exact this
      | some y =>
        have := hs.fresh _ (look_mem hl)
        simp_all

theorem Plan.made (h : Plan E tt fz ops p s0 σ D Q B) {i m : Nat} (hi : i < m) (hm : m ≤ p) {x : Nat × Ob} (hx : x ∈ (Q i).2) : (σ m).g x.1 = some x.2 := by
  obtain ⟨o, ho⟩ := h.oper (k := i) (by omega)
  have hs := h.step i o (by omega) ho
  refine h.mono (k := i + 1) hi hm _ _ ?_
  rw [hs.obj, mem_look hs.nodup hx]

theorem Plan.fresh (h : Plan E tt fz ops p s0 σ D Q B) {i k : Nat} (hi : i < p) (hk : k ≤ i) {x : Nat × Ob} (hx : x ∈ (Q i).2) : (σ k).g x.1 = none := by
  obtain ⟨o, ho⟩ := h.oper (k := i) (by omega)
  cases hg : (σ k).g x.1 with
  | none => rfl
  | some y =>
    have h1 := h.mono hk (by omega) _ _ hg
    rw [(h.step i o hi ho).fresh x hx] at h1
    cases h1

theorem Plan.dis (h : Plan E tt fz ops p s0 σ D Q B) {i j : Nat} (hi : i < p) (hj : j < p) (hne : i ≠ j) {x y : Nat × Ob} (hx : x ∈ (Q i).2) (hy : y ∈ (Q j).2) : x.1 ≠ y.1 := by
  intro e
  rcases Nat.lt_or_ge i j with h1 | h1
  · have a := h.made h1 (by omega) hx
    rw [e, h.fresh hj (Nat.le_refl _) hy] at a
    cases a
  · have a := h.made (show j < i by omega) (by omega) hy
    rw [← e, h.fresh hi (Nat.le_refl _) hx] at a
    cases a

open Classical in
/-- The slots when the operations of 'listed' have come. -/
noncomputable def SL (p : Nat) (s0 : St) (D : Nat → Nat) (Q : Nat → QR) (listed : Array Bool) (t : Nat) : AV :=
  if h : ∃ i, i < p ∧ listed[i]? = some true ∧ D i = t then (Q h.choose).1 else s0.slot t

theorem Plan.sl_in (h : Plan E tt fz ops p s0 σ D Q B) {listed : Array Bool} {i : Nat} (hi : i < p) (hl : listed[i]? = some true) : SL p s0 D Q listed (D i) = (Q i).1 := by
  have hex : ∃ j, j < p ∧ listed[j]? = some true ∧ D j = D i := ⟨i, hi, hl, rfl⟩
  unfold SL
  rw [dif_pos hex]
  obtain ⟨h1, _, h3⟩ := hex.choose_spec
  rw [h.inj h1 hi h3]

theorem sl_out {listed : Array Bool} {t : Nat} (h : ∀ i, i < p → listed[i]? = some true → D i ≠ t) : SL p s0 D Q listed t = s0.slot t := by
  unfold SL
  rw [dif_neg]
  rintro ⟨i, h1, h2, h3⟩
  exact h i h1 h2 h3

theorem set_at {listed : Array Bool} {i : Nat} (hi : i < listed.size) (j : Nat) : (listed.setIfInBounds i true)[j]? = if i = j then some true else listed[j]? := by
  rw [Array.getElem?_setIfInBounds]
  split
  next e => rfl
  next => rfl

theorem Plan.sl_set (h : Plan E tt fz ops p s0 σ D Q B) {listed : Array Bool} {i : Nat} (hi : i < p) (hs : i < listed.size) (t : Nat) : SL p s0 D Q (listed.setIfInBounds i true) t = if D i = t then (Q i).1 else SL p s0 D Q listed t := by
  split
  next e => rw [← e]; exact h.sl_in hi (by rw [set_at hs]; simp)
  next e =>
    by_cases hex : ∃ j, j < p ∧ listed[j]? = some true ∧ D j = t
    · obtain ⟨j, h1, h2, h3⟩ := hex
      rw [← h3, h.sl_in h1 h2]
      refine h.sl_in h1 ?_
      rw [set_at hs]
      split
      · rfl
      · exact h2
    · have hout : ∀ j, j < p → listed[j]? = some true → D j ≠ t := fun j h1 h2 h3 => hex ⟨j, h1, h2, h3⟩
      rw [sl_out hout]
      refine sl_out fun j h1 h2 h3 => ?_
      rw [set_at hs] at h2
      split at h2
      next e' => subst e'; exact e h3
      next => exact hout j h1 h2 h3

/-- What an operation that may come next looks at is as in the text's order. -/
theorem Plan.sl_looks (h : Plan E tt fz ops p s0 σ D Q B) {listed : Array Bool} (hc : ∀ (i : Nat) (o : Oper), listed[i]? = some true → ops[i]? = some o → ∀ e ∈ edgesOf o, listed[e]? = some true) {i : Nat} {o : Oper} (hi : i < p) (ho : ops[i]? = some o)
    (hn : listed[i]? ≠ some true) (hr : ∀ e ∈ edgesOf o, listed[e]? = some true) {t : Nat} (ht : t ∈ o.looksAt ops) : SL p s0 D Q listed t = (σ i).slot t := by
  obtain ⟨k1, k2⟩ := h.slot i (by omega)
  by_cases hex : ∃ j, j < p ∧ D j = t
  · obtain ⟨j, hj, e⟩ := hex
    obtain ⟨o', ho'⟩ := h.oper hj
    have hd := (h.step j o' hj ho').dst
    rcases h.ok.order i j o o' (D j) hi hj ho ho' hd (by rw [e]; exact ht) with h1 | h1 | h1
    · subst h1
      rw [k2 t fun i' hi' e' => absurd (h.inj (by omega) hj (e'.trans e.symm)) (by omega)]
      exact sl_out fun j' hj' hl' e' => hn (by rw [h.inj hi hj' (e.trans e'.symm)]; exact hl')
    · rw [← e, h.sl_in hj (hr j h1)]
      exact (k1 j (h.ok.back i o ho j h1)).symm
    · have hlt := h.ok.back j o' ho' i h1
      rw [k2 t fun i' hi' e' => absurd (h.inj (by omega) hj (e'.trans e.symm)) (by omega)]
      exact sl_out fun j' hj' hl' e' => hn (hc j o' (by rw [h.inj hj hj' (e.trans e'.symm)]; exact hl') ho' i h1)
  · have hout : ∀ j, j < p → D j ≠ t := fun j hj e => hex ⟨j, hj, e⟩
    rw [k2 t fun j hj => hout j (by omega)]
    exact sl_out fun j hj _ => hout j hj

theorem ready_spec {listed : Array Bool} {i : Nat} (hs : listed.size = ops.size) : i ∈ Region.ready .any ops listed ↔ ∃ o, ops[i]? = some o ∧ listed[i]? ≠ some true ∧ ∀ e ∈ edgesOf o, listed[e]? = some true := by
  unfold Region.ready
  simp only [List.mem_filter, List.mem_range, Bool.and_eq_true, Bool.not_eq_true']
  constructor
  · rintro ⟨hi, h1, h2⟩
    refine ⟨ops[i], Array.getElem?_eq_getElem hi, fun e => by simp [Array.getD_eq_getD_getElem?, e] at h1, fun e he => ?_⟩
    rw [Array.getElem?_eq_getElem hi] at h2
    simp only [Option.map_some, Option.getD_some, Array.all_eq_true] at h2
    obtain ⟨x, hx, rfl⟩ := List.mem_map.1 he
    obtain ⟨hx1, hx2⟩ := List.mem_filter.1 hx
    obtain ⟨k, hk, hxk⟩ := List.getElem_of_mem hx1
    have := h2 k (by simpa using hk)
    simp only [Array.getElem_toList] at hxk
    rw [hxk] at this
    simp only [hx2, Bool.not_true, Bool.false_or] at this
    cases hl : listed[x.on]? with
    | none => simp [Array.getD_eq_getD_getElem?, hl] at this
    | some b => simp [Array.getD_eq_getD_getElem?, hl] at this; rw [this]
  · rintro ⟨o, ho, h1, h2⟩
    have hi : i < ops.size := by
      rcases Nat.lt_or_ge i ops.size with h | h
      · exact h
      · rw [Array.getElem?_eq_none h] at ho; cases ho
    refine ⟨hi, ?_, ?_⟩
    · have hi' : i < listed.size := by omega
      rw [Array.getElem?_eq_getElem hi'] at h1
      simp [hi']
      simpa using h1
    · rw [ho]
      simp only [Option.map_some, Option.getD_some, Array.all_eq_true, Bool.or_eq_true, Bool.not_eq_true']
      intro k hk
      cases hb : Region.binds .any o.after[k] with
      | false => exact .inl rfl
      | true =>
        refine .inr ?_
        have := h2 _ (List.mem_map.2 ⟨o.after[k], List.mem_filter.2 ⟨by simp, hb⟩, rfl⟩)
        simp [Array.getD_eq_getD_getElem?, this]
end
end Go.Proofs.Ytafcpibodfbjnaa
