/-
 Regions whose order is drawn: what is checked of the trace.
-/
import Derived.Test.YtnagpmhaddfgmaaB18
namespace Go.Proofs.Ytnagpmhaddfgmaa
open Go.RowKit (Below)
theorem wli : ∀ {l : List Oper} {acc : List (List Nat)} {i : Nat} {a : List Nat}, nth acc i = some a → nth (wzd l acc) i = some a
 | [], _, _, _, h => h
 | o :: l, acc, i, a, h => by
  rw [wzd]
  refine wli ?_
  rw [wo] at h ⊢
  have hi := (List.getElem?_eq_some_iff.1 h).1
  rw [List.getElem?_append_left hi]
  exact h
theorem wacw {n : Nat} : ∀ {l : List Nat} {m : Nat}, n ∈ dd l m → n ∈ l
 | [], _, h => h
 | x :: l, m, h => by
  unfold dd at h
  split at h
  ·exact List.mem_cons_of_mem _ (wacw h)
  ·rcases List.mem_cons.1 h with e | h
   ·rw [e]; exact List.mem_cons_self
   ·exact List.mem_cons_of_mem _ (wacw h)
theorem wrm : ∀ {l : List Oper} {acc : List (List Nat)} {k : Nat} {o : Oper}, nth l k = some o → (∀ i o', nth l i = some o' → ∀ e ∈ wat o', e < acc.length + i) →
  ∃ a, nth (wzd l acc) (acc.length + k) = some a ∧ ∀ n ∈ a, n ∈ wat o ∨ ∃ e ∈ wat o, ∃ a', nth (wzd l acc) e = some a' ∧ n ∈ a'
 | [], _, _, _, h, _ => by simp [nth] at h
 | o' :: l, acc, 0, o, h, hb => by
  simp only [nth, Option.some.injEq] at h
  subst h
  refine ⟨dd (wat o' ++ (wat o').flatMap fun j => (nth acc j).getD []) 0, ?_, fun n hn => ?_⟩
  ·rw [wzd]
   refine wli ?_
   rw [wo, List.getElem?_append_right (by omega)]
   simp
  ·rcases List.mem_append.1 (wacw hn) with h | h
   ·exact .inl h
   ·obtain ⟨e, he, hn⟩ := List.mem_flatMap.1 h
    have hlt := hb 0 o' rfl e he
    rw [Nat.add_zero] at hlt
    refine .inr ⟨e, he, acc[e], ?_, ?_⟩
    ·rw [wzd]
     refine wli ?_
     rw [wo, List.getElem?_append_left hlt]
     exact List.getElem?_eq_getElem hlt
    ·rw [wo, List.getElem?_eq_getElem hlt] at hn
     exact hn
 | o' :: l, acc, k + 1, o, h, hb => by
  simp only [nth] at h
  have := wrm (l := l) (acc := acc ++ [dd (wat o' ++ (wat o').flatMap fun j => (nth acc j).getD []) 0]) (k := k) h (fun i o'' hi e he => by
   have := hb (i + 1) o'' hi e he
   simp only [List.length_append, List.length_singleton]
   omega)
  rw [wzd]
  simp only [List.length_append, List.length_singleton] at this
  rw [show acc.length + (k + 1) = acc.length + 1 + k by omega]
  exact this
theorem wzy (ops : Array Oper) (o : Oper) : wpc ops.toList o = o.looksAt ops := by
 unfold wpc Oper.looksAt
 congr 1
 cases o.guard with
 | none => rfl
 | some gd =>
  obtain ⟨g, b⟩ := gd
  simp only [wo]
  rw [Array.getElem?_toList]
def nmOf (ops : Array Oper) (us : List (LU × List Nat)) (i : Nat) : List Nat := match ops[i]?, nth us i with
 | some o, some x => effN ops.toList us o x
 | _, _ => []
structure Plan (E : Env) (tt : Nat → TD) (ops : Array Oper) (p : Nat) (s0 : FS) (us : List (LU × List Nat)) (an : Nat → List Nat) : Prop where
 le : p ≤ ops.size
 len : us.length = p
 step : ∀ k o x, ops[k]? = some o → nth us k = some x → ∃ b, Step1 E tt (fun j => ops[j]?) o (wah s0 us (fun _ => true) k) x b
 back : ∀ i o, ops[i]? = some o → ∀ e ∈ wat o, e < i
 chain : ∀ i o, ops[i]? = some o → p < i → i - 1 ∈ wat o
 sink : p < ops.size → ∀ i, i < p → ∃ j o, i < j ∧ j ≤ p ∧ ops[j]? = some o ∧ i ∈ wat o
 anc : ∀ i o, ops[i]? = some o → ∀ n ∈ an i, n ∈ wat o ∨ ∃ e ∈ wat o, n ∈ an e
 pair : ∀ i j oi oj x y, i < j → ops[i]? = some oi → ops[j]? = some oj → nth us i = some x → nth us j = some y → i ∈ an j ∨
  (∀ t ∈ x.1.touch, t ∉ oj.looksAt ops ∧ t ∉ y.1.touch) ∧ (∀ t ∈ y.1.touch, t ∉ oi.looksAt ops) ∧ (∀ n ∈ x.1.ids, n ∉ nmOf ops us j ∧ n ∉ y.1.ids) ∧ ∀ n ∈ y.1.ids, n ∉ nmOf ops us i
 app : ∀ k x b, nth us k = some x → x.1.und = some b → ∀ o ∈ x.1.ids, (∀ t, t ≠ b → cl2 o (s0.1 t) = true ∨ ∃ m z, m ∈ an k ∧ nth us m = some z ∧ z.1.und = some t ∧ z.1.d ≠ none) ∧ (∀ q y, q ≠ o → s0.2 q = some y → clOb o y = true) ∧
  ∀ n y, nth us n = some y → n ≠ k → k ∉ an n → (∀ q, y.1.d = some q → cl2 o q.2 = true ∨ q.1 = b ∨ ∃ m z, n < m ∧ m ∈ an k ∧ nth us m = some z ∧ z.1.und = some q.1 ∧ z.1.d ≠ none) ∧ ∀ q ∈ y.1.objs, q.1 = o ∨ clOb o q.2 = true
theorem wacy {ops : Array Oper} {us : List (LU × List Nat)} {i : Nat} {o : Oper} {x : LU × List Nat} (ho : ops[i]? = some o) (hx : nth us i = some x) :
  nmOf ops us i = x.2 ∨ wvl o = true ∨ wgu o = true ∧ ∀ n ∈ x.2, ∀ k y ok, nth us k = some y → ops[k]? = some ok → n ∈ y.1.ids → wic ok = true := by
 unfold nmOf
 rw [ho, hx]
 simp only
 unfold effN
 split
 next h => exact .inr (.inl h)
 split
 next h =>
  simp only [Bool.and_eq_true, List.all_eq_true, List.mem_range] at h
  refine .inr <| .inr ⟨h.1, fun n hn k y ok hy hok hin => ?_⟩
  have hk : k < us.length := by rw [wo] at hy; exact (List.getElem?_eq_some_iff.1 hy).1
  have := h.2 n hn k hk
  have hok' : nth ops.toList k = some ok := by rw [wo]; simpa using hok
  rw [hy, hok'] at this
  simp only [Bool.or_eq_true, Bool.not_eq_true'] at this
  rcases this with h1 | h1
  ·rw [wil.2 hin] at h1; cases h1
  ·exact h1
 next => exact .inl rfl
theorem wacz {E : Env} {tt : Nat → TD} {ops : Array Oper} {s0 : FS} {us : List (LU × List Nat)} (hst : ∀ k o x, ops[k]? = some o → nth us k = some x → ∃ b, Step1 E tt (fun j => ops[j]?) o (wah s0 us (fun _ => true) k) x b) (hop : ∀ k x, nth us k = some x → ∃ o, ops[k]? = some o)
  {n : Nat} (hn : ∀ k y ok, nth us k = some y → ops[k]? = some ok → n ∈ y.1.ids → wic ok = true) (sel : Nat → Bool) : ∀ m, LenEq (s0.2 n) ((wah s0 us sel m).2 n) := by
 have obj : ∀ k x, nth us k = some x → LenEq (s0.2 n) ((wah s0 us (fun _ => true) k).2 n) → ∀ y, look x.1.objs n = some y → LenEq (s0.2 n) (some y) := fun k x hx hl y hy => by
  obtain ⟨o, ho⟩ := hop k x hx
  obtain ⟨b, h⟩ := hst k o x ho hx
  cases b with
  | false =>
   have := h.skip rfl
   rw [this] at hy
   cases hy
  | true =>
   obtain ⟨c, hrun, _⟩ := h.run rfl
   have hst := hn k x o hx ho (wwg.1 ⟨y, hy⟩)
   cases c with
   | false => exact hl.trans (wact hst hrun n y hy)
   | true =>
    rcases whg hrun with ⟨_, _, _, _, ho', _⟩ | ⟨_, _, ho', _⟩ <;> unfold wic at hst <;> rw [ho'] at hst <;> cases hst
 have step : ∀ {g : Nat → Option Ob} {x : LU × List Nat}, LenEq (s0.2 n) (g n) → (∀ y, look x.1.objs n = some y → LenEq (s0.2 n) (some y)) → LenEq (s0.2 n) (gA g x.1 n) := fun {g x} h1 h2 => by
  unfold gA
  cases hl : look x.1.objs n with
  | none => exact h1
  | some y => exact h2 y hl
 have full : ∀ m, LenEq (s0.2 n) ((wah s0 us (fun _ => true) m).2 n) := by
  intro m
  induction m with
  | zero => exact .inl rfl
  | succ m ih =>
   simp only [wah]
   cases hx : nth us m with
   | none => exact ih
   | some x => exact step ih (obj m x hx ih)
 intro m
 induction m with
 | zero => exact .inl rfl
 | succ m ih =>
  simp only [wah]
  cases hx : nth us m with
  | none => exact ih
  | some x =>
   simp only
   split
   ·exact step ih (obj m x hx (full m))
   ·exact ih
theorem wrn {ops : List Oper} {p : Nat} (h : wgd ops p = true) : (∀ i o, nth ops i = some o → p < i → i - 1 ∈ wat o) ∧ (p ≠ ops.length → ∀ i, i < p → ∃ j o, i < j ∧ j ≤ p ∧ nth ops j = some o ∧ i ∈ wat o) := by
 simp only [wgd, Bool.and_eq_true, List.all_eq_true, List.mem_range, Bool.or_eq_true] at h
 obtain ⟨h1, h2⟩ := h
 constructor
 ·intro i o ho hp
  have hi : i < ops.length := by
   rw [wo] at ho
   exact (List.getElem?_eq_some_iff.1 ho).1
  have := h1 i hi
  rw [ho] at this
  simp only [Bool.or_eq_true, Bool.not_eq_true', List.any_eq_true] at this
  rcases this with h | ⟨e, he, hee⟩
  ·have : Nat.blt p i = true := by simpa [Nat.blt_eq] using hp
   rw [this] at h
   cases h
  ·rw [Nat.eq_of_beq_eq_true hee]; exact he
 ·intro hne i hi
  rcases h2 with h | h
  ·exact absurd (Nat.eq_of_beq_eq_true h) hne
  ·obtain ⟨j, hj, hh⟩ := List.any_eq_true.1 (h i hi)
   simp only [Bool.and_eq_true, Nat.blt_eq] at hh
   obtain ⟨hij, hh⟩ := hh
   split at hh
   next o ho =>
    obtain ⟨e, he, hee⟩ := List.any_eq_true.1 hh
    exact ⟨j, o, hij, by have := List.mem_range.1 hj; omega, ho, by rw [Nat.eq_of_beq_eq_true hee]; exact he⟩
   next => cases hh
theorem woh {f : Nat → Bool} : ∀ {n i : Nat}, i ≤ wte f n i ∧ wte f n i ≤ i + n ∧ (wte f n i = i + n ∨ f (wte f n i) = true)
 | 0, i => ⟨Nat.le_refl _, Nat.le_refl _, .inl rfl⟩
 | n + 1, i => by
  simp only [wte]
  split
  next h => exact ⟨Nat.le_refl _, by omega, .inr h⟩
  next =>
   obtain ⟨h1, h2, h3⟩ := woh (f := f) (n := n) (i := i + 1)
   exact ⟨by omega, by omega, h3.imp (by omega) id⟩
theorem wty (ops : List Oper) : wgd ops ops.length = true := by
 simp only [wgd, Bool.and_eq_true, List.all_eq_true, List.mem_range, Bool.or_eq_true]
 refine ⟨fun i hi => ?_, .inl (Nat.beq_refl _)⟩
 split
 ·have : Nat.blt ops.length i = false := by
   cases hb : Nat.blt ops.length i with
   | true => rw [Nat.blt_eq] at hb; omega
   | false => rfl
  rw [this]
  rfl
 ·rfl
theorem woi (ops : List Oper) : wfy ops ≤ ops.length ∧ wgd ops (wfy ops) = true := by
 obtain ⟨h1, h2, h3⟩ := woh (f := wgd ops) (n := ops.length) (i := 0)
 unfold wfy
 refine ⟨by omega, h3.elim (fun h => ?_) id⟩
 rw [h, Nat.zero_add]
 exact wty ops
theorem wapb {E : Env} {tt : Nat → TD} {ops : Array Oper} {ds : Nat → Bool} {s s1 : St} {us : List (LU × List Nat)} (ht : (wga E tt (fun j => ops[j]?) ds (ops.toList.take (wfy ops.toList)) s []).ev = some (s1, us))
  (hc : wtf ops.toList (wfy ops.toList) s us = true) : Plan E tt ops (wfy ops.toList) (s.slot, s.g) us (fun i => (nth (wzd ops.toList []) i).getD []) ∧ (s1.slot, s1.g) = wah (s.slot, s.g) us (fun _ => true) (wfy ops.toList) := by
 obtain ⟨us', h1, h2, h3, h4⟩ := wlh ht
 simp only [List.nil_append] at h1
 subst h1
 obtain ⟨hp1, hp2⟩ := woi ops.toList
 have hlen : us.length = wfy ops.toList := by rw [h2, List.length_take]; omega
 have hlt : (ops.toList.take (wfy ops.toList)).length = wfy ops.toList := by rw [List.length_take]; omega
 rw [hlt] at h4
 obtain ⟨hch, hsk⟩ := wrn hp2
 have nthA : ∀ i, nth ops.toList i = ops[i]? := fun i => by rw [wo]; simp
 simp only [wtf, Bool.and_eq_true, List.all_eq_true, List.mem_range] at hc
 obtain ⟨⟨c1, c3⟩, c4⟩ := hc
 have hback : ∀ i o, ops[i]? = some o → ∀ e ∈ wat o, e < i := fun i o ho e he => by
  simp only [wamj, List.all_eq_true, List.mem_range] at c1
  have hi : i < ops.toList.length := by
   have := (Array.getElem?_eq_some_iff.1 ho).1
   simpa using this
  have := c1 i hi
  rw [nthA, ho] at this
  simp only [List.all_eq_true, Nat.blt_eq] at this
  exact this e he
 have hus : ∀ {k x}, nth us k = some x → k < wfy ops.toList := fun {k x} h => by
  rw [wo] at h
  rw [← hlen]
  exact (List.getElem?_eq_some_iff.1 h).1
 have hmem : ∀ {l : List Nat} {n : Nat}, has l n = true ↔ n ∈ l := wil
 have dne : ∀ {m z c}, nth us m = some z → z.1.und = some c → z.1.d ≠ none := fun {m z c} hz hc hd => by
  have hmp := hus hz
  obtain ⟨om, hom⟩ : ∃ om, ops[m]? = some om := ⟨_, Array.getElem?_eq_getElem (by simpa using Nat.lt_of_lt_of_le hmp hp1)⟩
  obtain ⟨bb, hst⟩ := h3 m om z (by rw [wo, List.getElem?_take, if_pos hmp]; simpa using hom) hz
  cases bb with
  | false =>
   have := hst.skip rfl
   rw [this] at hc
   cases hc
  | true =>
   obtain ⟨cc, hrun, _⟩ := hst.run rfl
   cases cc with
   | false => exact alu_und hrun hc hd
   | true =>
    rcases whg hrun with ⟨_, _, _, _, _, _, _, _, e⟩ | ⟨_, _, _, _, e⟩
    ·rw [e] at hc
     cases hc
    ·rw [e] at hd
     cases hd
 refine ⟨⟨by simpa using hp1, hlen, fun k o x ho hx => h3 k o x ?_ hx, hback, fun i o ho hp => hch i o (by rw [nthA]; exact ho) hp, fun hp i hi => ?_, fun i o ho n hn => ?_, fun i j oi oj x y hij hoi hoj hx hy => ?_, fun k x b hx hu o ho => ?_⟩, h4⟩
 ·have hk := hus hx
  rw [wo, List.getElem?_take, if_pos hk]
  simpa using ho
 ·obtain ⟨j, o, h5, h6, h7, h8⟩ := hsk (by simp; omega) i hi
  exact ⟨j, o, h5, h6, by rw [← nthA]; exact h7, h8⟩
 ·obtain ⟨a, k1, k2⟩ := wrm (l := ops.toList) (acc := []) (k := i) (o := o) (by rw [nthA]; exact ho) fun i' o' hi' e he => by
   rw [nthA] at hi'
   simpa using hback i' o' hi' e he
  simp only [List.length_nil, Nat.zero_add] at k1
  rw [k1, Option.getD_some] at hn
  rcases k2 n hn with h | ⟨e, he, a', ha', hn'⟩
  ·exact .inl h
  ·exact .inr ⟨e, he, by rw [ha']; exact hn'⟩
 ·have hj := hus hy
  have := c3 j hj i hij
  unfold waml at this
  rw [nthA, nthA, hoi, hoj, hx, hy] at this
  have hni : nmOf ops us i = effN ops.toList us oi x := by unfold nmOf; rw [hoi, hx]
  have hnj : nmOf ops us j = effN ops.toList us oj y := by unfold nmOf; rw [hoj, hy]
  rw [hni, hnj]
  cases ha : nth (wzd ops.toList []) j with
  | none => rw [ha] at this; cases this
  | some a =>
   rw [ha] at this
   simp only [Bool.or_eq_true, apart, Bool.and_eq_true, wzy] at this
   rcases this with h | ⟨⟨⟨k1, k2⟩, k3⟩, k4⟩
   ·exact .inl (hmem.1 h)
   ·refine .inr ⟨fun t ht => ?_, wjz.1 k2, fun n hn => ?_, wjz.1 k4⟩
    ·have := wjz.1 k1 t ht
     exact ⟨fun h => this (List.mem_append_left _ h), fun h => this (List.mem_append_right _ h)⟩
    ·have := wjz.1 k3 n hn
     exact ⟨fun h => this (List.mem_append_left _ h), fun h => this (List.mem_append_right _ h)⟩
 ·have hk := hus hx
  have := c4 k hk
  rw [hx] at this
  simp only [wazs, hu, List.all_eq_true, Bool.and_eq_true, Bool.or_eq_true] at this
  obtain ⟨⟨k1, k2⟩, k3⟩ := this o ho
  refine ⟨fun t ht => ?_, fun q y hq hy => ?_, fun n y hy hnk hkn => ?_⟩
  ·simp only [St.slot]
   cases hl : look s.fr t with
   | none => exact .inl rfl
   | some v =>
    rcases k1 _ (wbw hl) with (h | h) | h
    ·exact absurd (Nat.eq_of_beq_eq_true h) ht
    ·exact .inl h
    ·refine .inr ?_
     unfold wabn at h
     split at h
     next ak hak =>
      obtain ⟨m, hm, hh⟩ := List.any_eq_true.1 h
      simp only [Bool.and_eq_true] at hh
      obtain ⟨h8, h9⟩ := hh
      split at h9
      next z hz =>
       split at h9
       next c hc => exact ⟨m, z, by rw [hak, Option.getD_some]; exact hmem.1 h8, hz, by rw [hc, Nat.eq_of_beq_eq_true h9], dne hz hc⟩
       next => cases h9
      next => cases h9
     next => cases h
  ·rcases k2 _ (wbw hy) with h | h
   ·exact absurd (Nat.eq_of_beq_eq_true h) hq
   ·exact h
  ·have hn := hus hy
   have := k3 n (List.mem_range.2 (by rw [hlen]; exact hn))
   rw [hy] at this
   cases ha : nth (wzd ops.toList []) n with
   | none => rw [ha] at this; simp at this
   | some a =>
    cases hak : nth (wzd ops.toList []) k with
    | none => rw [ha, hak] at this; simp at this
    | some ak =>
     rw [ha, hak] at this
     simp only [Bool.or_eq_true, Bool.and_eq_true, List.all_eq_true] at this
     rw [ha, Option.getD_some] at hkn
     rcases this with (h | h) | ⟨h5, h6⟩
     ·exact absurd (Nat.eq_of_beq_eq_true h) hnk
     ·exact absurd (hmem.1 h) hkn
     ·refine ⟨fun q hq => ?_, fun q hq => (h6 q hq).imp Nat.eq_of_beq_eq_true id⟩
      rw [hq] at h5
      simp only [Bool.or_eq_true] at h5
      rcases h5 with (h | h) | h
      ·exact .inl h
      ·exact .inr (.inl (Nat.eq_of_beq_eq_true h))
      ·obtain ⟨m, hm, hh⟩ := List.any_eq_true.1 h
       simp only [Bool.and_eq_true, Nat.blt_eq] at hh
       obtain ⟨⟨h7, h8⟩, h9⟩ := hh
       split at h9
       next z hz =>
        split at h9
        next c hc =>
         refine .inr (.inr ⟨m, z, h7, ?_, hz, by rw [hc, Nat.eq_of_beq_eq_true h9], ?_⟩)
         ·simp only [hak, Option.getD_some]
          exact hmem.1 h8
         ·exact dne hz hc
        next => cases h9
       next => cases h9
where
 alu_und {E : Env} {tt : Nat → TD} {g : Nat → Option Ob} {f : Operand → AV} {o : Oper} {u : LU} (h : (alu E tt g f o).ev = some u) {c : Nat} (hc : u.und = some c) (hd : u.d = none) : False := by
  unfold alu at h
  split at h
  ·unfold wjh at h
   split at h
   ·split at h
    ·split at h
     ·simp only [Tr.ev_l, Option.some.injEq] at h
      subst h
      cases hc
     ·cases h
    ·cases h
   ·split at h
    ·split at h
     ·split at h
      ·obtain ⟨_, h⟩ := ev_g h
       simp only [Tr.ev_l, Option.some.injEq] at h
       subst h
       cases hc
      ·cases h
     ·cases h
    ·split at h
     ·split at h
      ·split at h
       ·obtain ⟨_, h⟩ := ev_g h
        simp only [Tr.ev_l, Option.some.injEq] at h
        subst h
        cases hc
       ·cases h
      ·cases h
     ·cases h
    ·split at h
     ·split at h
      ·obtain ⟨_, h⟩ := ev_g h
       simp only [Tr.ev_l, Option.some.injEq] at h
       subst h
       cases hc
      ·cases h
     ·cases h
    ·cases h
   ·split at h
    ·split at h
     ·split at h
      ·obtain ⟨_, h⟩ := ev_g h
       simp only [Tr.ev_l, Option.some.injEq] at h
       subst h
       cases hc
      ·cases h
     ·cases h
    ·cases h
   ·cases h
  ·split at h
   ·split at h
    ·split at h
     ·unfold wdf at h
      split at h
      ·split at h
       ·split at h
        ·obtain ⟨_, h⟩ := ev_g h
         simp only [Tr.ev_l, Option.some.injEq] at h
         subst h
         cases hd
        ·cases h
       ·cases h
      ·cases h
     unfold wfr at h
     split at h
     ·split at h
      ·split at h
       ·split at h
        ·split at h
         ·split at h
          ·obtain ⟨_, h⟩ := ev_g h
           simp only [Tr.ev_l, Option.some.injEq] at h
           subst h
           cases hd
          ·cases h
         ·cases h
        ·cases h
       ·cases h
      ·cases h
     ·cases h
    ·cases h
   ·cases h
  ·rw [Tr.ev_bind] at h
   obtain ⟨q, _, h⟩ := Option.bind_eq_some_iff.1 h
   split at h
   ·simp only [Tr.ev_l, Option.some.injEq] at h
    subst h
    cases hd
   ·cases h
  ·rw [Tr.ev_bind] at h
   obtain ⟨q, _, h⟩ := Option.bind_eq_some_iff.1 h
   split at h
   ·simp only [Tr.ev_l, Option.some.injEq] at h
    subst h
    cases hd
   ·cases h
  ·cases h
end Go.Proofs.Ytnagpmhaddfgmaa
