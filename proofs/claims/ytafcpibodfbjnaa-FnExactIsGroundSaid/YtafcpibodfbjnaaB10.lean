/-
  What a call hands back is taken over.
-/
import Derived.Test.YtafcpibodfbjnaaB9
namespace Go.Proofs.Ytafcpibodfbjnaa
open Go.RowKit (Below)

theorem look_mem {α : Type} : ∀ {l : List (Nat × α)} {k : Nat} {x : α}, look l k = some x → (k, x) ∈ l
  | [], _, _, h => by simp [look] at h
  | (j, y) :: r, k, x, h => by
    simp only [look] at h
    split at h
    next e =>
      have := Nat.eq_of_beq_eq_true e
      subst this
      cases h
      exact List.mem_cons_self
    next => exact List.mem_cons_of_mem _ (look_mem h)

theorem mem_look {α : Type} : ∀ {l : List (Nat × α)} {k : Nat} {x : α}, (l.map (·.1)).Nodup → (k, x) ∈ l → look l k = some x
  | [], _, _, _, h => by cases h
  | (j, y) :: r, k, x, hn, h => by
    simp only [List.map_cons, List.nodup_cons] at hn
    simp only [look]
    cases h with
    | head => simp
    | tail _ h =>
      have hne : j ≠ k := fun e => hn.1 (by rw [e]; exact List.mem_map_of_mem h)
      have : Nat.beq j k = false := by
        cases hb : Nat.beq j k with
        | true => exact absurd (Nat.eq_of_beq_eq_true hb) hne
        | false => rfl
      rw [this]
      exact mem_look hn.2 h

section
variable {P : Program} {tt : Nat → TD} {w : World} {lo : Nat} {μ : Nat → Option Value} {S : Nat → Prop} {X : Nat → Prop} {g : Nat → Option Ob} {o : Oper} {a : Act} {E : Env}

/-- The call's arrays among the caller's. -/
def join (μ μr : Nat → Option Value) (d : Nat) (o : Nat) : Option Value :=
  match μ o with
  | some mv => some mv
  | none => if d * 64 ≤ o ∧ o < d * 64 + 64 then μr (o - d * 64) else none

theorem join_new {μr : Nat → Option Value} {d k : Nat} {mv : Value} (h : μr k = some mv) (hk : k < 64) (hf : μ (d * 64 + k) = none) : join μ μr d (d * 64 + k) = some mv := by
  simp only [join, hf]
  rw [if_pos (by omega), show d * 64 + k - d * 64 = k by omega, h]

theorem join_old {μr : Nat → Option Value} {d o : Nat} {mv : Value} (h : μ o = some mv) : join μ μr d o = some mv := by simp [join, h]

theorem join_inv {μr : Nat → Option Value} {d o : Nat} {mv : Value} (h : join μ μr d o = some mv) : μ o = some mv ∨ (μ o = none ∧ ∃ k, k < 64 ∧ o = d * 64 + k ∧ μr k = some mv) := by
  simp only [join] at h
  split at h
  next mv' e => cases h; exact .inl e
  next e =>
    split at h
    next hk => exact .inr ⟨e, o - d * 64, by omega, by omega, h⟩
    next => cases h

theorem ren0_rel {w' : World} {lo' : Nat} {μr : Nat → Option Value} {Sr S' : Nat → Prop} {d : Nat} (hfree : ∀ k mv, μr k = some mv → k < 64 ∧ μ (d * 64 + k) = none) {v : AV} {x : Value} (hv : res0 v = true)
    (hS : deep0 v = false ∨ ∀ b, b < w'.heap.size → Sr b → S' b) (h : RelV P w' lo' μr Sr v x) : RelV P w' lo (join μ μr d) S' (ren0 d v) x := by
  cases h with
  | dat ht h =>
    rcases hS with hd | hS
    · exact .dat ht (h.plain (by simpa [deep0] using hd))
    · exact .dat ht (h.step fun b hb hs => ⟨hS b hb hs, rfl⟩)
  | nilsl => exact .nilsl
  | arr h => obtain ⟨h1, h2⟩ := hfree _ _ h; exact .arr (join_new h h1 h2)
  | undef => exact .undef
  | _ => simp [res0] at hv

theorem ren1_rel {w' : World} {lo' : Nat} {μr : Nat → Option Value} {Sr S' : Nat → Prop} {d : Nat} (hfree : ∀ k mv, μr k = some mv → k < 64 ∧ μ (d * 64 + k) = none) {v : AV} {x : Value} (hv : res1 v = true)
    (hS : deep1 v = false ∨ ∀ b, b < w'.heap.size → Sr b → S' b) (h : RelV P w' lo' μr Sr v x) : RelV P w' lo (join μ μr d) S' (ren1 d v) x := by
  have h0 := h
  cases h with
  | @agg _ vs xs hl h =>
    refine .agg (by simpa using hl) fun j v hj => ?_
    rw [nth_eq, List.getElem?_map] at hj
    cases hu : vs[j]? with
    | none => rw [hu] at hj; cases hj
    | some u =>
      rw [hu] at hj
      simp only [Option.map_some, Option.some.injEq] at hj
      subst hj
      have hm := List.mem_of_getElem? hu
      refine ren0_rel hfree ?_ (hS.imp (fun e => ?_) id) (h j u (by rw [nth_eq]; exact hu))
      · simp only [res1, List.all_eq_true] at hv
        exact hv u hm
      · simp only [deep1, List.any_eq_false] at e
        simpa using e u hm
  | _ => exact ren0_rel hfree (by simpa only [res1] using hv) (by simpa only [deep1] using hS) h0

theorem adopt_ok (hm : Mem P X lo g μ w) {w' : World} {Xc : Nat → Prop} {res : List AV × List (Nat × Ob)} {x : Value} {d : Nat} (hX1 : ∀ b, X b → Xc b)
    (hX2 : (res.1.any deep1 || res.2.any fun p => deepOb p.2) = false ∨ ∀ o mv b, μ o = some mv → rootV mv = some b → Xc b) (hok : okRes res = true) (hr : ResOK P Xc w w' res x)
    (hfree : ∀ p ∈ res.2, μ (d * 64 + p.1) = none) : Nx P X lo g μ w (adopt d res) x w' := by
  obtain ⟨hb, μr, hmr, hdom, hrel⟩ := hr
  simp only [okRes, Bool.and_eq_true, List.all_eq_true, decide_eq_true_eq] at hok
  obtain ⟨⟨hok1, hok2⟩, hok3⟩ := hok
  have hfr : ∀ k mv, μr k = some mv → k < 64 ∧ μ (d * 64 + k) = none := fun k mv h => by
    obtain ⟨p, hp, rfl⟩ := hdom k mv h
    exact ⟨(hok1 p hp).1, hfree p hp⟩
  have hnew : ∀ o mv, join μ μr d o = some mv → μ o = some mv ∨ ∀ b, rootV mv = some b → w.heap.size ≤ b := fun o mv h =>
    (join_inv h).imp id fun ⟨_, k, _, _, hk⟩ b hb' => (hmr.lt hk hb').1
  have hw := Mem.grow (X := X) hb hnew
  have hSS : (∀ o mv b, μ o = some mv → rootV mv = some b → Xc b) → ∀ b, b < w'.heap.size → SS Xc μr b → SS X (join μ μr d) b := fun hA b _ hS =>
    ⟨fun h => hS.1 (hX1 b h), fun o mv h e => (join_inv h).elim (fun h => hS.1 (hA o mv b h e)) (fun ⟨_, k, _, _, hk⟩ => hS.2 k mv hk e)⟩
  refine ⟨join μ μr d, fun o mv h => join_old h, fun o mv h => ?_, hb, fun g' h1 h2 => ⟨hm.hX, Nat.le_trans hm.hlo hb.size, fun o mv h => ?_, fun o p mv1 mv2 b h3 h4 h5 h6 => ?_⟩, ?_⟩
  · rcases join_inv h with h | ⟨_, k, hk, rfl, hkm⟩
    · exact .inl h
    · obtain ⟨p, hp, rfl⟩ := hdom k mv hkm
      exact .inr ⟨⟨(d * 64 + p.1, p.2), List.mem_map_of_mem (f := fun p : Nat × Ob => (d * 64 + p.1, p.2)) hp, rfl⟩, fun b hb' => (hmr.lt hkm hb').1⟩
  · rcases join_inv h with h | ⟨hn, k, hk, rfl, hkm⟩
    · obtain ⟨y, hy, hyo⟩ := hm.ob o mv h
      exact ⟨y, by rw [h2 o mv h]; exact hy, hyo.step hm.hlo (fun o mv h => join_old h) hw (fun b hlt => hb.block b (Nat.lt_of_lt_of_le hlt hm.hlo)) fun b hrb => hb.block b (hm.lt h hrb).2⟩
    · obtain ⟨y, hy, hyo⟩ := hmr.ob k mv hkm
      have hmem := look_mem hy
      refine ⟨y, h1 (d * 64 + k, y) (List.mem_map_of_mem (f := fun p : Nat × Ob => (d * 64 + p.1, p.2)) hmem), ?_⟩
      have hy2 := (hok1 _ hmem).2
      cases y with
      | cells cs => simp at hy2
      | arr e t l =>
        obtain ⟨xs, hown, hrep⟩ := hyo
        refine ⟨xs, ⟨hown.1, hown.2.imp id fun ⟨gb, cap, cur, e1, e2, e3⟩ => ⟨gb, cap, cur, e1, Nat.le_trans hm.hlo e2, e3⟩⟩, ?_⟩
        rcases hX2 with hB | hA
        · simp only [Bool.or_eq_false_iff, List.any_eq_false] at hB
          exact hrep.plain (by simpa [deepOb] using hB.2 _ hmem)
        · exact hrep.step fun b hlt hS => ⟨hSS hA b hlt hS, rfl⟩
  · rcases join_inv h3 with h3 | ⟨_, k, hk, rfl, hkm⟩ <;> rcases join_inv h4 with h4 | ⟨_, k', hk', rfl, hkm'⟩
    · exact hm.dis o p mv1 mv2 b h3 h4 h5 h6
    · have := (hm.lt h3 h5).2
      have := (hmr.lt hkm' h6).1
      omega
    · have := (hm.lt h4 h6).2
      have := (hmr.lt hkm h5).1
      omega
    · rw [hmr.dis k k' mv1 mv2 b hkm hkm' h5 h6]
  · have hone : ∀ v ∈ res.1, ∀ y, RelV P w' w.heap.size μr (SS Xc μr) v y → RelV P w' lo (join μ μr d) (SS X (join μ μr d)) (ren1 d v) y := fun v hv y hy =>
      ren1_rel hfr (hok3 v hv) (hX2.imp (fun e => by simp only [Bool.or_eq_false_iff, List.any_eq_false] at e; simpa using e.1 v hv) fun hA => hSS hA) hy
    rcases hrel with ⟨v, hv, hy⟩ | ⟨hne, hy⟩
    · simp only [adopt, hv]
      exact hone v (by rw [hv]; exact List.mem_cons_self) x hy
    · have hform : (adopt d res).1 = .tup (res.1.map (ren1 d)) := by
        simp only [adopt]
        split
        next v hv => rw [hv] at hne; simp at hne
        next => rfl
      rw [hform]
      cases hy with
      | @tup _ _ xs hl h =>
        refine .tup (by simpa using hl) fun j v hj => ?_
        rw [nth_eq, List.getElem?_map] at hj
        cases hu : res.1[j]? with
        | none => rw [hu] at hj; cases hj
        | some u =>
          rw [hu] at hj
          simp only [Option.map_some, Option.some.injEq] at hj
          subst hj
          exact hone u (List.mem_of_getElem? hu) _ (h j u (by rw [nth_eq]; exact hu))
end
end Go.Proofs.Ytafcpibodfbjnaa
