/-
  Calls; all operations that write nothing.
-/
import Derived.Test.YtafcpibodfbjnaaB8
namespace Go.Proofs.Ytafcpibodfbjnaa
open Go.RowKit (Below)

/-- A value that is handed back: one, or a tuple. -/
def RelR (P : Program) (w : World) (lo : Nat) (μ : Nat → Option Value) (S : Nat → Prop) (vs : List AV) (x : Value) : Prop :=
  (∃ v, vs = [v] ∧ RelV P w lo μ S v x) ∨ (vs.length ≠ 1 ∧ RelV P w lo μ S (.tup vs) x)

def ResOK (P : Program) (X : Nat → Prop) (w w' : World) (res : List AV × List (Nat × Ob)) (x : Value) : Prop :=
  Below w.heap.size w w' ∧ ∃ μ, Mem P X w.heap.size (look res.2) μ w' ∧ (∀ o mv, μ o = some mv → ∃ p ∈ res.2, p.1 = o) ∧ RelR P w' w.heap.size μ (SS X μ) res.1 x

def CallOK (P : Program) (f : Nat) (args : List AV) (res : List AV × List (Nat × Ob)) : Prop :=
  ∀ (w : World) (X : Nat → Prop) (vals : Array Value), (∀ b, X b → b < w.heap.size) → args.length = vals.size →
    (∀ j v, nth args j = some v → RelV P w w.heap.size (fun _ => none) (fun b => ¬ X b) v (vals.getD j undef)) →
    (callFunc f vals).run P w = .ok (.enter f vals) w ∧ Calls P f vals w (fun e w' => ∃ x, e = .returned x ∧ ResOK P X w w' res x)

def EnvOK (P : Program) (E : Env) : Prop := ∀ f args cr, E f args = some cr → ∀ r, cr.x = some r → CallOK P f args (cr.emb r)

section
variable {P : Program} {tt : Nat → TD} {w : World} {lo : Nat} {μ : Nat → Option Value} {S : Nat → Prop} {X : Nat → Prop} {g : Nat → Option Ob} {o : Oper} {a : Act} {E : Env}

theorem Rep.plain {S' : Nat → Prop} {w' : World} : ∀ {t : Ty} {v : t.I} {cs : List Value}, deepT t = false → Rep S w t v cs → Rep S' w' t v cs
  | .int _, _, _, _, h => h
  | .bool, _, _, _, h => h
  | .str, _, _, _, h => h
  | .slice _, _, _, d, _ => by simp [deepT] at d
  | .pair a b, v, cs, d, h => by
    simp only [deepT, Bool.or_eq_false_iff] at d
    obtain ⟨c1, c2, e, h1, h2⟩ := h
    exact ⟨c1, c2, e, h1.plain d.1, h2.plain d.2⟩

theorem RepL.plain {S' : Nat → Prop} {w' : World} {t : Ty} (d : deepT t = false) : ∀ {l : List t.I} {cs : List Value}, RepL S w t l cs → RepL S' w' t l cs
  | [], _, h => h
  | _ :: _, _, ⟨c, r, e, h1, h2⟩ => ⟨c, r, e, h1.plain d, h2.plain d⟩

/-- The array as data. -/
theorem Mem.asDat (hm : Mem P X lo g μ w) {o : Nat} {mv : Value} {e : Nat} {t : Ty} {l : List t.I} (h : μ o = some mv) (hg : g o = some (.arr e t l)) {S' : Nat → Prop} (hS : ∀ b, b < w.heap.size → SS X μ b → S' b)
    (hR : ∀ b, rootV mv = some b → S' b) : ∃ a c, mv = .slice a l.length c ∧ Rep S' w (.slice t) l [mv] := by
  obtain ⟨y, hy, hob⟩ := hm.ob _ _ h
  rw [hg] at hy
  cases hy
  obtain ⟨xs, hown, hrep⟩ := hob
  have hrep' := hrep.step (S' := S') (w' := w) fun b hlt hb => ⟨hS b hlt hb, rfl⟩
  rcases hown.2 with ⟨rfl, h0⟩ | ⟨gb, cap, cur, rfl, h1, h2, h3, _⟩
  · have : l = [] := List.eq_nil_of_length_eq_zero h0
    subst this
    exact ⟨_, _, rfl, Rep.nil⟩
  · refine ⟨_, _, rfl, Rep.slice_of h3 (hR gb rfl) hrep' fun j u hu => ?_⟩
    have := hown.cells (g := gb) rfl j u hu
    rw [Addr.add_lit] at this
    exact this

theorem ext0_rel (hm : Mem P X lo g μ w) {S' Sv : Nat → Prop} (hS : ∀ b, b < w.heap.size → SS X μ b → S' b) (hSv : ∀ b, b < w.heap.size → Sv b → S' b) {v : AV} {x : Value}
    (hR : isArr0 v = false ∨ ∀ o mv b, μ o = some mv → rootV mv = some b → S' b) (h : RelV P w lo μ Sv v x) : RelV P w w.heap.size (fun _ => none) S' (ext0 g v) x := by
  cases h with
  | dat ht h => exact .dat ht (h.step fun b hlt hb => ⟨hSv b hlt hb, rfl⟩)
  | nilsl => exact .nilsl
  | @arr _ o a n c h =>
    simp only [ext0]
    split
    next e t l hg =>
      have hR' := hR.resolve_left (by simp [isArr0])
      obtain ⟨a', c', e', hr⟩ := hm.asDat h hg hS (fun b hb => hR' o _ b h hb)
      exact .dat rfl hr
    next => exact .undef
  | clo h => exact .clo (h.step hm.hlo fun b _ => rfl)
  | @fn _ f caps xs hl h =>
    cases caps with
    | nil => exact .fn hl fun j v hv => by simp [nth] at hv
    | cons c caps => exact .undef
  | _ => exact .undef

theorem ext1_rel (hm : Mem P X lo g μ w) {S' : Nat → Prop} (hS : ∀ b, b < w.heap.size → SS X μ b → S' b) {v : AV} {x : Value} (hR : isArr v = false ∨ ∀ o mv b, μ o = some mv → rootV mv = some b → S' b) (h : RelV P w lo μ (SS X μ) v x) :
    RelV P w w.heap.size (fun _ => none) S' (ext1 g v) x := by
  have h0 := h
  cases h with
  | @agg _ vs xs hl h =>
    refine .agg (by simpa using hl) fun j v hv => ?_
    rw [nth_eq, List.getElem?_map] at hv
    cases hj : vs[j]? with
    | none => rw [hj] at hv; cases hv
    | some u =>
      rw [hj] at hv
      simp only [Option.map_some, Option.some.injEq] at hv
      subst hv
      refine ext0_rel hm hS hS (hR.imp (fun e => ?_) id) (h j u (by rw [nth_eq]; exact hj))
      simp only [isArr, List.any_eq_false] at e
      simpa using e u (List.mem_of_getElem? hj)
  | _ => exact ext0_rel hm hS hS (by simpa only [isArr] using hR) h0

theorem extC_rel (hm : Mem P X lo g μ w) {S' Sv : Nat → Prop} (hS : ∀ b, b < w.heap.size → SS X μ b → S' b) {p : Bool} (hSv : p = true → ∀ b, b < w.heap.size → S' b) {v : AV} {x : Value}
    (hR : capArr g v = false ∨ ∀ o mv b, μ o = some mv → rootV mv = some b → S' b) (h : RelV P w lo μ Sv v x) : RelV P w w.heap.size (fun _ => none) S' (extC g p v) x := by
  cases h with
  | @box _ o b k h =>
    simp only [extC]
    split
    next cs hg =>
      split
      next hk =>
        have hc := hm.cells (k := k) h hg
        have hlt := (hm.lt h (b := b) rfl).2
        have hex : ∀ j, ∃ x, ∀ v, nth (cs.drop k) j = some v → w.cell? ⟨b, k + j, none⟩ = some x ∧ RelV P w lo μ (SS X μ) v x := fun j => by
          cases hj : nth (cs.drop k) j with
          | none => exact ⟨undef, fun v hv => by cases hv⟩
          | some v => obtain ⟨x, h1, h2⟩ := hc j v hj; exact ⟨x, fun v' hv' => by cases hv'; exact ⟨h1, h2⟩⟩
        have hnth : ∀ j u, nth ((cs.map (ext0 g)).drop k) j = some u → ∃ v, nth (cs.drop k) j = some v ∧ u = ext0 g v := fun j u hu => by
          rw [nth_eq, List.getElem?_drop, List.getElem?_map] at hu
          cases hj : cs[k + j]? with
          | none => rw [hj] at hu; cases hu
          | some v => rw [hj] at hu; simp at hu; exact ⟨v, by rw [nth_eq, List.getElem?_drop]; exact hj, hu.symm⟩
        refine .ptr (fun j => (hex j).choose) ?_ (.inr hlt) (fun j u hu => ?_) fun j u hu => ?_
        · intro e
          have := congrArg List.length e
          simp at this
          omega
        · obtain ⟨v, h1, _⟩ := hnth j u hu
          exact ((hex j).choose_spec v h1).1
        · obtain ⟨v, h1, rfl⟩ := hnth j u hu
          refine ext0_rel hm hS hS (hR.imp (fun e => ?_) id) ((hex j).choose_spec v h1).2
          simp only [capArr, hg, List.any_eq_false] at e
          have hmem : v ∈ cs := by
            rw [nth_eq, List.getElem?_drop] at h1
            exact List.mem_of_getElem? h1
          simpa using e v hmem
      next => exact .undef
    next => exact .undef
  | @ptr _ cs b k xs hne hb hx h =>
    cases p with
    | false => exact .undef
    | true =>
      have hall := hSv rfl
      have hlt : b < w.heap.size := by
        cases cs with
        | nil => exact absurd rfl hne
        | cons c cs => exact block_lt_of_cell (hx 0 c rfl)
      refine .ptr xs (by simpa using hne) (.inr hlt) (fun j u hu => ?_) fun j u hu => ?_
      · rw [nth_eq, List.getElem?_map] at hu
        cases hj : cs[j]? with
        | none => rw [hj] at hu; cases hu
        | some v => exact hx j v (by rw [nth_eq]; exact hj)
      · rw [nth_eq, List.getElem?_map] at hu
        cases hj : cs[j]? with
        | none => rw [hj] at hu; cases hu
        | some v =>
          rw [hj] at hu
          simp at hu
          subst hu
          exact ext0_rel hm hS (fun b hlt _ => hall b hlt) (.inr fun o mv b ho hb => hall b (hm.lt ho hb).2) (h j v (by rw [nth_eq]; exact hj))
  | _ => exact .undef

theorem extA_rel (hm : Mem P X lo g μ w) {S' : Nat → Prop} (hS : ∀ b, b < w.heap.size → SS X μ b → S' b) {v : AV} {x : Value} (hR : isArr v = false ∨ ∀ o mv b, μ o = some mv → rootV mv = some b → S' b) (h : RelV P w lo μ (SS X μ) v x) :
    RelV P w w.heap.size (fun _ => none) S' (extA g v) x := by
  have h0 := h
  cases h with
  | @fn _ f caps xs hl h =>
    refine .fn (by simpa using hl) fun j v hv => ?_
    rw [nth_eq, List.getElem?_map] at hv
    cases hj : caps[j]? with
    | none => rw [hj] at hv; cases hv
    | some u =>
      rw [hj] at hv
      simp only [Option.map_some, Option.some.injEq] at hv
      subst hv
      exact extC_rel hm (fun b hlt _ => .inr hlt) (fun _ b hlt => .inr hlt) (.inr fun o mv b ho hb => .inr (hm.lt ho hb).2) (h j u (by rw [nth_eq]; exact hj))
  | _ => exact ext1_rel hm hS hR h0
end
end Go.Proofs.Ytafcpibodfbjnaa
