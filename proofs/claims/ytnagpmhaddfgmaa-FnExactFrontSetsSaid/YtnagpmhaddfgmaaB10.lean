/-
 What a call hands back is taken over.
-/
import Derived.Test.YtnagpmhaddfgmaaB35
namespace Go.Proofs.Ytnagpmhaddfgmaa
open Go.RowKit (Below)
theorem wbw {α : Type} : ∀ {l : List (Nat × α)} {k : Nat} {x : α}, look l k = some x → (k, x) ∈ l
 | [], _, _, h => by simp [look] at h
 |(j, y) :: r, k, x, h => by
  simp only [look] at h
  split at h
  next e =>
   have := Nat.eq_of_beq_eq_true e
   subst this
   cases h
   exact List.mem_cons_self
  next => exact List.mem_cons_of_mem _ (wbw h)
theorem wjw {α : Type} : ∀ {l : List (Nat × α)} {k : Nat} {x : α}, (l.map (·.1)).Nodup → (k, x) ∈ l → look l k = some x
 | [], _, _, _, h => by cases h
 |(j, y) :: r, k, x, hn, h => by
  simp only [List.map_cons, List.nodup_cons] at hn
  simp only [look]
  cases h with
  | head => simp
  | tail _ h =>
   have hne : j ≠ k := fun e => hn.1 (by rw [e]; exact List.mem_map_of_mem h)
   have : Nat.beq j k = false := by
    cases hb : Nat.beq j k with
    | true => exact absurd (Nat.eq_of_beq_eq_true hb) hne
    | false => rfl
   rw [this]
   exact wjw hn.2 h
theorem wcd : ∀ {ρ : List Nat} {o k i : Nat}, wcw ρ o k = some i → k ≤ i ∧ nth ρ (i - k) = some o
 | [], _, _, _, h => by simp [wcw] at h
 | x :: r, o, k, i, h => by
  simp only [wcw] at h
  split at h
  next e =>
   cases h
   exact ⟨Nat.le_refl _, by rw [Nat.sub_self]; simp [nth, Nat.eq_of_beq_eq_true e]⟩
  next =>
   obtain ⟨h1, h2⟩ := wcd h
   exact ⟨by omega, by rw [show i - k = (i - (k + 1)) + 1 by omega]; exact h2⟩
theorem wahu [Tabs] {ρ : List Nat} {o k i : Nat} (h : wcw ρ o k = some i) : o ∈ ρ := by
 have := (wcd h).2
 rw [wo] at this
 exact List.mem_of_getElem? this
theorem wem : ∀ {ρ : List Nat} {o k j : Nat}, ρ.Nodup → nth ρ j = some o → wcw ρ o k = some (k + j)
 | [], _, _, _, _, h => by simp [nth] at h
 | x :: r, o, k, 0, _, h => by
  simp only [nth, Option.some.injEq] at h
  simp [wcw, h]
 | x :: r, o, k, j + 1, hn, h => by
  simp only [List.nodup_cons] at hn
  simp only [nth] at h
  have hne : Nat.beq x o = false := by
   cases hb : Nat.beq x o with
   | true =>
    have := Nat.eq_of_beq_eq_true hb
    subst this
    rw [wo] at h
    exact absurd (List.mem_of_getElem? h) hn.1
   | false => rfl
  simp only [wcw, hne]
  rw [wem hn.2 h]
  congr 1
  omega
section
variable {P : Program} {tt : Nat → TD} {w : World} {lo : Nat → Prop} {μ : Nat → Option MV} {S : Nat → Prop} {X : Nat → Prop} {g : Nat → Option Ob} {o : Oper} {a : Act} {E : Env}
structure NxU [Tabs] (P : Program) (X : Nat → Prop) (lo : Nat → Prop) (g : Nat → Option Ob) (μ : Nat → Option MV) (w : World) (objs : List (Nat × Ob)) (ks : List Nat) (w' : World) (μ' : Nat → Option MV) : Prop where
 hs : Turns μ μ' ks
 dom : ∀ o mv, μ' o = some mv → (∃ mv0, μ o = some mv0) ∨ ∃ p ∈ objs, p.1 = o
 root : ∀ o mv b, μ' o = some mv → b ∈ mv.rs → w.heap.size ≤ b ∨ ∃ p mv0, μ p = some mv0 ∧ b ∈ mv0.rs
 kept : Kept lo w w'
 frame : ∀ b, b < w.heap.size → (∀ p ∈ objs, ∀ mv, μ p.1 = some mv → b ∉ mv.rs) → w'.heap[b]? = w.heap[b]?
 mem : ∀ g', (∀ p ∈ objs, g' p.1 = some p.2) → (∀ o mv, μ o = some mv → (∀ p ∈ objs, p.1 ≠ o) → g' o = (g o).map (wji ks)) → Mem P X lo g' μ' w'
theorem NxU.data [Tabs] {objs : List (Nat × Ob)} {ks : List Nat} {w' : World} {μ' : Nat → Option MV} (h : NxU P X lo g μ w objs ks w' μ') : ∀ b, b < w.heap.size → SS X μ b → SS X μ' b ∧ w'.heap[b]? = w.heap[b]? := fun b hb hS =>
 ⟨⟨hS.1, fun o mv ho hm => (h.root o mv b ho hm).elim (fun h => by omega) fun ⟨p, mv0, h1, h2⟩ => hS.2 p mv0 h1 h2⟩, h.frame b hb fun p _ mv hp => hS.2 p.1 mv hp⟩
theorem NxU.step [Tabs] {objs : List (Nat × Ob)} {w' : World} {μ' : Nat → Option MV} (h : NxU P X lo g μ w objs [] w' μ') (hlo : ∀ b, lo b → b < w.heap.size) {v : AV} {x : Value} (hv : RelV P w lo μ (SS X μ) v x) : RelV P w' lo μ' (SS X μ') v x :=
 hv.stepH (fun o mv ho => by obtain ⟨rs, hs, k1, k2⟩ := h.hs.hs o mv ho; exact ⟨rs, hs, k1, k2 (by simp)⟩) hlo h.data h.kept.block
theorem NxU.of [Tabs] {q : QR} {x : Value} {w' : World} (hm : Mem P X lo g μ w) (hfree : ∀ p ∈ q.2, μ p.1 = none) (h : Nx P X lo g μ w q x w') : ∃ μ', NxU P X lo g μ w q.2 [] w' μ' ∧ RelV P w' lo μ' (SS X μ') q.1 x := by
 obtain ⟨μ', h1, h2, h3, h4, h5⟩ := h
 refine ⟨μ', ⟨⟨fun o mv ho => ⟨mv.rs, mv.hs, h1 o mv ho, fun _ => Ext.refl _⟩, fun o mv ho => (by cases ho)⟩, fun o mv ho => (h2 o mv ho).imp (fun h => ⟨mv, h⟩) (·.1), fun o mv b ho hb => ?_, .of h3 hm.hlo, fun b hb _ => h3.block b hb, fun g' k1 k2 => ?_⟩, h5⟩
 ·rcases h2 o mv ho with h | h
  ·exact .inr ⟨o, mv, h, hb⟩
  ·exact .inl (h.2 b hb)
 ·refine h4 g' k1 fun o mv ho => (k2 o mv ho fun p hp e => ?_).trans (by cases g o <;> rfl)
  have := hfree p hp
  rw [e, ho] at this
  cases this
def join (μ μr : Nat → Option MV) (ρ : List Nat) (d : Nat) (o : Nat) : Option MV :=
 match wcw ρ o 64 with
 | some i => μr i
 | none => match μ o with
  | some mv => some mv
  | none => if d * 64 ≤ o ∧ o < d * 64 + 64 then μr (o - d * 64) else none
variable {ρ : List Nat} {μr : Nat → Option MV} {d : Nat}
theorem wahv {o : Nat} {mv : MV} (hi : wcw ρ o 64 = none) (h : μ o = some mv) : join μ μr ρ d o = some mv := by simp [join, hi, h]
theorem wqy {o i : Nat} (hi : wcw ρ o 64 = some i) : join μ μr ρ d o = μr i := by simp [join, hi]
theorem wahw {k : Nat} (hk : k < 64) (hi : wcw ρ (d * 64 + k) 64 = none) (hf : μ (d * 64 + k) = none) : join μ μr ρ d (d * 64 + k) = μr k := by
 simp only [join, hi, hf]
 rw [if_pos (by omega), show d * 64 + k - d * 64 = k by omega]
theorem wen {o : Nat} {mv : MV} (h : join μ μr ρ d o = some mv) : (wcw ρ o 64 = none ∧ μ o = some mv) ∨ (∃ i, wcw ρ o 64 = some i ∧ μr i = some mv) ∨ (wcw ρ o 64 = none ∧ μ o = none ∧ ∃ k, k < 64 ∧ o = d * 64 + k ∧ μr k = some mv) := by
 simp only [join] at h
 split at h
 next i hi => exact .inr (.inl ⟨i, hi, h⟩)
 next hi =>
  split at h
  next mv' e => cases h; exact .inl ⟨hi, e⟩
  next e =>
   split at h
   next hk => exact .inr (.inr ⟨hi, e, o - d * 64, by omega, by omega, h⟩)
   next => cases h
theorem waor [Tabs] (hn : ρ.Nodup) (hfree : ∀ k mv, μr k = some mv → k < 64 → wcw ρ (d * 64 + k) 64 = none ∧ μ (d * 64 + k) = none) (hdom : ∀ k mv, μr k = some mv → k < 64 + ρ.length) {o : Nat} {mv : MV} (h : μr o = some mv) : join μ μr ρ d (rn ρ d o) = some mv := by
 unfold rn
 split
 next hlt =>
  obtain ⟨h1, h2⟩ := hfree o mv h hlt
  rw [wahw hlt h1 h2]
  exact h
 next hge =>
  have hl := hdom o mv h
  have hx : nth ρ (o - 64) = some (ρ[o - 64]'(by omega)) := by rw [wo]; simp
  rw [hx, Option.getD_some, wqy (wem hn hx), show 64 + (o - 64) = o by omega]
  exact h
theorem wvr [Tabs] {w' : World} {lo' : Nat → Prop} {Sr S' : Nat → Prop} (hj : ∀ o mv, μr o = some mv → join μ μr ρ d (rn ρ d o) = some mv) {v : AV} {x : Value} (hv : res0 v = true)
  (hS : wahg v = false ∨ ∀ b, b < w'.heap.size → Sr b → S' b) (h : RelV P w' lo' μr Sr v x) : RelV P w' lo (join μ μr ρ d) S' (ren0 ρ d v) x := by
 cases h with
 | dat ht h =>
  rcases hS with hd | hS
  ·exact .dat ht (h.plain (by simpa [wahg] using hd))
  ·exact .dat ht (h.step fun b hb hs => ⟨hS b hb hs, rfl⟩)
 | nilsl => exact .nilsl
 | arr h => exact .arr (hj _ _ h)
 | undef => exact .undef
 | _ => simp [res0] at hv
theorem wahx [Tabs] {w' : World} {lo' : Nat → Prop} {Sr S' : Nat → Prop} (hj : ∀ o mv, μr o = some mv → join μ μr ρ d (rn ρ d o) = some mv) {v : AV} {x : Value} (hv : res1 v = true)
  (hS : wyz v = false ∨ ∀ b, b < w'.heap.size → Sr b → S' b) (h : RelV P w' lo' μr Sr v x) : RelV P w' lo (join μ μr ρ d) S' (ren1 ρ d v) x := by
 have h0 := h
 cases h with
 | @agg _ vs xs hl h =>
  refine .agg (by simpa using hl) fun j v hj' => ?_
  rw [wo, List.getElem?_map] at hj'
  cases hu : vs[j]? with
  | none => rw [hu] at hj'; cases hj'
  | some u =>
   rw [hu] at hj'
   simp only [Option.map_some, Option.some.injEq] at hj'
   subst hj'
   have hm := List.mem_of_getElem? hu
   refine wvr hj ?_ (hS.imp (fun e => ?_) id) (h j u (by rw [wo]; exact hu))
   ·simp only [res1, List.all_eq_true] at hv
    exact hv u hm
   ·simp only [wyz, List.any_eq_false] at e
    simpa using e u hm
 | _ => exact wvr hj (by simpa only [res1] using hv) (by simpa only [wyz] using hS) h0
theorem wahy {w' : World} {lo' : Nat → Prop} {Sr S' : Nat → Prop} (hj : ∀ o mv, μr o = some mv → join μ μr ρ d (rn ρ d o) = some mv) {v : AV} {x : Value} (h : RelV P w' lo' μr Sr v x) : RelV P w' lo (join μ μr ρ d) S' (renC ρ d v) x := by
 cases h with
 | box h =>
  simp only [renC]
  split
  ·exact .undef
  ·exact .box (hj _ _ h)
 | _ => exact .undef
theorem wahz [Tabs] {w' : World} {lo' : Nat → Prop} {Sr S' : Nat → Prop} (hj : ∀ o mv, μr o = some mv → join μ μr ρ d (rn ρ d o) = some mv) {v : AV} {x : Value}
  (hS : waof v = false ∨ ∀ b, b < w'.heap.size → Sr b → S' b) (h : RelV P w' lo' μr Sr v x) : RelV P w' lo (join μ μr ρ d) S' (renL ρ d v) x := by
 cases h with
 | dat ht h =>
  rcases hS with hd | hS
  ·exact .dat ht (h.plain (by simpa [waof] using hd))
  ·exact .dat ht (h.step fun b hb hs => ⟨hS b hb hs, rfl⟩)
 | nilsl => exact .nilsl
 | arr h => exact .arr (hj _ _ h)
 | box h =>
  simp only [renL]
  split
  ·exact .undef
  ·exact .box (hj _ _ h)
 | @fn _ f caps xs hl h =>
  refine .fn (by simpa using hl) fun j u hu => ?_
  rw [wo, List.getElem?_map] at hu
  cases hc : caps[j]? with
  | none => rw [hc] at hu; cases hu
  | some c =>
   rw [hc] at hu
   simp only [Option.map_some, Option.some.injEq] at hu
   subst hu
   exact wahy hj (h j c (by rw [wo]; exact hc))
 | _ => exact .undef
theorem wqz [Tabs] {w' : World} {lo' : Nat → Prop} {Sr S' : Nat → Prop} (hj : ∀ o mv, μr o = some mv → join μ μr ρ d (rn ρ d o) = some mv) (hle : ∀ b, lo b → lo' b) {y : Ob} {mv : MV}
  (hS : wjf y = false ∨ ∀ b, b < w'.heap.size → Sr b → S' b) (h : ObOK P w' lo' μr Sr y mv) : ObOK P w' lo (join μ μr ρ d) S' (wow ρ d y) mv := by
 cases y with
 | arr e t l =>
  obtain ⟨⟨hhs, hrs⟩, hnl, xs, hown, hrep⟩ := h
  refine ⟨⟨hhs, hrs⟩, fun b hb hl => hnl b hb (hle b hl), xs, hown, ?_⟩
  rcases hS with hd | hS
  ·exact hrep.plain (by simpa [wjf] using hd)
  ·exact hrep.step fun b hb hs => ⟨hS b hb hs, rfl⟩
 | txt e l =>
  obtain ⟨b, cap, cur, fr, h1, h2, h3, h4⟩ := h
  exact ⟨b, cap, cur, fr, h1, fun h => h2 (hle b h), h3, h4⟩
 | rows e e2 t l hh =>
  obtain ⟨hr, _⟩ := h
  have hno : ∀ i d, hh.map (fun p => (p.1, (none : Option Nat))) = some (i, some d) → False := fun i d hd => by
   cases hh <;> simp at hd
  have hin : ∀ j, wcf (hh.map fun p => (p.1, (none : Option Nat))) j → wcf hh j := fun j hj i k hk => by
   subst hk
   exact hj i none rfl
  refine ⟨?_, fun i d hd => (hno i d hd).elim⟩
  have hlow := hr.low
  have hr' : RowsOK w' lo Sr e e2 t l (wcf (hh.map fun p => (p.1, (none : Option Nat)))) mv mv.hs := ⟨hr.own, hr.top, fun b hb => ⟨fun h => (hlow b hb).1 (hle b h), (hlow b hb).2⟩, hr.slc, fun j x r hj hx hl => hr.row j x r (hin j hj) hx hl, fun j k x y b hj hk => hr.apart j k x y b (hin j hj) (hin k hk)⟩
  rcases hS with hd | hS
  ·have hd : wcx t = false := by simpa [wjf] using hd
   refine ⟨hr'.own, hr'.top, hr'.low, hr'.slc, fun j x r hj hx hl => ?_, hr'.apart⟩
   obtain ⟨k1, xs, k2, k3⟩ := hr'.row j x r hj hx hl
   exact ⟨k1, xs, k2, k3.plain hd⟩
  ·exact hr'.step (fun b hb hs => ⟨hS b hb hs, rfl⟩) (fun _ _ => rfl) fun b hb => (hr'.low b hb).1
 | deep e t l => exact DeepOK.step h (fun _ _ => rfl) fun b hb hl => (DeepOK.low h b hb).1 (hle b hl)
 | perm k e e2 t ix l =>
  have hp : PermOK w' lo' Sr e e2 t ix l mv := h
  show PermOK w' lo S' e e2 t ix l mv
  rcases hS with hd | hS
  ·have hd : wcx t = false := by simpa [wjf] using hd
   refine ⟨hp.own, hp.len, hp.top, fun b hb => ⟨fun h => (hp.low b hb).1 (hle b h), (hp.low b hb).2⟩, hp.slc, fun j x r hx hl => ?_, hp.apart⟩
   obtain ⟨k1, xs, k2, k3⟩ := hp.row j x r hx hl
   exact ⟨k1, xs, k2, k3.plain hd⟩
  ·exact hp.step (fun b hb hs => ⟨hS b hb hs, rfl⟩) (fun _ _ => rfl) fun b hb hl => (hp.low b hb).1 (hle b hl)
 | spent => exact SpentOK.step h (fun _ _ => rfl) fun b hb hl => (SpentOK.low h b hb).1 (hle b hl)
 | cells cs =>
  obtain ⟨b, vs, e, h1, h2, h3, h4, h5⟩ := h
  refine ⟨b, vs, e, h1, fun h => h2 (hle b h), h3, by simpa using h4, fun j u hu => ?_⟩
  rw [wo, List.getElem?_map] at hu
  cases hc : cs[j]? with
  | none => rw [hc] at hu; cases hu
  | some c =>
   rw [hc] at hu
   simp only [Option.map_some, Option.some.injEq] at hu
   subst hu
   refine wahz hj (hS.imp (fun e => ?_) id) (h5 j c (by rw [wo]; exact hc))
   simp only [wjf, List.any_eq_false] at e
   simpa using e c (List.mem_of_getElem? hc)
def wdm (μ : Nat → Option MV) (ρ : List Nat) (i : Nat) : Option MV := if 64 ≤ i then (nth ρ (i - 64)).bind μ else none
theorem wbx [Tabs] (hn : ρ.Nodup) {i : Nat} {mv : MV} (h : wdm μ ρ i = some mv) : ∃ o, wcw ρ o 64 = some i ∧ μ o = some mv := by
 unfold wdm at h
 split at h
 next hi =>
  cases hx : nth ρ (i - 64) with
  | none => rw [hx] at h; cases h
  | some o =>
   rw [hx] at h
   refine ⟨o, ?_, h⟩
   rw [wem hn hx]
   congr 1
   omega
 next => cases h
theorem wpk [Tabs] {o i : Nat} (h : wcw ρ o 64 = some i) : wdm μ ρ i = μ o := by
 obtain ⟨h1, h2⟩ := wcd h
 unfold wdm
 rw [if_pos h1, h2]
 rfl
theorem waia [Tabs] (hm : Mem P X lo g μ w) (hn : ρ.Nodup) {w' : World} {Xc : Nat → Prop} {res : List AV × List (Nat × Ob)} {x : Value} (hX1 : ∀ b, X b → Xc b)
  (hX2 : (res.1.any wyz || res.2.any fun p => wjf p.2) = false ∨ ∀ o mv b, μ o = some mv → wcw ρ o 64 = none → b ∈ mv.rs → Xc b) (hok : wabg ρ.length res = true)
  (hr : wqv P Xc (old w (wdm μ ρ)) w w' (wdm μ ρ) res x) (hfree : ∀ p ∈ (wdx ρ d res).1.2, μ p.1 = none) (hρ : ∀ o ∈ ρ, ∃ mv, μ o = some mv) :
  ∃ μ', NxU P X lo g μ w ((wdx ρ d res).1.2 ++ (wdx ρ d res).2) (wbk g ((wdx ρ d res).1.2 ++ (wdx ρ d res).2)) w' μ' ∧ RelV P w' lo μ' (SS X μ') (wdx ρ d res).1.1 x := by
 obtain ⟨hk, μr, hmr, hdom, hlent, hrel⟩ := hr
 simp only [wabg, Bool.and_eq_true, List.all_eq_true, decide_eq_true_eq] at hok
 obtain ⟨⟨⟨hok1, hok2⟩, hok3⟩, hok4⟩ := hok
 have hd : ∀ k mv, μr k = some mv → k < 64 + ρ.length := fun k mv h => by
  obtain ⟨p, hp, rfl⟩ := hdom k mv h
  exact (hok1 p hp).1
 have hnew : ∀ k mv, μr k = some mv → k < 64 → wcw ρ (d * 64 + k) 64 = none ∧ μ (d * 64 + k) = none := fun k mv h hlt => by
  obtain ⟨p, hp, rfl⟩ := hdom k mv h
  have h0 : μ (d * 64 + p.1) = none := hfree (d * 64 + p.1, p.2) (List.mem_map.2 ⟨p, List.mem_filter.2 ⟨hp, by simpa using hlt⟩, rfl⟩)
  refine ⟨?_, h0⟩
  cases hi : wcw ρ (d * 64 + p.1) 64 with
  | none => rfl
  | some i =>
   obtain ⟨mv', h'⟩ := hρ _ (wahu hi)
   rw [h0] at h'
   cases h'
 have hj : ∀ o mv, μr o = some mv → join μ μr ρ d (rn ρ d o) = some mv := fun o mv h => waor hn hnew hd h
 have hol : ∀ b, lo b → old w (wdm μ ρ) b := fun b hb => ⟨hm.hlo b hb, fun o mv h hbm => by
  obtain ⟨o', _, h'⟩ := wbx hn h
  exact (hm.lt h' hbm).1 hb⟩
 have hrest : ∀ o mv b, μ o = some mv → wcw ρ o 64 = none → b ∈ mv.rs → old w (wdm μ ρ) b := fun o mv b h hi hb => ⟨(hm.lt h hb).2, fun i mv' h' hb' => by
  obtain ⟨o', hi', ho'⟩ := wbx hn h'
  have := hm.dis o o' mv mv' b h ho' hb hb'
  subst this
  rw [hi] at hi'
  cases hi'⟩
 have hroot : ∀ k mv b, μr k = some mv → b ∈ mv.rs → w.heap.size ≤ b ∨ ∃ o mv0, (∃ i, wcw ρ o 64 = some i) ∧ μ o = some mv0 ∧ b ∈ mv0.rs := fun k mv b h hb => by
  have := (hmr.lt h hb).1
  by_cases hlt : b < w.heap.size
  ·by_cases hex : ∃ i mv0, wdm μ ρ i = some mv0 ∧ b ∈ mv0.rs
   ·obtain ⟨i, mv0, h1, h2⟩ := hex
    obtain ⟨o, h3, h4⟩ := wbx hn h1
    exact .inr ⟨o, mv0, ⟨i, h3⟩, h4, h2⟩
   ·exact absurd ⟨hlt, fun i mv0 h1 h2 => hex ⟨i, mv0, h1, h2⟩⟩ this
  ·exact .inl (by omega)
 have hlentR : ∀ o i, wcw ρ o 64 = some i → ∃ y mv mv' , (i, y) ∈ res.2 ∧ μ o = some mv ∧ μr i = some mv' ∧ mv'.v = mv.v := fun o i hi => by
  obtain ⟨h1, h2⟩ := wcd hi
  have hlt : i - 64 < ρ.length := by
   rw [wo] at h2
   exact (List.getElem?_eq_some_iff.1 h2).1
  have := hok4 (i - 64) (List.mem_range.2 hlt)
  rw [List.contains_iff_mem, show 64 + (i - 64) = i by omega] at this
  obtain ⟨p, hp, e⟩ := List.mem_map.1 this
  obtain ⟨mv, rs, hds, k1, k2⟩ := hlent p hp (by omega)
  rw [e, wpk hi] at k1
  rw [e] at k2
  exact ⟨p.2, mv, _, by rw [← e]; exact hp, k1, k2, rfl⟩
 have hSS : (∀ o mv b, μ o = some mv → wcw ρ o 64 = none → b ∈ mv.rs → Xc b) → ∀ b, b < w'.heap.size → SS Xc μr b → SS X (join μ μr ρ d) b := fun hA b _ hS =>
  ⟨fun h => hS.1 (hX1 b h), fun o mv h e => by
   rcases wen h with ⟨hi, h⟩ | ⟨i, hi, h⟩ | ⟨_, _, k, _, _, h⟩
   ·exact hS.1 (hA o mv b h hi e)
   ·exact hS.2 i mv h e
   ·exact hS.2 k mv h e⟩
 have hrI : ∀ o i, wcw ρ o 64 = some i → ((∃ e e2 t l hh, g o = some (.rows e e2 t l hh)) ∨ ∃ k e e2 t ix l, g o = some (.perm k e e2 t ix l)) → o ∈ wbk g ((wdx ρ d res).1.2 ++ (wdx ρ d res).2) := fun o i hi hgo => by
  obtain ⟨y, _, _, hy, _⟩ := hlentR o i hi
  obtain ⟨h1, h2⟩ := wcd hi
  have hrn : rn ρ d i = o := by
   unfold rn
   rw [if_neg (by omega), h2]
   rfl
  unfold wbk
  refine List.mem_map.2 ⟨(rn ρ d i, wow ρ d y), List.mem_filter.2 ⟨List.mem_append_right _ (List.mem_map.2 ⟨(i, y), List.mem_filter.2 ⟨hy, by simpa using h1⟩, rfl⟩), ?_⟩, hrn⟩
  have hk := (hok1 _ hy).2
  unfold wkm
  rw [hrn]
  rcases hgo with ⟨e, e2, t, l, hh, hgo⟩ | ⟨k, e, e2, t, ix, l, hgo⟩
  ·rw [hgo]
   cases y with
   | arr => rfl
   | txt => rfl
   | deep => rfl
   | spent => rfl
   | cells => rfl
   | perm => rfl
   | rows e e2 t l h' =>
    cases h' with
    | none => rfl
    | some _ => simp at hk
  ·rw [hgo]
   cases y with
   | arr => rfl
   | txt => rfl
   | deep => rfl
   | spent => rfl
   | cells => rfl
   | perm => rfl
   | rows e e2 t l h' =>
    cases h' with
    | none => rfl
    | some _ => simp at hk
 have hs : Turns μ (join μ μr ρ d) (wbk g ((wdx ρ d res).1.2 ++ (wdx ρ d res).2)) := by
  refine ⟨fun o mv h => ?_, fun o mv hk h => ?_⟩
  ·cases hi : wcw ρ o 64 with
   | none => exact ⟨mv.rs, mv.hs, wahv hi h, fun _ => Ext.refl _⟩
   | some i =>
    obtain ⟨y, mv1, mv2, _, k1, k2, k3⟩ := hlentR o i hi
    rw [h] at k1
    cases k1
    refine ⟨mv2.rs, mv2.hs, by rw [wqy hi, k2, ← k3], fun hn => ?_⟩
    obtain ⟨z, hz, hzo⟩ := hm.ob o mv h
    have hnil : mv.hs = [] := by
     cases z with
     | arr e t l => exact hzo.1.1
     | txt e l => obtain ⟨b, cap, cur, fr, e, _⟩ := hzo; rw [e]
     | cells cs => obtain ⟨b, vs, e, h1, _⟩ := hzo; rw [h1]
     | deep e t l => exact hzo.hs
     | spent => exact hzo.hs
     | rows e e2 t l hh => exact absurd (hrI o i hi (.inl ⟨_, _, _, _, _, hz⟩)) hn
     | perm k e e2 t ix l => exact absurd (hrI o i hi (.inr ⟨_, _, _, _, _, _, hz⟩)) hn
    rw [hnil]
    exact Ext.nil _
  ·obtain ⟨z, hz, hzo⟩ := hm.ob o mv h
   obtain ⟨q, hq, e⟩ := List.mem_map.1 hk
   have hk := (List.mem_filter.1 hq).2
   unfold wkm at hk
   rw [e, hz] at hk
   cases z with
   | rows e e2 t l hh =>
    rcases hzo.1.own.2 with ⟨e1, _⟩ | ⟨gb, cap, cur, e1, _⟩
    ·exact ⟨_, _, _, e1⟩
    ·exact ⟨_, _, _, e1⟩
   | perm k e e2 t ix l =>
    rcases (PermOK.own hzo).2 with ⟨e1, _⟩ | ⟨gb, cap, cur, e1, _⟩
    ·exact ⟨_, _, _, e1⟩
    ·exact ⟨_, _, _, e1⟩
   | _ => split at hk <;> cases hk
 have hids : ∀ p ∈ (wdx ρ d res).1.2 ++ (wdx ρ d res).2, (∃ q ∈ res.2, q.1 < 64 ∧ p = (d * 64 + q.1, q.2)) ∨ ∃ q ∈ res.2, 64 ≤ q.1 ∧ p = (rn ρ d q.1, wow ρ d q.2) := fun p hp => by
  rcases List.mem_append.1 hp with hp | hp
  ·obtain ⟨q, hq, rfl⟩ := List.mem_map.1 hp
   obtain ⟨h1, h2⟩ := List.mem_filter.1 hq
   exact .inl ⟨q, h1, by simpa using h2, rfl⟩
  ·obtain ⟨q, hq, rfl⟩ := List.mem_map.1 hp
   obtain ⟨h1, h2⟩ := List.mem_filter.1 hq
   exact .inr ⟨q, h1, by simpa using h2, rfl⟩
 have hfr : ∀ b, b < w.heap.size → (∀ p ∈ (wdx ρ d res).1.2 ++ (wdx ρ d res).2, ∀ mv, μ p.1 = some mv → b ∉ mv.rs) → w'.heap[b]? = w.heap[b]? := fun b hb hp => by
  refine hk.block b ⟨hb, fun i mv h hbm => ?_⟩
  obtain ⟨o, hi, ho⟩ := wbx hn h
  obtain ⟨y, mv1, mv2, hy, _⟩ := hlentR o i hi
  obtain ⟨h1, h2⟩ := wcd hi
  refine hp (rn ρ d i, wow ρ d y) (List.mem_append_right _ (List.mem_map.2 ⟨(i, y), List.mem_filter.2 ⟨hy, by simpa using h1⟩, rfl⟩)) mv ?_ hbm
  have : rn ρ d i = o := by
   unfold rn
   rw [if_neg (by omega), h2]
   rfl
  rw [this]
  exact ho
 refine ⟨join μ μr ρ d, ⟨hs, fun o mv h => ?_, fun o mv b h hb => ?_, hk.mono hol, hfr, fun g' h1 h2 => ⟨hm.hX, fun b hb => Nat.lt_of_lt_of_le (hm.hlo b hb) hk.size, fun o mv h => ?_, fun o p mv1 mv2 b h3 h4 h5 h6 => ?_, hm.tab.step (hk.mono hol).block⟩⟩, ?_⟩
 ·rcases wen h with ⟨hi, h⟩ | ⟨i, hi, h⟩ | ⟨_, _, k, hk', rfl, hz⟩
  ·exact .inl ⟨mv, h⟩
  ·obtain ⟨y, mv1, _, _, k1, _⟩ := hlentR o i hi
   exact .inl ⟨mv1, k1⟩
  ·obtain ⟨p, hp, rfl⟩ := hdom k mv hz
   exact .inr ⟨(d * 64 + p.1, p.2), List.mem_append_left _ (List.mem_map.2 ⟨p, List.mem_filter.2 ⟨hp, by simpa using hk'⟩, rfl⟩), rfl⟩
 ·rcases wen h with ⟨hi, h⟩ | ⟨i, hi, h⟩ | ⟨_, _, k, hk', rfl, hz⟩
  ·exact .inr ⟨o, mv, h, hb⟩
  ·exact (hroot i mv b h hb).imp id fun ⟨o, mv0, _, h4, h5⟩ => ⟨o, mv0, h4, h5⟩
  ·exact (hroot k mv b hz hb).imp id fun ⟨o, mv0, _, h4, h5⟩ => ⟨o, mv0, h4, h5⟩
 ·rcases wen h with ⟨hi, h⟩ | ⟨i, hi, h⟩ | ⟨_, _, k, hk', rfl, hz⟩
  ·obtain ⟨y, hy, hyo⟩ := hm.ob o mv h
   refine ⟨wji _ y, ?_, ObOK.kill hm.hlo (fun b hb hS => ⟨?_, ?_⟩) (fun b hb => hk.block b (hol b hb)) (fun b hb => hk.block b (hrest o mv b h hi hb)) hs hyo⟩
   ·rw [h2 o mv h]
    ·rw [hy]; rfl
    ·intro p hp e
     rcases hids p hp with ⟨q, hq, hlt, rfl⟩ | ⟨q, hq, hge, rfl⟩
     ·have := hfree (d * 64 + q.1, q.2) (List.mem_map.2 ⟨q, List.mem_filter.2 ⟨hq, by simpa using hlt⟩, rfl⟩)
      simp only at e this
      rw [e, h] at this
      cases this
     ·simp only at e
      have hl := (hok1 q hq).1
      have hx : nth ρ (q.1 - 64) = some (ρ[q.1 - 64]'(by omega)) := by rw [wo]; simp
      unfold rn at e
      rw [if_neg (by omega), hx, Option.getD_some] at e
      rw [← e, wem hn hx] at hi
      cases hi
   ·exact ⟨hS.1, fun o' mv' h' hb' => by
     rcases wen h' with ⟨_, h'⟩ | ⟨i, hi', h'⟩ | ⟨_, _, k, _, _, h'⟩
     ·exact hS.2 o' mv' h' hb'
     ·rcases hroot i mv' b h' hb' with h3 | ⟨o3, mv3, _, h4, h5⟩
      ·omega
      ·exact hS.2 o3 mv3 h4 h5
     ·rcases hroot k mv' b h' hb' with h3 | ⟨o3, mv3, _, h4, h5⟩
      ·omega
      ·exact hS.2 o3 mv3 h4 h5⟩
   ·exact hk.block b ⟨hb, fun i mv' h' hb' => by
     obtain ⟨o', _, h''⟩ := wbx hn h'
     exact hS.2 o' mv' h'' hb'⟩
  ·obtain ⟨y, mv1, mv2, hy, k1, k2, _⟩ := hlentR o i hi
   obtain ⟨y', hy', hyo⟩ := hmr.ob i mv h
   have := wjw hok2 hy
   rw [this] at hy'
   cases hy'
   obtain ⟨h3, h4⟩ := wcd hi
   have hrn : rn ρ d i = o := by
    unfold rn
    rw [if_neg (by omega), h4]
    rfl
   refine ⟨wow ρ d y, ?_, wqz hj hol (hX2.imp (fun e => ?_) hSS) hyo⟩
   ·rw [← hrn]
    exact h1 (rn ρ d i, wow ρ d y) (List.mem_append_right _ (List.mem_map.2 ⟨(i, y), List.mem_filter.2 ⟨hy, by simpa using h3⟩, rfl⟩))
   ·simp only [Bool.or_eq_false_iff, List.any_eq_false] at e
    simpa using e.2 _ hy
  ·obtain ⟨y, hy, hyo⟩ := hmr.ob k mv hz
   have hmem := wbw hy
   have harr := (hok1 _ hmem).2
   refine ⟨y, h1 (d * 64 + k, y) (List.mem_append_left _ (List.mem_map.2 ⟨(k, y), List.mem_filter.2 ⟨hmem, by simpa using hk'⟩, rfl⟩)), ?_⟩
   have this : ∀ {M : Nat → Option MV} {S' : Nat → Prop}, ObOK P w' lo M S' (wow ρ d y) mv → ObOK P w' lo M S' y mv := fun {M S'} hh => by
    cases y with
    | arr e t l => exact hh
    | txt e l => exact hh
    | deep e t l => exact hh
    | spent => exact hh
    | perm k e e2 t ix l => exact hh
    | rows e e2 t l hk =>
     cases hk with
     | none => exact hh
     | some p => simp at harr
    | cells cs => simp at harr; omega
   refine this (wqz hj hol (hX2.imp (fun e => ?_) hSS) hyo)
   simp only [Bool.or_eq_false_iff, List.any_eq_false] at e
   simpa using e.2 _ hmem
 ·have hcl : ∀ {o i : Nat} {mv1 mv2 : MV} {b : Nat}, μ o = some mv1 → wcw ρ o 64 = none → μr i = some mv2 → b ∈ mv1.rs → b ∈ mv2.rs → False := fun {o i mv1 mv2 b} ho hi hr hb1 hb2 => by
   rcases hroot i mv2 b hr hb2 with h | ⟨o', mv0, ⟨i', hi'⟩, ho', hb'⟩
   ·have := (hm.lt ho hb1).2
    omega
   ·have := hm.dis o o' mv1 mv0 b ho ho' hb1 hb'
    subst this
    rw [hi] at hi'
    cases hi'
  have hpos : ∀ {o i : Nat}, wcw ρ o 64 = some i → 64 ≤ i ∧ nth ρ (i - 64) = some o := fun h => wcd h
  rcases wen h3 with ⟨hi, h3⟩ | ⟨i, hi, h3⟩ | ⟨_, _, k, hk1, rfl, z3⟩ <;> rcases wen h4 with ⟨hi', h4⟩ | ⟨i', hi', h4⟩ | ⟨_, _, k', hk2, rfl, z4⟩
  ·exact hm.dis o p mv1 mv2 b h3 h4 h5 h6
  ·exact (hcl h3 hi h4 h5 h6).elim
  ·exact (hcl h3 hi z4 h5 h6).elim
  ·exact (hcl h4 hi' h3 h6 h5).elim
  ·have := hmr.dis i i' mv1 mv2 b h3 h4 h5 h6
   subst this
   have a1 := (hpos hi).2
   have a2 := (hpos hi').2
   rw [a1] at a2
   cases a2
   rfl
  ·have := hmr.dis i k' mv1 mv2 b h3 z4 h5 h6
   have := (hpos hi).1
   omega
  ·exact (hcl h4 hi' z3 h6 h5).elim
  ·have := hmr.dis k i' mv1 mv2 b z3 h4 h5 h6
   have := (hpos hi').1
   omega
  ·rw [hmr.dis k k' mv1 mv2 b z3 z4 h5 h6]
 ·have hone : ∀ v ∈ res.1, ∀ y, RelV P w' (old w (wdm μ ρ)) μr (SS Xc μr) v y → RelV P w' lo (join μ μr ρ d) (SS X (join μ μr ρ d)) (ren1 ρ d v) y := fun v hv y hy =>
   wahx hj (hok3 v hv) (hX2.imp (fun e => by simp only [Bool.or_eq_false_iff, List.any_eq_false] at e; simpa using e.1 v hv) hSS) hy
  rcases hrel with ⟨v, hv, hy⟩ | ⟨hne, hy⟩
  ·simp only [wdx, hv]
   exact hone v (by rw [hv]; exact List.mem_cons_self) x hy
  ·have hform : (wdx ρ d res).1.1 = .tup (res.1.map (ren1 ρ d)) := by
    simp only [wdx]
    split
    next v hv => rw [hv] at hne; simp at hne
    next => rfl
   rw [hform]
   cases hy with
   | @tup _ _ xs hl h =>
    refine .tup (by simpa using hl) fun j v hj' => ?_
    rw [wo, List.getElem?_map] at hj'
    cases hu : res.1[j]? with
    | none => rw [hu] at hj'; cases hj'
    | some u =>
     rw [hu] at hj'
     simp only [Option.map_some, Option.some.injEq] at hj'
     subst hj'
     exact hone u (List.mem_of_getElem? hu) _ (h j u (by rw [wo]; exact hu))
end
end Go.Proofs.Ytnagpmhaddfgmaa
