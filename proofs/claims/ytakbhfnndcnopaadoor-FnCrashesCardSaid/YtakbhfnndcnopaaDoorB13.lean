/-
  The state; arrays that are given up.
-/
import Derived.Test.YtakbhfnndcnopaaDoorB12
namespace Go.Proofs.YtakbhfnndcnopaaDoor
open Go.RowKit (Below)

/-- The slots of an activation: how many there are; those that keep their values. -/
structure Par where
  n : Nat
  k : List Nat
  v : Nat → Value
def Par.has (N : Par) (d : Nat) : Prop := d ∉ N.k ∧ d < N.n
structure SzOK (N : Par) (a : Act) : Prop where
  n : a.tmps.size = N.n
  v : ∀ i, i ∈ N.k → a.tmps.getD i undef = N.v i
theorem SzOK.put {N : Par} {a : Act} (h : SzOK N a) {d : Nat} (hd : N.has d) {x : Value} : SzOK N (a.put (some d) x) :=
  ⟨by simp [Act.put, h.n], fun i hi => by
    have e : d ≠ i := fun e => hd.1 (e ▸ hi)
    have := h.v i hi
    simp only [Act.put]
    simpa [Array.getElem?_setIfInBounds_ne e] using this⟩

/-- The evaluator's state stands for the frame and the world. 'w0': the world in which the call began. -/
structure RelF [Tabs] (P : Program) (X : Nat → Prop) (lo : Nat → Prop) (N : Par) (w0 : World) (sl : Nat → AV) (g : Nat → Option Ob) (a : Act) (w : World) (μ : Nat → Option MV) : Prop where
  mem : Mem P X lo g μ w
  fr : ∀ i, RelV P w lo μ (SS X μ) (sl i) (a.tmps.getD i undef)
  bel : Kept lo w0 w
  df : a.defers = []
  sz : SzOK N a

abbrev Rel [Tabs] (P : Program) (X : Nat → Prop) (lo : Nat → Prop) (N : Par) (w0 : World) (s : St) (a : Act) (w : World) (μ : Nat → Option MV) : Prop := RelF P X lo N w0 s.slot s.g a w μ

theorem beq_ne {p o : Nat} (h : p ≠ o) : Nat.beq p o = false := by
  cases hb : Nat.beq p o with
  | true => exact absurd (Nat.eq_of_beq_eq_true hb) h
  | false => rfl
theorem beq_self (o : Nat) : Nat.beq o o = true := Nat.beq_refl o

theorem look_map {α β : Type} (f : α → β) : ∀ (l : List (Nat × α)) (i : Nat), look (l.map fun p => (p.1, f p.2)) i = (look l i).map f
  | [], _ => rfl
  | (k, x) :: r, i => by
    simp only [List.map_cons, look]
    split
    · rfl
    · exact look_map f r i

theorem look_filter [Tabs] {α : Type} (o : Nat) : ∀ (l : List (Nat × α)) (i : Nat), i ≠ o → look (l.filter fun p => !(Nat.beq p.1 o)) i = look l i
  | [], _, _ => rfl
  | (k, x) :: r, i, h => by
    by_cases hk : k = o
    · subst hk
      simp only [List.filter_cons, beq_self, Bool.not_true, Bool.false_eq_true, if_false, look]
      rw [beq_ne (Ne.symm h)]
      exact look_filter k r i h
    · simp only [List.filter_cons, beq_ne hk, Bool.not_false, if_true, look]
      split
      · rfl
      · exact look_filter o r i h

theorem look_filter_self [Tabs] {α : Type} (o : Nat) : ∀ (l : List (Nat × α)), look (l.filter fun p => !(Nat.beq p.1 o)) o = none
  | [] => rfl
  | (k, x) :: r => by
    by_cases hk : k = o
    · subst hk
      simp only [List.filter_cons, beq_self, Bool.not_true, Bool.false_eq_true, if_false]
      exact look_filter_self k r
    · simp only [List.filter_cons, beq_ne hk, Bool.not_false, if_true, look]
      exact look_filter_self o r

theorem look_append {α : Type} : ∀ (l r : List (Nat × α)) (i : Nat), look (l ++ r) i = match look l i with | some x => some x | none => look r i
  | [], r, i => rfl
  | (k, x) :: l, r, i => by
    simp only [List.cons_append, look]
    split
    · rfl
    · exact look_append l r i

section
variable {P : Program} {tt : Nat → TD} {w : World} {lo : Nat → Prop} {N : Par} {μ : Nat → Option MV} {S : Nat → Prop} {X : Nat → Prop} {g : Nat → Option Ob} {a : Act} {E : Env} {w0 : World}

/-- The values without the array o. -/
def without (μ : Nat → Option MV) (o p : Nat) : Option MV := if p = o then none else μ p

theorem frzL_rel [Tabs] {μ' : Nat → Option MV} {o : Nat} {d : AV} {S S' : Nat → Prop} (hμ : ∀ p mv, p ≠ o → μ p = some mv → μ' p = some mv) (hd : ∀ mv, μ o = some mv → RelV P w lo μ' S' d mv.v) (hS : ∀ b, b < w.heap.size → S b → S' b) {v : AV} {x : Value}
    (h : RelV P w lo μ S v x) : RelV P w lo μ' S' (frzL o d v) x := by
  cases h with
  | @arr _ p _ _ _ _ h =>
    simp only [frzL]
    by_cases e : p = o
    · subst e; rw [beq_self]; exact hd _ h
    · rw [beq_ne e]; exact .arr (hμ _ _ e h)
  | @box _ p _ _ _ h =>
    simp only [frzL]
    by_cases e : p = o
    · subst e; rw [beq_self]; exact .undef
    · rw [beq_ne e]; exact .box (hμ _ _ e h)
  | @elt _ p _ _ _ _ _ _ h =>
    simp only [frzL]
    by_cases e : p = o
    · subst e; rw [beq_self]; exact .undef
    · rw [beq_ne e]; exact .elt (hμ _ _ e h)
  | @fld _ p _ _ _ _ _ _ _ h =>
    simp only [frzL]
    by_cases e : p = o
    · subst e; rw [beq_self]; exact .undef
    · rw [beq_ne e]; exact .fld (hμ _ _ e h)
  | dat ht h => exact .dat ht (h.step fun b hb hs => ⟨hS b hb hs, rfl⟩)
  | nilsl => exact .nilsl
  | clo h => exact .clo h
  | @fn _ f caps xs hl h =>
    cases caps with
    | nil => exact .fn hl fun j v hv => by simp [nth] at hv
    | cons c caps => exact .undef
  | _ => exact .undef

theorem frzC_rel [Tabs] {μ' : Nat → Option MV} {o : Nat} {d : AV} {S S' : Nat → Prop} (hμ : ∀ p mv, p ≠ o → μ p = some mv → μ' p = some mv) (hd : ∀ mv, μ o = some mv → RelV P w lo μ' S' d mv.v) (hS : ∀ b, b < w.heap.size → S b → S' b) {v : AV} {x : Value}
    (h : RelV P w lo μ S v x) : RelV P w lo μ' S' (frzC o d v) x := by
  have h0 := h
  cases h with
  | @ptr _ cs b k xs hne hb hx h =>
    have hlt : b < w.heap.size := by
      cases cs with
      | nil => exact absurd rfl hne
      | cons c cs => exact block_lt_of_cell (hx 0 c rfl)
    refine .ptr xs (by simpa using hne) (hb.imp (hS b hlt) id) (fun j u hu => ?_) fun j u hu => ?_
    · rw [nth_eq, List.getElem?_map] at hu
      cases hj : cs[j]? with
      | none => rw [hj] at hu; cases hu
      | some v => exact hx j v (by rw [nth_eq]; exact hj)
    · rw [nth_eq, List.getElem?_map] at hu
      cases hj : cs[j]? with
      | none => rw [hj] at hu; cases hu
      | some v =>
        rw [hj] at hu
        simp at hu
        subst hu
        exact frzL_rel hμ hd hS (h j v (by rw [nth_eq]; exact hj))
  | _ => exact frzL_rel hμ hd hS h0

theorem frz1_rel [Tabs] {μ' : Nat → Option MV} {o : Nat} {d : AV} {S S' : Nat → Prop} (hlo : (∀ b, lo b → b < w.heap.size)) (hμ : ∀ p mv, p ≠ o → μ p = some mv → μ' p = some mv) (hd : ∀ mv, μ o = some mv → RelV P w lo μ' S' d mv.v) (hS : ∀ b, b < w.heap.size → S b → S' b) {v : AV} {x : Value}
    (h : RelV P w lo μ S v x) : RelV P w lo μ' S' (frz1 o d v) x := by
  have h0 := h
  cases h with
  | @agg _ vs xs hl h =>
    refine .agg (by simpa using hl) fun j u hu => ?_
    rw [nth_eq, List.getElem?_map] at hu
    cases hj : vs[j]? with
    | none => rw [hj] at hu; cases hu
    | some v =>
      rw [hj] at hu
      simp only [Option.map_some, Option.some.injEq] at hu
      subst hu
      exact frzL_rel hμ hd hS (h j v (by rw [nth_eq]; exact hj))
  | @fn _ f caps xs hl h =>
    refine .fn (by simpa using hl) fun j u hu => ?_
    rw [nth_eq, List.getElem?_map] at hu
    cases hj : caps[j]? with
    | none => rw [hj] at hu; cases hu
    | some v =>
      rw [hj] at hu
      simp only [Option.map_some, Option.some.injEq] at hu
      subst hu
      exact frzC_rel hμ (fun mv hm => (hd mv hm).step (fun _ _ h => h) hlo (fun b _ hs => ⟨.inl hs, rfl⟩) fun _ _ => rfl) (fun b hb hs => hs.imp (hS b hb) id) (h j v (by rw [nth_eq]; exact hj))
  | _ => exact frzC_rel hμ hd hS h0

theorem frz2_rel [Tabs] {μ' : Nat → Option MV} {o : Nat} {d : AV} {S S' : Nat → Prop} (hlo : (∀ b, lo b → b < w.heap.size)) (hμ : ∀ p mv, p ≠ o → μ p = some mv → μ' p = some mv) (hd : ∀ mv, μ o = some mv → RelV P w lo μ' S' d mv.v) (hS : ∀ b, b < w.heap.size → S b → S' b) {v : AV} {x : Value}
    (h : RelV P w lo μ S v x) : RelV P w lo μ' S' (frz2 o d v) x := by
  have h0 := h
  cases h with
  | @tup _ vs xs hl h =>
    refine .tup (by simpa using hl) fun j u hu => ?_
    rw [nth_eq, List.getElem?_map] at hu
    cases hj : vs[j]? with
    | none => rw [hj] at hu; cases hu
    | some v =>
      rw [hj] at hu
      simp only [Option.map_some, Option.some.injEq] at hu
      subst hu
      exact frz1_rel hlo hμ hd hS (h j v (by rw [nth_eq]; exact hj))
  | _ => exact frz1_rel hlo hμ hd hS h0

theorem frzOb_rel [Tabs] {μ' : Nat → Option MV} {o : Nat} {d : AV} {S S' : Nat → Prop} (hlo : (∀ b, lo b → b < w.heap.size)) (hμ : ∀ p mv, p ≠ o → μ p = some mv → μ' p = some mv) (hd : ∀ mv, μ o = some mv → RelV P w lo μ' S' d mv.v) (hS : ∀ b, b < w.heap.size → S b → S' b) {x : Ob} {mv : MV}
    (h : ObOK P w lo μ S x mv) : ObOK P w lo μ' S' (frzOb o d x) mv := by
  cases x with
  | arr e t l =>
    obtain ⟨hrs, hnl, xs, h1, h2⟩ := h
    exact ⟨hrs, hnl, xs, h1, h2.step fun b hb hs => ⟨hS b hb hs, rfl⟩⟩
  | txt e l => exact h
  | cells cs =>
    obtain ⟨b, vs, e, h1, h2, h3, h4, h5⟩ := h
    refine ⟨b, vs, e, h1, h2, h3, by simpa using h4, fun j u hu => ?_⟩
    rw [nth_eq, List.getElem?_map] at hu
    cases hj : cs[j]? with
    | none => rw [hj] at hu; cases hu
    | some v =>
      rw [hj] at hu
      simp only [Option.map_some, Option.some.injEq] at hu
      subst hu
      exact frz1_rel hlo hμ hd hS (h5 j v (by rw [nth_eq]; exact hj))

theorem SS_without {o : Nat} {b : Nat} (h : SS X μ b) : SS X (without μ o) b :=
  ⟨h.1, fun p mv hp e => by
    unfold without at hp
    split at hp
    · cases hp
    · exact h.2 p mv hp e⟩

theorem without_ne {o p : Nat} {mv : MV} (h : p ≠ o) (hp : μ p = some mv) : without μ o p = some mv := by simp [without, h, hp]
theorem without_inv {o p : Nat} {mv : MV} (h : without μ o p = some mv) : p ≠ o ∧ μ p = some mv := by
  unfold without at h
  split at h
  · cases h
  · exact ⟨by assumption, h⟩

/-- An array is given up: what stands for it stands for its value. -/
theorem Rel.swap [Tabs] {s : St} (h : Rel P X lo N w0 s a w μ) {o : Nat} {d : AV} (hd : ∀ mv, μ o = some mv → RelV P w lo (without μ o) (SS X (without μ o)) d mv.v) : Rel P X lo N w0 (s.swap o d []) a w (without μ o) := by
  have hS : ∀ b, b < w.heap.size → SS X μ b → SS X (without μ o) b := fun b _ hs => SS_without hs
  refine ⟨⟨h.mem.hX, h.mem.hlo, fun p mv hp => ?_, fun p p' mv mv' b h1 h2 h3 h4 => h.mem.dis p p' mv mv' b (without_inv h1).2 (without_inv h2).2 h3 h4, h.mem.tab⟩, fun i => ?_, h.bel, h.df, h.sz⟩
  · obtain ⟨hne, hp⟩ := without_inv hp
    obtain ⟨x, hx, hob⟩ := h.mem.ob p mv hp
    refine ⟨frzOb o d x, ?_, frzOb_rel h.mem.hlo (fun p mv hne hp => without_ne hne hp) hd hS hob⟩
    simp only [St.g, St.swap, List.nil_append, look_map]
    rw [look_filter o s.ob p hne]
    simp only [St.g] at hx
    rw [hx]
    rfl
  · simp only [St.slot, St.swap, look_map]
    have := frz2_rel (d := d) h.mem.hlo (fun p mv hne hp => without_ne (μ := μ) hne hp) hd hS (h.fr i)
    simp only [St.slot] at this
    cases hl : look s.fr i with
    | none => exact .undef
    | some v => rw [hl] at this; exact this

theorem Rel.freeze [Tabs] {s : St} (h : Rel P X lo N w0 s a w μ) (o : Nat) : ∃ μ', Rel P X lo N w0 (s.freeze o) a w μ' := by
  unfold St.freeze
  split
  next e t l hg =>
    refine ⟨_, h.swap fun mv hmv => ?_⟩
    have hR : ∀ b, b ∈ mv.rs → SS X (without μ o) b := fun b hb => by
      refine ⟨fun hx => ?_, fun p mv' hp e => ?_⟩
      · exact (h.mem.lt hmv hb).1 (h.mem.hX b hx)
      · obtain ⟨hne, hp⟩ := without_inv hp
        exact hne (h.mem.dis p o mv' mv b hp hmv e hb)
    obtain ⟨a', c, _, hr⟩ := h.mem.asDat hmv hg (S' := SS X (without μ o)) (fun b _ hs => SS_without hs) hR
    exact .dat rfl hr
  next => exact ⟨μ, h⟩

theorem Rel.freezes [Tabs] : ∀ (l : List Nat) {s : St} {μ : Nat → Option MV}, Rel P X lo N w0 s a w μ → ∃ μ', Rel P X lo N w0 (s.freezes l) a w μ'
  | [], _, μ, h => ⟨μ, h⟩
  | o :: l, s, μ, h => by
    obtain ⟨μ', h'⟩ := h.freeze o
    exact Rel.freezes l h'

/-- A new value in a slot. -/
theorem Rel.put [Tabs] {s : St} (h : Rel P X lo N w0 s a w μ) {d : Nat} (hd : N.has d) {v : AV} {x : Value} (hv : RelV P w lo μ (SS X μ) v x) : Rel P X lo N w0 { s with fr := (d, v) :: s.fr } (a.put (some d) x) w μ := by
  refine ⟨h.mem, fun i => ?_, h.bel, h.df, h.sz.put hd⟩
  simp only [St.slot, look, Act.put]
  by_cases e : d = i
  · subst e
    rw [beq_self]
    have hd' : d < a.tmps.size := by rw [h.sz.n]; exact hd.2
    simpa [hd'] using hv
  · rw [beq_ne e]
    have := h.fr i
    simp only [St.slot] at this
    simpa [Array.getElem?_setIfInBounds_ne e] using this

/-- What is known of a slot may be said anew. -/
theorem Rel.know [Tabs] {s : St} (h : Rel P X lo N w0 s a w μ) {d : Nat} {v : AV} (hv : RelV P w lo μ (SS X μ) v (a.tmps.getD d undef)) : Rel P X lo N w0 { s with fr := (d, v) :: s.fr } a w μ := by
  refine ⟨h.mem, fun i => ?_, h.bel, h.df, h.sz⟩
  simp only [St.slot, look]
  by_cases e : d = i
  · subst e
    rw [beq_self]
    exact hv
  · rw [beq_ne e]
    exact h.fr i

/-- The slots behind an operation. -/
def slA (sl : Nat → AV) (u : LU) (i : Nat) : AV :=
  match u.d with
  | some p => if p.1 = i then p.2 else (match u.und with
    | some b => if b = i then .undef else sl i
    | none => sl i)
  | none => sl i
/-- What is owned behind an operation. -/
def gA (g : Nat → Option Ob) (u : LU) (i : Nat) : Option Ob :=
  match look u.objs i with
  | some x => some x
  | none => g i

theorem slot_app [Tabs] (s : St) (u : LU) : (s.app u).slot = slA s.slot u := by
  funext i
  obtain ⟨d, und, objs⟩ := u
  cases d with
  | none => rfl
  | some p =>
    simp only [St.app, St.slot, look, slA]
    by_cases e : p.1 = i
    · subst e; rw [beq_self]; simp
    · rw [beq_ne e, if_neg e]
      cases und with
      | none => rfl
      | some b =>
        simp only [look]
        by_cases e' : b = i
        · subst e'; rw [beq_self]; simp
        · rw [beq_ne e', if_neg e']

theorem g_app [Tabs] (s : St) (u : LU) : (s.app u).g = gA s.g u := by
  funext i
  simp only [St.app, St.g, look_append, gA]
  cases look u.objs i <;> rfl

theorem tmps_put {a : Act} {d : Nat} {x : Value} (hd : d < a.tmps.size) (i : Nat) : (a.put (some d) x).tmps.getD i undef = if d = i then x else a.tmps.getD i undef := by
  simp only [Act.put]
  by_cases e : d = i
  · subst e; simp [hd]
  · rw [if_neg e]; simp [Array.getElem?_setIfInBounds_ne e]

/-- Behind an operation that turns no header. -/
theorem RelF.upd [Tabs] {sl : Nat → AV} (h : RelF P X lo N w0 sl g a w μ) {u : LU} {w' : World} {μ' : Nat → Option MV} (hn : (u.objs.map (·.1)).Nodup) (hu : u.und = none) (hq : NxU P X lo g μ w u.objs w' μ') {dst : Option Nat} (hd : dst = u.d.map (·.1)) (hdN : ∀ d, dst = some d → N.has d) {x : Value}
    (hv : ∀ p, u.d = some p → RelV P w' lo μ' (SS X μ') p.2 x) : RelF P X lo N w0 (slA sl u) (gA g u) (a.put dst x) w' μ' := by
  refine ⟨hq.mem _ (fun p hp => ?_) fun o mv _ ho => ?_, fun i => ?_, h.bel.trans hq.kept, ?_, ?_⟩
  · rw [gA, mem_look hn hp]
  · rw [gA]
    cases hl : look u.objs o with
    | none => rfl
    | some y => exact absurd rfl (ho _ (look_mem hl))
  · have hold := hq.step h.mem.hlo (h.fr i)
    rw [slA, hu]
    cases hud : u.d with
    | none =>
      rw [hud] at hd
      simp only [Option.map_none] at hd
      subst hd
      exact hold
    | some p =>
      rw [hud] at hd
      simp only [Option.map_some] at hd
      subst hd
      have hlt : p.1 < a.tmps.size := by rw [h.sz.n]; exact (hdN _ rfl).2
      rw [tmps_put hlt]
      simp only
      split
      · exact hv p hud
      · exact hold
  · cases dst <;> exact h.df
  · cases dst
    · exact h.sz
    · exact h.sz.put (hdN _ rfl)

theorem Rel.upd [Tabs] {s : St} (h : Rel P X lo N w0 s a w μ) {u : LU} {w' : World} {μ' : Nat → Option MV} (hn : (u.objs.map (·.1)).Nodup) (hu : u.und = none) (hq : NxU P X lo s.g μ w u.objs w' μ') {dst : Option Nat} (hd : dst = u.d.map (·.1)) (hdN : ∀ d, dst = some d → N.has d) {x : Value}
    (hv : ∀ p, u.d = some p → RelV P w' lo μ' (SS X μ') p.2 x) : Rel P X lo N w0 (s.app u) (a.put dst x) w' μ' := by
  have := RelF.upd h hn hu hq hd hdN hv
  rw [← slot_app, ← g_app] at this
  exact this

/-! ### Values that are the same without a thing -/
theorem clL_frz {o : Nat} {v : AV} (h : clL o v = true) : frzL o .undef v = v := by
  cases v with
  | arr p => simp only [clL, Bool.not_eq_true'] at h; simp [frzL, h]
  | elt p i s => simp only [clL, Bool.not_eq_true'] at h; simp [frzL, h]
  | fld p i s k => simp only [clL, Bool.not_eq_true'] at h; simp [frzL, h]
  | box p k => simp only [clL, Bool.not_eq_true'] at h; simp [frzL, h]
  | fn f caps =>
    cases caps with
    | nil => rfl
    | cons c caps => simp [clL] at h
  | dat t v => rfl
  | nilsl => rfl
  | undef => rfl
  | clo ts r p => rfl
  | _ => simp [clL] at h
theorem map_id_of {F : AV → AV} {cs : List AV} (h : ∀ c ∈ cs, F c = c) : cs.map F = cs := by
  induction cs with
  | nil => rfl
  | cons c cs ih => rw [List.map_cons, h c List.mem_cons_self, ih fun c hc => h c (List.mem_cons_of_mem _ hc)]
theorem clC_frz [Tabs] {o : Nat} {v : AV} (h : clC o v = true) : frzC o .undef v = v := by
  cases v with
  | ptr cs =>
    simp only [clC, List.all_eq_true] at h
    simp only [frzC]
    rw [map_id_of fun c hc => clL_frz (h c hc)]
  | _ => simp only [clC] at h; simpa only [frzC] using clL_frz h
theorem cl1_frz [Tabs] {o : Nat} {v : AV} (h : cl1 o v = true) : frz1 o .undef v = v := by
  cases v with
  | agg cs =>
    simp only [cl1, List.all_eq_true] at h
    simp only [frz1]
    rw [map_id_of fun c hc => clL_frz (h c hc)]
  | fn f caps =>
    simp only [cl1, List.all_eq_true] at h
    simp only [frz1]
    rw [map_id_of fun c hc => clC_frz (h c hc)]
  | _ => simp only [cl1] at h; simpa only [frz1] using clC_frz h
theorem clOb_frz [Tabs] {o : Nat} {x : Ob} (h : clOb o x = true) : frzOb o .undef x = x := by
  cases x with
  | arr e t l => rfl
  | txt e l => rfl
  | cells cs =>
    simp only [clOb, List.all_eq_true] at h
    simp only [frzOb]
    rw [map_id_of fun c hc => cl1_frz (h c hc)]
end
end Go.Proofs.YtakbhfnndcnopaaDoor
