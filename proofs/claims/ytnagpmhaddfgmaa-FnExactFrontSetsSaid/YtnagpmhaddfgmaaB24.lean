/-
 What is done at a loop's head and at an exit; loops.
-/
import Derived.Test.YtnagpmhaddfgmaaB23
namespace Go.Proofs.Ytnagpmhaddfgmaa
open Go.RowKit (Below)
def only (μ : Nat → Option MV) (ids : List Nat) (o : Nat) : Option MV := if ids.any (Nat.beq o) = true then μ o else none
theorem wadg [Tabs] {μ : Nat → Option MV} {ids : List Nat} {o : Nat} {mv : MV} (ho : o ∈ ids) (h : μ o = some mv) : only μ ids o = some mv := by
 unfold only
 rw [if_pos (List.any_eq_true.2 ⟨o, ho, wam o⟩)]
 exact h
theorem wdz {μ : Nat → Option MV} {ids : List Nat} {o : Nat} {mv : MV} (h : only μ ids o = some mv) : o ∈ ids ∧ μ o = some mv := by
 unfold only at h
 split at h
 next e =>
  obtain ⟨x, hx, e⟩ := List.any_eq_true.1 e
  rw [Nat.eq_of_beq_eq_true e]
  exact ⟨hx, by rw [← Nat.eq_of_beq_eq_true e]; exact h⟩
 next => cases h
section
variable {P : Program} {E : Env} {tt : Nat → TD} {fz : Nat → Nat → List Nat} {orc : Orc} {X : Nat → Prop} {lo : Nat → Prop} {N : Par} {w0 w : World} {a : Act} {μ : Nat → Option MV} {s : St}
theorem RL.map {R : AV → Value → Prop} {f : Nat → AV} {g : Nat → Value} (h : ∀ i, R (f i) (g i)) : ∀ l : List Nat, RL R (l.map f) (l.map g)
 | [] => trivial
 | i :: l => ⟨h i, RL.map h l⟩
theorem RL.zip {R : AV → Value → Prop} (hu : ∀ x, R .undef x) {g : Nat → Value} (i : Nat) : ∀ {l : List Nat} {vs : List AV}, RL R vs (l.map g) → R ((look (zipS l vs) i).getD .undef) (g i)
 | [], [], _ => hu _
 | [], _ :: _, h => h.elim
 | _ :: _, [], h => h.elim
 | j :: l, v :: vs, h => by
  simp only [zipS, look]
  split
  next e =>
   have := Nat.eq_of_beq_eq_true e
   subst this
   exact h.1
  next => exact RL.zip hu i h.2
theorem whj [Tabs] {g : Nat → Option Ob} : ∀ {l : List (Nat × OSh)} {y : OL l}, wze g l = some y → ∀ o, o ∈ l.map (·.1) → ∃ os x z, look (wew l y) o = some (os.mk z) ∧ g o = some x ∧ os.un x = some z ∧ (o, os) ∈ l
 | [], _, _, o, ho => by cases ho
 |(i, os) :: l, y, h, o, ho => by
  simp only [wze] at h
  split at h
  next x hx =>
   split at h
   next y' z' hy hz =>
    cases h
    simp only [wew, look]
    by_cases e : i = o
    ·subst e
     rw [wam]
     exact ⟨os, x, y', rfl, hx, hy, List.mem_cons_self⟩
    ·rw [wal e]
     simp only [List.map_cons, List.mem_cons] at ho
     obtain ⟨os', x', z, h1, h2, h3, h4⟩ := whj hz o (ho.resolve_left fun e' => e e'.symm)
     exact ⟨os', x', z, h1, h2, h3, List.mem_cons_of_mem _ h4⟩
   next => cases h
  next => cases h
theorem wadh {μ' : Nat → Option MV} {ids : List Nat} (hμ : ∀ o ∈ ids, ∀ mv, μ o = some mv → μ' o = some mv) {S S' : Nat → Prop} (hS : ∀ b, S b → S' b) {os : OSh} {x : Ob} {z : os.I} {mv : MV} (hk : os.okIds ids = true) (hu : os.un x = some z)
  (h : ObOK P w lo μ S x mv) : ObOK P w lo μ' S' (os.mk z) mv := by
 cases os with
 | arr e t =>
  cases x with
  | arr e' t' l =>
   simp only [OSh.un] at hu
   split at hu
   next he =>
    have := Nat.eq_of_beq_eq_true he
    subst this
    obtain ⟨e2, rfl⟩ := Ty.cast_spec hu
    cases e2
    obtain ⟨⟨hhs, hrs⟩, hnl, xs, h1, h2⟩ := h
    exact ⟨⟨hhs, hrs⟩, hnl, xs, h1, h2.step fun b _ hb => ⟨hS b hb, rfl⟩⟩
   next => cases hu
  | txt e l => simp [OSh.un] at hu
  | deep => simp [OSh.un] at hu
  | perm => simp [OSh.un] at hu
  | spent => simp [OSh.un] at hu
  | rows e e2 t l hh => simp [OSh.un] at hu
  | cells cs => simp [OSh.un] at hu
 | deep e t =>
  cases x with
  | deep e' t' l =>
   simp only [OSh.un] at hu
   split at hu
   next he =>
    have := Nat.eq_of_beq_eq_true he
    subst this
    obtain ⟨e2, rfl⟩ := Ty.cast_spec hu
    cases e2
    exact h
   next => cases hu
  | _ => simp [OSh.un] at hu
 | perm e e2 t =>
  cases x with
  | perm k e' e2' t' ix l =>
   simp only [OSh.un] at hu
   split at hu
   next he he2 =>
    have := Nat.eq_of_beq_eq_true he
    subst this
    have := Nat.eq_of_beq_eq_true he2
    subst this
    split at hu
    next y hy =>
     obtain ⟨e3, rfl⟩ := Ty.cast_spec hy
     cases e3
     cases hu
     exact PermOK.step h (fun b _ hb => ⟨hS b hb, rfl⟩) (fun _ _ => rfl) fun b hb => (PermOK.low h b hb).1
    next => cases hu
   next => cases hu
  | _ => simp [OSh.un] at hu
 | spent =>
  cases x with
  | spent => exact h
  | _ => simp [OSh.un] at hu
 | rows e e2 t =>
  cases x with
  | rows e' e2' t' l hh =>
   cases hh with
   | some q => simp [OSh.un] at hu
   | none =>
    simp only [OSh.un] at hu
    split at hu
    next he he2 =>
     have := Nat.eq_of_beq_eq_true he
     subst this
     have := Nat.eq_of_beq_eq_true he2
     subst this
     obtain ⟨e3, rfl⟩ := Ty.cast_spec hu
     cases e3
     exact ⟨h.1.step (fun b _ hb => ⟨hS b hb, rfl⟩) (fun _ _ => rfl) fun b hb => (h.1.low b hb).1, fun i d hd => by cases hd⟩
    next => cases hu
  | arr e' t' l => simp [OSh.un] at hu
  | txt e l => simp [OSh.un] at hu
  | deep => simp [OSh.un] at hu
  | perm => simp [OSh.un] at hu
  | spent => simp [OSh.un] at hu
  | cells cs => simp [OSh.un] at hu
 | cells c =>
  cases x with
  | arr e' t' l => simp [OSh.un] at hu
  | txt e l => simp [OSh.un] at hu
  | deep => simp [OSh.un] at hu
  | perm => simp [OSh.un] at hu
  | spent => simp [OSh.un] at hu
  | rows e e2 t l hh => simp [OSh.un] at hu
  | cells cs =>
   simp only [OSh.un] at hu
   split at hu
   next y hy =>
    cases hu
    obtain ⟨b, vs, e, h1, h2, h3, h4, h5⟩ := h
    obtain ⟨y1, y2, he, k1, k2⟩ := wlk CloAll.none hy (RL.of (ys := vs.toList) (by simpa using h4.symm) fun j v hv => by simpa using h5 j v hv)
    cases y2 with
    | cons _ _ => exact k2.elim
    | nil =>
     rw [List.append_nil] at he
     subst he
     obtain ⟨k3, k4⟩ := (wdi hμ (by simpa only [OSh.okIds] using hk) hS k1).to
     exact ⟨b, vs, e, h1, h2, h3, by simpa using k3.symm, fun j v hv => by simpa using k4 j v hv⟩
   next => cases hu
theorem wua [Tabs] {ids : List Nat} {b : Nat} (h : SS X μ b) : SS X (only μ ids) b := ⟨h.1, fun o mv ho => h.2 o mv (wdz ho).2⟩
theorem Rel.un [Tabs] {S : SSh} (hk : S.ok = true) {t : S.T} (hu : unSt S s = some t) (h : Rel P X lo N w0 s a w μ) : ∃ μ', Rel P X lo N w0 (wbj S t) a w μ' := by
 unfold unSt at hu
 split at hu
 next x hx =>
  split at hu
  next y hy =>
   cases hu
   simp only [SSh.ok, Bool.and_eq_true, List.all_eq_true] at hk
   have hμ : ∀ o ∈ S.obs.map (·.1), ∀ mv, μ o = some mv → only μ (S.obs.map (·.1)) o = some mv := fun o ho mv h => wadg ho h
   refine ⟨only μ (S.obs.map (·.1)), ⟨h.mem.hX, h.mem.hlo, fun o mv ho => ?_, fun o p mv mv' b h1 h2 => h.mem.dis o p mv mv' b (wdz h1).2 (wdz h2).2, h.mem.tab⟩, fun i => ?_, h.bel, h.df, h.sz⟩
   ·obtain ⟨h1, h2⟩ := wdz ho
    obtain ⟨os, x', z, k1, k2, k3, k4⟩ := whj hy o h1
    obtain ⟨x'', k5, k6⟩ := h.mem.ob o mv h2
    rw [k5] at k2
    cases k2
    exact ⟨os.mk z, k1, wadh hμ (fun b => wua) (hk.2 _ k4) k3 k6⟩
   ·obtain ⟨y1, y2, he, k1, k2⟩ := wlk CloAll.none hx (RL.map (fun i => h.fr i) S.slots)
    cases y2 with
    | cons _ _ => exact k2.elim
    | nil =>
     rw [List.append_nil] at he
     subst he
     exact RL.zip (fun _ => .undef) i (wdi hμ hk.1 (fun b => wua) k1)
  next => cases hu
 next => cases hu
theorem wll [Tabs] {o e : Nat} {t : Ty} (h : Rel P X lo N w0 s a w μ) (hg : s.g o = none) :
  Rel P X lo N w0 { fr := s.fr, ob := (o, .arr e t []) :: s.ob } a w (again μ o ⟨.slice none 0 0, [], []⟩) := by
 have hμ0 : μ o = none := by
  cases hm : μ o with
  | none => rfl
  | some mv => obtain ⟨y, hy, _⟩ := h.mem.ob o mv hm; rw [hg] at hy; cases hy
 have hμ' : ∀ p mv, μ p = some mv → again μ o ⟨.slice none 0 0, [], []⟩ p = some mv := fun p mv hp => wdg (fun e => by rw [e, hμ0] at hp; cases hp) hp
 have hS : ∀ b, b < w.heap.size → SS X μ b → SS X (again μ o ⟨.slice none 0 0, [], []⟩) b := fun b _ hb => ⟨hb.1, fun p mv hp e => by
  rcases wag hp with ⟨rfl, rfl⟩ | ⟨_, hp⟩
  ·cases e
  ·exact hb.2 p mv hp e⟩
 refine ⟨⟨h.mem.hX, h.mem.hlo, fun p mv hp => ?_, fun p p' mv mv' k hp hp' hk hk' => ?_, h.mem.tab⟩, fun j => (h.fr j).step hμ' h.mem.hlo (fun b hb hs => ⟨hS b hb hs, rfl⟩) fun _ _ => rfl, h.bel, h.df, h.sz⟩
 ·rcases wag hp with ⟨rfl, rfl⟩ | ⟨hne, hp⟩
  ·exact ⟨.arr e t [], by simp [St.g, look], ⟨rfl, rfl⟩, fun b hb => by simp [wu] at hb, [], World.ownsRow_nil w 0 e t.size, rfl⟩
  ·obtain ⟨y, hy, hyo⟩ := h.mem.ob p mv hp
   refine ⟨y, ?_, hyo.step h.mem.hlo hμ' (fun b hb hs => ⟨hS b hb hs, rfl⟩) (fun _ _ => rfl) fun _ _ => rfl⟩
   simp only [St.g, look, wal (Ne.symm hne)]
   exact hy
 ·rcases wag hp with ⟨rfl, rfl⟩ | ⟨hne, hp1⟩ <;> rcases wag hp' with ⟨rfl, rfl⟩ | ⟨hne', hp1'⟩
  ·rfl
  ·cases hk
  ·cases hk'
  ·exact h.mem.dis _ _ _ _ k hp1 hp1' hk hk'
theorem wpt {w : World} {S : Nat → Prop} {y : Value} (hv : RelV P w lo μ S .nilsl y) : y = .slice none 0 0 := by
 cases hv
 rfl
theorem Rel.own [Tabs] {i o e : Nat} {t : Ty} (h : Rel P X lo N w0 s a w μ) (hs : s.slot i = .nilsl) (hg : s.g o = none) :
  ∃ μ', Rel P X lo N w0 { fr := (i, .arr o) :: s.fr, ob := (o, .arr e t []) :: s.ob } a w μ' := by
 have hv := h.fr i
 rw [hs] at hv
 have hval := wpt hv
 exact ⟨_, (wll h hg).know (d := i) (by rw [hval]; exact .arr (rs := []) (hs := []) wao)⟩
theorem Rel.ownR [Tabs] {i o e e2 : Nat} {t : Ty} (h : Rel P X lo N w0 s a w μ) (hs : s.slot i = .nilsl) (hg : s.g o = none) :
  ∃ μ', Rel P X lo N w0 { fr := (i, .arr o) :: s.fr, ob := (o, .rows e e2 t [] none) :: s.ob } a w μ' := by
 have hv := h.fr i
 rw [hs] at hv
 have hval := wpt hv
 have hrel := wfv h (d := o) (e := e) (e2 := e2) (t := t) hg
 exact ⟨_, hrel.know (d := i) (by rw [hval]; exact .arr (rs := []) (hs := []) wao)⟩
theorem wadi {w : World} {S : Nat → Prop} {cs : List AV} {j o : Nat} {y : Value} (hv : RelV P w lo μ S (.agg cs) y) (hj : nth cs j = some .nilsl) (ho : ∃ rs hs, μ o = some ⟨.slice none 0 0, rs, hs⟩) : RelV P w lo μ S (.agg (cs.set j (.arr o))) y := by
 obtain ⟨rs, hs, ho⟩ := ho
 cases hv with
 | agg hl hv =>
  refine .agg (by rw [List.length_set]; exact hl) fun k v hk => ?_
  rw [wo, List.getElem?_set] at hk
  split at hk
  next e =>
   subst e
   split at hk
   next =>
    cases hk
    rw [wpt (hv j _ hj)]
    exact .arr ho
   next => cases hk
  next => exact hv k v (by rw [wo]; exact hk)
theorem Rel.ownC [Tabs] {i j o e : Nat} {t : Ty} {cs : List AV} (h : Rel P X lo N w0 s a w μ) (hs : s.slot i = .agg cs) (hg : s.g o = none) (hj : nth cs j = some .nilsl) :
  ∃ μ', Rel P X lo N w0 { fr := (i, .agg (cs.set j (.arr o))) :: s.fr, ob := (o, .arr e t []) :: s.ob } a w μ' := by
 have h1 := wll h (o := o) (e := e) (t := t) hg
 have hv := h1.fr i
 rw [show ({ fr := s.fr, ob := (o, .arr e t []) :: s.ob } : St).slot i = s.slot i from rfl, hs] at hv
 exact ⟨_, h1.know (d := i) (wadi hv hj ⟨[], [], wao⟩)⟩
theorem Rel.ownRC [Tabs] {i j o e e2 : Nat} {t : Ty} {cs : List AV} (h : Rel P X lo N w0 s a w μ) (hs : s.slot i = .agg cs) (hg : s.g o = none) (hj : nth cs j = some .nilsl) :
  ∃ μ', Rel P X lo N w0 { fr := (i, .agg (cs.set j (.arr o))) :: s.fr, ob := (o, .rows e e2 t [] none) :: s.ob } a w μ' := by
 have h1 := wfv h (d := o) (e := e) (e2 := e2) (t := t) hg
 have hv := h1.fr i
 rw [show ({ fr := s.fr, ob := (o, .rows e e2 t [] none) :: s.ob } : St).slot i = s.slot i from rfl, hs] at hv
 exact ⟨_, h1.know (d := i) (wadi hv hj ⟨[], [], wao⟩)⟩
theorem wwj [Tabs] {p j o : Nat} {x : Ob} {cs : List AV} {μ' : Nat → Option MV} (h1 : Rel P X lo N w0 { fr := s.fr, ob := (o, x) :: s.ob } a w μ') (hp : s.g p = some (.cells cs)) (hg : s.g o = none) (hj : nth cs j = some .nilsl) (ho : ∃ rs hs, μ' o = some ⟨.slice none 0 0, rs, hs⟩) :
  Rel P X lo N w0 { fr := s.fr, ob := (p, .cells (cs.set j (.arr o))) :: (o, x) :: s.ob } a w μ' := by
 have hne : o ≠ p := fun e => by rw [e, hp] at hg; cases hg
 refine ⟨⟨h1.mem.hX, h1.mem.hlo, fun q mv hq => ?_, h1.mem.dis, h1.mem.tab⟩, h1.fr, h1.bel, h1.df, h1.sz⟩
 obtain ⟨y, hy, hyo⟩ := h1.mem.ob q mv hq
 by_cases e : q = p
 ·subst e
  have hy' : s.g q = some y := by
   simp only [St.g, look, wal hne] at hy
   exact hy
  rw [hp] at hy'
  cases hy'
  refine ⟨.cells (cs.set j (.arr o)), by simp [St.g, look], ?_⟩
  obtain ⟨b, vs, e, h2, h3, h4, h5, h6⟩ := hyo
  refine ⟨b, vs, e, h2, h3, h4, by rw [List.length_set]; exact h5, fun k v hk => ?_⟩
  rw [wo, List.getElem?_set] at hk
  split at hk
  next e' =>
   subst e'
   split at hk
   next =>
    cases hk
    obtain ⟨rs, hs, ho⟩ := ho
    rw [wpt (h6 j _ hj)]
    exact .arr ho
   next => cases hk
  next => exact h6 k v (by rw [wo]; exact hk)
 ·refine ⟨y, ?_, hyo⟩
  simp only [St.g, look, wal (Ne.symm e)]
  exact hy
theorem Rel.ownB [Tabs] {p j o e : Nat} {t : Ty} {cs : List AV} (h : Rel P X lo N w0 s a w μ) (hp : s.g p = some (.cells cs)) (hg : s.g o = none) (hj : nth cs j = some .nilsl) :
  ∃ μ', Rel P X lo N w0 { fr := s.fr, ob := (p, .cells (cs.set j (.arr o))) :: (o, .arr e t []) :: s.ob } a w μ' :=
 ⟨_, wwj (wll h hg) hp hg hj ⟨[], [], wao⟩⟩
theorem Rel.ownRB [Tabs] {p j o e e2 : Nat} {t : Ty} {cs : List AV} (h : Rel P X lo N w0 s a w μ) (hp : s.g p = some (.cells cs)) (hg : s.g o = none) (hj : nth cs j = some .nilsl) :
  ∃ μ', Rel P X lo N w0 { fr := s.fr, ob := (p, .cells (cs.set j (.arr o))) :: (o, .rows e e2 t [] none) :: s.ob } a w μ' :=
 ⟨_, wwj (wfv h hg) hp hg hj ⟨[], [], wao⟩⟩
theorem wea {w : World} {e sz n : Nat} {mv : Value} {xs : List Value} (h : w.ownsRow 0 e sz mv n xs) : ∃ a c, mv = .slice a n c := by
 rcases h.2 with ⟨rfl, rfl⟩ | ⟨gb, cap, cur, rfl, _⟩
 ·exact ⟨_, _, rfl⟩
 ·exact ⟨_, _, rfl⟩
def moved (μ : Nat → Option MV) (o o' p : Nat) : Option MV := if p = o' then μ o else if p = o then none else μ p
theorem whk {o o' p : Nat} {mv : MV} (h : moved μ o o' p = some mv) : (p = o' ∧ μ o = some mv) ∨ (p ≠ o' ∧ p ≠ o ∧ μ p = some mv) := by
 unfold moved at h
 split at h
 ·exact .inl ⟨by assumption, h⟩
 ·split at h
  ·cases h
  ·exact .inr ⟨by assumption, by assumption, h⟩
theorem Rel.renG [Tabs] {o o' : Nat} {x0 : Ob} (h : Rel P X lo N w0 s a w μ) (hg : s.g o = some x0) (hg' : s.g o' = none) (hsh : ∀ mv, ObOK P w lo μ (SS X μ) x0 mv → ∃ a n c, mv.v = .slice a n c)
  (hst : ∀ μ' S' mv, (∀ b, b < w.heap.size → SS X μ b → S' b) → ObOK P w lo μ (SS X μ) x0 mv → ObOK P w lo μ' S' x0 mv) :
  ∃ μ', Rel P X lo N w0 (s.swap o (.arr o') [(o', x0)]) a w μ' := by
 have hne : o ≠ o' := fun e => by rw [e, hg'] at hg; cases hg
 have hμ0 : μ o' = none := by
  cases hm : μ o' with
  | none => rfl
  | some mv => obtain ⟨y, hy, _⟩ := h.mem.ob o' mv hm; rw [hg'] at hy; cases hy
 have hμ : ∀ p mv, p ≠ o → μ p = some mv → moved μ o o' p = some mv := fun p mv hp hm => by
  unfold moved
  rw [if_neg (fun e => by rw [e, hμ0] at hm; cases hm), if_neg hp]
  exact hm
 have hS : ∀ b, b < w.heap.size → SS X μ b → SS X (moved μ o o') b := fun b _ hb => ⟨hb.1, fun p mv hp e => by
  rcases whk hp with ⟨_, hp⟩ | ⟨_, _, hp⟩
  ·exact hb.2 o mv hp e
  ·exact hb.2 p mv hp e⟩
 have hd : ∀ mv, μ o = some mv → RelV P w lo (moved μ o o') (SS X (moved μ o o')) (.arr o') mv.v := fun mv hm => by
  obtain ⟨y, hy, hob⟩ := h.mem.ob o mv hm
  rw [hg] at hy
  cases hy
  obtain ⟨a', n', c', e⟩ := hsh mv hob
  obtain ⟨v, rs, hs⟩ := mv
  simp only at e
  subst e
  exact .arr (rs := rs) (hs := hs) (by unfold moved; rw [if_pos rfl, hm])
 refine ⟨moved μ o o', ⟨h.mem.hX, h.mem.hlo, fun p mv hp => ?_, fun p p' mv mv' b h1 h2 h3 h4 => ?_, h.mem.tab⟩, fun i => ?_, h.bel, h.df, h.sz⟩
 ·rcases whk hp with ⟨rfl, hp0⟩ | ⟨hp1, hp2, hp⟩
  ·obtain ⟨x, hx, hob⟩ := h.mem.ob o mv hp0
   rw [hg] at hx
   cases hx
   exact ⟨x0, by simp [St.g, St.swap, look], hst _ _ _ hS hob⟩
  ·obtain ⟨x, hx, hob⟩ := h.mem.ob p mv hp
   refine ⟨wcy o (.arr o') x, ?_, wdo h.mem.hlo hμ hd hS hob⟩
   simp only [St.g, St.swap, List.singleton_append, look, wal (Ne.symm hp1), wap]
   rw [wau o s.ob p hp2]
   simp only [St.g] at hx
   rw [hx]
   rfl
 ·rcases whk h1 with ⟨rfl, k1⟩ | ⟨k0, k0', k1⟩ <;> rcases whk h2 with ⟨rfl, k2⟩ | ⟨k3, k3', k2⟩
  ·rfl
  ·exact absurd (h.mem.dis _ _ _ _ b k1 k2 h3 h4).symm k3'
  ·exact absurd (h.mem.dis _ _ _ _ b k1 k2 h3 h4) k0'
  ·exact h.mem.dis _ _ _ _ b k1 k2 h3 h4
 ·simp only [St.slot, St.swap, wap]
  have := wep (d := .arr o') h.mem.hlo hμ hd hS (h.fr i)
  simp only [St.slot] at this
  cases hl : look s.fr i with
  | none => exact .undef
  | some v => rw [hl] at this; exact this
theorem Rel.ren [Tabs] {o o' e : Nat} {t : Ty} {l : List t.I} (h : Rel P X lo N w0 s a w μ) (hg : s.g o = some (.arr e t l)) (hg' : s.g o' = none) :
  ∃ μ', Rel P X lo N w0 (s.swap o (.arr o') [(o', .arr e t l)]) a w μ' :=
 h.renG hg hg' (fun mv ⟨_, _, xs, hown, _⟩ => by obtain ⟨a', c', e⟩ := wea hown; exact ⟨_, _, _, e⟩)
  fun μ' S' mv hS ⟨k0, k3, xs, k1, k2⟩ => ⟨k0, k3, xs, k1, k2.step fun b hb hs => ⟨hS b hb hs, rfl⟩⟩
theorem Rel.renR [Tabs] {o o' e e2 : Nat} {t : Ty} {l : List (List t.I)} (h : Rel P X lo N w0 s a w μ) (hg : s.g o = some (.rows e e2 t l none)) (hg' : s.g o' = none) :
  ∃ μ', Rel P X lo N w0 (s.swap o (.arr o') [(o', .rows e e2 t l none)]) a w μ' :=
 h.renG hg hg' (fun mv hob => by obtain ⟨a', c', e⟩ := wea hob.1.own; exact ⟨_, _, _, e⟩)
  fun μ' S' mv hS hob => ⟨hob.1.step (fun b hb hs => ⟨hS b hb hs, rfl⟩) (fun _ _ => rfl) fun b hb => (hob.1.low b hb).1, fun i d hd => by cases hd⟩
theorem Rel.renD [Tabs] {o o' e : Nat} {t : Ty} {l : List t.I} (h : Rel P X lo N w0 s a w μ) (hg : s.g o = some (.deep e t l)) (hg' : s.g o' = none) :
  ∃ μ', Rel P X lo N w0 (s.swap o (.arr o') [(o', .deep e t l)]) a w μ' :=
 h.renG hg hg' (fun mv hob => by obtain ⟨xs, h1, _⟩ := DeepOK.rep hob; obtain ⟨a', c', e⟩ := wea h1; exact ⟨_, _, _, e⟩) fun μ' S' mv hS hob => hob
theorem Rel.renP [Tabs] {o o' e e2 : Nat} {k : Bool} {t : Ty} {ix : List Nat} {l : List (List t.I)} (h : Rel P X lo N w0 s a w μ) (hg : s.g o = some (.perm k e e2 t ix l)) (hg' : s.g o' = none) :
  ∃ μ', Rel P X lo N w0 (s.swap o (.arr o') [(o', .perm k e e2 t ix l)]) a w μ' :=
 h.renG hg hg' (fun mv hob => by obtain ⟨a', c', e⟩ := wea (PermOK.own hob); exact ⟨_, _, _, e⟩)
  fun μ' S' mv hS hob => PermOK.step hob (fun b hb hs => ⟨hS b hb hs, rfl⟩) (fun _ _ => rfl) fun b hb => (PermOK.low hob b hb).1
theorem Rel.ren' [Tabs] (h : Rel P X lo N w0 s a w μ) (o o' : Nat) : ∃ μ', Rel P X lo N w0 (s.ren o o') a w μ' := by
 unfold St.ren
 split
 next h1 h2 => exact h.ren h1 h2
 next h1 h2 => exact h.renR h1 h2
 next h1 h2 => exact h.renD h1 h2
 next h1 h2 => exact h.renP h1 h2
 next => exact ⟨μ, h⟩
theorem Rel.act [Tabs] (h : Rel P X lo N w0 s a w μ) (c : CA) : ∃ μ', Rel P X lo N w0 (s.act c) a w μ' := by
 cases c with
 | fz o => exact h.freeze o
 | own i o e t =>
  simp only [St.act]
  split
  next h1 h2 => exact h.own h1 h2
  next => exact ⟨μ, h⟩
 | ownR i o e e2 t =>
  simp only [St.act]
  split
  next h1 h2 => exact h.ownR h1 h2
  next => exact ⟨μ, h⟩
 | ownC i j o e t =>
  simp only [St.act]
  split
  next h1 h2 =>
   split
   next h3 => exact h.ownC h1 h2 h3
   next => exact ⟨μ, h⟩
  next => exact ⟨μ, h⟩
 | ownRC i j o e e2 t =>
  simp only [St.act]
  split
  next h1 h2 =>
   split
   next h3 => exact h.ownRC h1 h2 h3
   next => exact ⟨μ, h⟩
  next => exact ⟨μ, h⟩
 | flat o => exact h.flat o
 | drop o => exact h.drop o
 | perm o => exact h.perm o
 | pull k d => exact h.pull k d
 | ownB p j o e t =>
  simp only [St.act]
  split
  next h1 h2 =>
   split
   next h3 => exact h.ownB h1 h2 h3
   next => exact ⟨μ, h⟩
  next => exact ⟨μ, h⟩
 | ownRB p j o e e2 t =>
  simp only [St.act]
  split
  next h1 h2 =>
   split
   next h3 => exact h.ownRB h1 h2 h3
   next => exact ⟨μ, h⟩
  next => exact ⟨μ, h⟩
 | ren o o' => exact h.ren' o o'
 | pin i o' =>
  simp only [St.act]
  split
  next => exact h.ren' _ o'
  next => exact ⟨μ, h⟩
 | pinB p j o' =>
  simp only [St.act]
  split
  next =>
   split
   next => exact h.ren' _ o'
   next => exact ⟨μ, h⟩
  next => exact ⟨μ, h⟩
 | pinC i j o' =>
  simp only [St.act]
  split
  next =>
   split
   next => exact h.ren' _ o'
   next => exact ⟨μ, h⟩
  next => exact ⟨μ, h⟩
 | rep o o' =>
  simp only [St.act]
  split
  next =>
   obtain ⟨μ1, h1⟩ := h.freeze o'
   exact h1.ren' o o'
  next => exact ⟨μ, h⟩
 | repB p j o' =>
  simp only [St.act]
  split
  next =>
   split
   next o _ =>
    split
    next =>
     obtain ⟨μ1, h1⟩ := h.drop o'
     exact h1.ren' o o'
    next => exact ⟨μ, h⟩
   next => exact ⟨μ, h⟩
  next => exact ⟨μ, h⟩
theorem Rel.acts [Tabs] : ∀ (l : List CA) {s : St} {μ : Nat → Option MV}, Rel P X lo N w0 s a w μ → ∃ μ', Rel P X lo N w0 (s.acts l) a w μ'
 | [], _, μ, h => ⟨μ, h⟩
 | c :: l, s, μ, h => by
  obtain ⟨μ', h'⟩ := h.act c
  exact Rel.acts l h'
theorem Keep.ok [Tabs] {k : Keep} (hk : k.S.ok = true) {t : k.S.T} (hu : k.at s = some t) (h : Rel P X lo N w0 s a w μ) : ∃ μ', Rel P X lo N w0 (wbj k.S t) a w μ' := by
 obtain ⟨μ1, h1⟩ := Rel.acts k.acts h
 exact h1.un hk hu
theorem waix [Tabs] {l : List (Nat × Keep)} (h : l.all (fun p => p.2.S.ok) = true) {i : Nat} {k : Keep} (hl : look l i = some k) : k.S.ok = true :=
 List.all_eq_true.1 h _ (wbw hl)
theorem woj [Tabs] {hd : Option Keep} {ex : List (Nat × Keep)} {rt : Keep} (h1 : ∀ k, hd = some k → k.S.ok = true) (h2 : ex.all (fun p => p.2.S.ok) = true) (h3 : rt.S.ok = true) {o o' : Out} (hk : wie hd ex rt o = some o') {e : Exit}
  (h : Post P X lo N w0 o e a w) : Post P X lo N w0 o' e a w := by
 cases e with
 | normal =>
  obtain ⟨s, μ, rfl, hr⟩ := h
  simp only [wie] at hk
  cases hd with
  | none => cases hk
  | some k =>
   obtain ⟨t, h4, rfl⟩ := Option.map_eq_some_iff.1 hk
   obtain ⟨μ', hr'⟩ := Keep.ok (h1 k rfl) h4 hr
   exact ⟨_, μ', rfl, hr'⟩
 | exit id =>
  obtain ⟨s, μ, rfl, hr⟩ := h
  simp only [wie] at hk
  split at hk
  next k hl =>
   obtain ⟨t, h4, rfl⟩ := Option.map_eq_some_iff.1 hk
   obtain ⟨μ', hr'⟩ := Keep.ok (waix h2 hl) h4 hr
   exact ⟨_, μ', rfl, hr'⟩
  next => cases hk
 | ret =>
  obtain ⟨s, μ, rfl, hr⟩ := h
  simp only [wie] at hk
  obtain ⟨t, h4, rfl⟩ := Option.map_eq_some_iff.1 hk
  obtain ⟨μ', hr'⟩ := Keep.ok h3 h4 hr
  exact ⟨_, μ', rfl, hr'⟩
 | _ => exact h.elim
theorem wio {V R : Type} {f : V → Option (V ⊕ R)} : ∀ {n m : Nat} {v : V} {r : R}, wfz f n v = some r → n ≤ m → wfz f m v = some r
 | 0, _, _, _, h, _ => by cases h
 | n + 1, 0, _, _, _, h => by omega
 | n + 1, m + 1, v, r, h, hm => by
  simp only [wfz] at h ⊢
  split at h
  ·exact wio h (by omega)
  ·exact h
  ·cases h
theorem wdq [Tabs] {V R : Type} {f : V → Option (V ⊕ R)} {v : V} {r : R} : iter f v = some r ↔ ∃ n, wfz f n v = some r := by
 have same : ∀ {n m : Nat} {r r' : R}, wfz f n v = some r → wfz f m v = some r' → r = r' := fun {n m r r'} h h' => by
  have h1 := wio h (Nat.le_max_left n m)
  have h2 := wio h' (Nat.le_max_right n m)
  rw [h1] at h2
  exact Option.some.inj h2
 unfold iter
 constructor
 ·intro h
  split at h
  next r' hr => exact ⟨_, by rw [← h]; exact hr⟩
  next =>
   split at h
   next hex =>
    have := hex.choose_spec
    simp only [Option.some.injEq] at h
    rw [h] at this
    exact this
   next => cases h
 ·rintro ⟨n, h⟩
  split
  next r' hr => rw [same hr h]
  next =>
   have hex : ∃ r n, wfz f n v = some r := ⟨r, n, h⟩
   rw [dif_pos hex]
   obtain ⟨m, hm⟩ := hex.choose_spec
   rw [same hm h]
theorem wapf [Tabs] {id : Nat} {b : Code} {d : LD} (hd : d.OK E tt fz orc b) (hb : wade P X lo N w0 b (wcc E tt fz orc b)) : wade P X lo N w0 (.block id (.loop b)) (fun s => match d.orc id s with | some x => x | none => .f) := by
 intro s a w μ out h he
 cases ho : d.orc id s with
 | none => simp only [ho] at he; cases he
 | some x =>
  simp only [ho] at he
  unfold LD.orc at ho
  obtain ⟨t, ht, rfl⟩ := Option.map_eq_some_iff.1 ho
  simp only [Tr.ev_c, Tr.ev_map] at he
  obtain ⟨r, hr, he⟩ := wcn he
  obtain ⟨ex, hex, rfl⟩ := Option.map_eq_some_iff.1 he
  obtain ⟨n, hn⟩ := wdq.1 hr
  obtain ⟨μ', h'⟩ := Keep.ok hd.ok ht h
  rw [← hd.eta t] at h'
  refine wp_block (wadf (fun n a w => ∃ v μ, wfz (fun v => (d.step (d.sk t) v).ev) n v = some r ∧ Rel P X lo N w0 (wbj d.head.S (d.join (d.sk t) v)) a w μ) (fun n a w hI => ?_) (n := n) ⟨_, μ', hn, h'⟩)
  obtain ⟨v, μ1, hv, hrel⟩ := hI
  cases n with
  | zero => cases hv
  | succ m =>
   simp only [wfz] at hv
   have hstep := hd.step (d.sk t) v
   rw [Tr.ev_map, Tr.ev_bind] at hstep
   cases hx : (d.step (d.sk t) v).ev with
   | none => rw [hx] at hv; cases hv
   | some x =>
    rw [hx] at hv hstep
    simp only [Option.bind_some] at hstep
    cases x with
    | inl v' =>
     simp only at hv
     simp only [LD.next, Tr.ev_l] at hstep
     obtain ⟨o, h1, h2⟩ := Option.map_eq_some_iff.1 hstep
     refine Code.wp_mono (fun e a' w' hp => ?_) (hb _ a w μ1 o hrel h1)
     have hp' := woj (fun k hk => by cases hk; exact hd.ok) hd.oke hd.okr h2 hp
     cases e with
     | normal =>
      obtain ⟨s', μ2, e1, h3⟩ := hp'
      cases e1
      exact ⟨m, Nat.lt_succ_self m, v', μ2, hv, h3⟩
     | exit i => obtain ⟨_, _, e1, _⟩ := hp'; cases e1
     | ret => obtain ⟨_, _, e1, _⟩ := hp'; cases e1
     | _ => exact hp'.elim
    | inr r' =>
     simp only [Option.some.injEq] at hv
     subst hv
     simp only [LD.next, Tr.ev_map, hex, Option.map_some] at hstep
     obtain ⟨o, h1, h2⟩ := Option.map_eq_some_iff.1 hstep
     refine Code.wp_mono (fun e a' w' hp => ?_) (hb _ a w μ1 o hrel h1)
     have hp' := woj (fun k hk => by cases hk; exact hd.ok) hd.oke hd.okr h2 hp
     cases ex with
     | exit i s' =>
      cases e with
      | normal => obtain ⟨_, _, e1, _⟩ := hp'; cases e1
      | exit i' =>
       obtain ⟨s2, μ2, e1, h3⟩ := hp'
       simp only [Ex.out, Out.exit.injEq] at e1
       obtain ⟨rfl, rfl⟩ := e1
       simp only [Exit.then, Exit.inBlock, Ex.at]
       by_cases e : i = id
       ·subst e
        rw [wam, if_pos rfl]
        exact ⟨_, μ2, rfl, h3⟩
       ·rw [wal e, if_neg e]
        exact ⟨_, μ2, rfl, h3⟩
      | ret => obtain ⟨_, _, e1, _⟩ := hp'; cases e1
      | _ => exact hp'.elim
     | ret s' =>
      cases e with
      | normal => obtain ⟨_, _, e1, _⟩ := hp'; cases e1
      | exit i' => obtain ⟨_, _, e1, _⟩ := hp'; cases e1
      | ret =>
       obtain ⟨s2, μ2, e1, h3⟩ := hp'
       cases e1
       exact ⟨_, μ2, rfl, h3⟩
      | _ => exact hp'.elim
def wz (E : Env) (tt : Nat → TD) (fz : Nat → Nat → List Nat) (l : List (Nat × LD)) (c : Code) : Prop :=
 ∀ p ∈ wbg c, ∀ q ∈ l, q.1 = p.1 → q.2.OK E tt fz (wai l) p.2
theorem wip {id : Nat} {s : St} {x : Tr Out} : ∀ {l : List (Nat × LD)}, wai l id s = some x → ∃ q ∈ l, q.1 = id ∧ q.2.orc id s = some x
 | [], h => by cases h
 |(n, d) :: r, h => by
  unfold wai at h
  split at h
  next e =>
   split at h
   next y hy =>
    cases h
    exact ⟨(n, d), List.mem_cons_self, Nat.eq_of_beq_eq_true e, hy⟩
   next =>
    obtain ⟨q, h1, h2⟩ := wip h
    exact ⟨q, List.mem_cons_of_mem _ h1, h2⟩
  next =>
   obtain ⟨q, h1, h2⟩ := wip h
   exact ⟨q, List.mem_cons_of_mem _ h1, h2⟩
theorem wcu [Tabs] (hm : P.follows .mixedOrders = true) (hE : wfe P E) (hT : waj P tt) {l : List (Nat × LD)} : ∀ (c : Code), wz E tt fz l c → wba fz N.k N.n c = true →
  ∀ p ∈ wbg c, wade P X lo N w0 (.block p.1 (.loop p.2)) (fun s => match wai l p.1 s with | some x => x | none => .f)
 | .seq x y, hl, hc => fun p hp => by
  simp only [wba, Bool.and_eq_true] at hc
  simp only [wz, wbg, List.mem_append] at hl hp
  rcases hp with hp | hp
  ·exact wcu hm hE hT x (fun p hp => hl p (.inl hp)) hc.1 p hp
  ·exact wcu hm hE hT y (fun p hp => hl p (.inr hp)) hc.2 p hp
 | .cond _ x y, hl, hc => fun p hp => by
  simp only [wba, Bool.and_eq_true] at hc
  simp only [wz, wbg, List.mem_append] at hl hp
  rcases hp with hp | hp
  ·exact wcu hm hE hT x (fun p hp => hl p (.inl hp)) hc.1 p hp
  ·exact wcu hm hE hT y (fun p hp => hl p (.inr hp)) hc.2 p hp
 | .block id (.loop b), hl, hc => fun p hp => by
  simp only [wba] at hc
  simp only [wz, wbg, List.mem_cons] at hl hp
  have hin := wcu hm hE hT b (fun p hp => hl p (.inr hp)) hc
  rcases hp with rfl | hp
  ·intro s a w μ out h he
   dsimp only at he
   cases ho : wai l id s with
   | none =>
    rw [ho] at he
    cases he
   | some x =>
    rw [ho] at he
    dsimp only at he
    obtain ⟨q, h1, h2, h3⟩ := wip ho
    exact wapf (hl _ (.inl rfl) q h1 h2) (wer hm hE hT b hin hc) s a w μ out h (by dsimp only; rw [h3]; exact he)
  ·exact hin p hp
 | .block _ .skip, hl, hc => fun p hp => by cases hp
 | .block _ (.exit _), hl, hc => fun p hp => by cases hp
 | .block _ .ret, hl, hc => fun p hp => by cases hp
 | .block _ (.region _ _ _), hl, hc => fun p hp => by cases hp
 | .block _ (.seq x y), hl, hc => wcu hm hE hT (.seq x y) hl hc
 | .block _ (.cond c x y), hl, hc => wcu hm hE hT (.cond c x y) hl hc
 | .block _ (.block i c), hl, hc => wcu hm hE hT (.block i c) hl hc
 | .block _ (.rangeFunc _ _ _ _), hl, hc => fun p hp => by cases hp
 | .block _ (.scope _), hl, hc => fun p hp => by cases hp
 | .block _ (.label _), hl, hc => fun p hp => by cases hp
 | .block _ (.goto _), hl, hc => fun p hp => by cases hp
 | .block _ (.refuse _), hl, hc => fun p hp => by cases hp
 | .skip, hl, hc => fun p hp => by cases hp
 | .exit _, hl, hc => fun p hp => by cases hp
 | .ret, hl, hc => fun p hp => by cases hp
 | .region _ _ _, hl, hc => fun p hp => by cases hp
 | .loop _, hl, hc => fun p hp => by cases hp
 | .rangeFunc _ _ _ _, hl, hc => fun p hp => by cases hp
 | .scope _, hl, hc => fun p hp => by cases hp
 | .label _, hl, hc => fun p hp => by cases hp
 | .goto _, hl, hc => fun p hp => by cases hp
 | .refuse _, hl, hc => fun p hp => by cases hp
end
end Go.Proofs.Ytnagpmhaddfgmaa
