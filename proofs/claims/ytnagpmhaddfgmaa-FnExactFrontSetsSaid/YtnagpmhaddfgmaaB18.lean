/-
 Regions whose order is drawn: the trace of the text's order; operations that leave each other alone may change places.
-/
import Derived.Test.YtnagpmhaddfgmaaB17
import Derived.Orders
namespace Go.Proofs.Ytnagpmhaddfgmaa
open Go.RowKit (Below)
abbrev FS := (Nat → AV) × (Nat → Option Ob)
def wwe (s : FS) (u : LU) : FS := (slA s.1 u, gA s.2 u)
def Want (ops : Nat → Option Oper) (sl : Nat → AV) (o : Oper) (b : Bool) : Prop :=
 match o.guard with
 | none => b = true
 | some (j, want) => ∃ dj, (ops j).bind (·.dst) = some dj ∧ ((∃ v, sl dj = .dat .bool v ∧ b = (v == want)) ∨ (sl dj = .skip ∧ b = false))
structure Step1 (E : Env) (tt : Nat → TD) (ops : Nat → Option Oper) (o : Oper) (s : FS) (x : LU × List Nat) (b : Bool) : Prop where
 want : Want ops s.1 o b
 run : b = true → ∃ c, (wzc E tt s.2 (opd s.1) o c).ev = some x.1 ∧ x.2 = wib s.2 s.1 o ∧ (isLoad o || wgt s.2 x.2) = true ∧ wbk s.2 x.1.objs = []
 skip : b = false → x = (⟨o.dst.map fun d => (d, .skip), none, []⟩, [])
def wah (s0 : FS) (us : List (LU × List Nat)) (sel : Nat → Bool) : Nat → FS
 | 0 => s0
 | n + 1 => match nth us n with
  | some x => if sel n then wwe (wah s0 us sel n) x.1 else wah s0 us sel n
  | none => wah s0 us sel n
section
variable {E : Env} {tt : Nat → TD} {ops : Nat → Option Oper}
theorem whh {s : St} {dj : Nat} {b : Bool} (h : s.slot dj = .dat .bool b) : St.slot { s with fr := (dj, .dat .bool b) :: s.fr } = s.slot := by
 funext t
 simp only [St.slot, look]
 by_cases e : dj = t
 ·subst e; rw [wam]; simp only [St.slot] at h; rw [h]; rfl
 ·rw [wal e]
theorem wik (s0 : FS) (x : LU × List Nat) (us : List (LU × List Nat)) : ∀ n, wah s0 (x :: us) (fun _ => true) (n + 1) = wah (wwe s0 x.1) us (fun _ => true) n
 | 0 => rfl
 | n + 1 => by
  rw [wah, wik s0 x us n]
  show _ = wah (wwe s0 x.1) us (fun _ => true) (n + 1)
  rw [wah]
  rfl
theorem wlh {ds : Nat → Bool} : ∀ {l : List Oper} {s s' : St} {acc acc' : List (LU × List Nat)}, (wga E tt ops ds l s acc).ev = some (s', acc') →
  ∃ us, acc' = acc ++ us ∧ us.length = l.length ∧ (∀ k o x, nth l k = some o → nth us k = some x → ∃ b, Step1 E tt ops o (wah (s.slot, s.g) us (fun _ => true) k) x b) ∧ (s'.slot, s'.g) = wah (s.slot, s.g) us (fun _ => true) l.length
 | [], s, s', acc, acc', h => by
  simp only [wga, Tr.ev_l, Option.some.injEq, Prod.mk.injEq] at h
  obtain ⟨rfl, rfl⟩ := h
  exact ⟨[], by simp, rfl, fun k o x h => by simp [nth] at h, rfl⟩
 | o :: l, s, s', acc, acc', h => by
  have done : ∀ {s0 : St} {x : LU × List Nat} {b : Bool}, s0.slot = s.slot → s0.g = s.g → Step1 E tt ops o (s.slot, s.g) x b → (wga E tt ops ds l (s0.app x.1) (acc ++ [x])).ev = some (s', acc') →
    ∃ us, acc' = acc ++ us ∧ us.length = (o :: l).length ∧ (∀ k o' x, nth (o :: l) k = some o' → nth us k = some x → ∃ b, Step1 E tt ops o' (wah (s.slot, s.g) us (fun _ => true) k) x b) ∧ (s'.slot, s'.g) = wah (s.slot, s.g) us (fun _ => true) (o :: l).length := by
   intro s0 x b e1 e2 hst h
   obtain ⟨us, h1, h2, h3, h4⟩ := wlh h
   have e : ((s0.app x.1).slot, (s0.app x.1).g) = wwe (s.slot, s.g) x.1 := by rw [wpm, waii, e1, e2]; rfl
   rw [e] at h3 h4
   refine ⟨x :: us, by simp [h1], by simp [h2], fun k o' x' hk hx => ?_, ?_⟩
   ·cases k with
    | zero =>
     simp only [nth, Option.some.injEq] at hk hx
     subst hk; subst hx
     exact ⟨b, hst⟩
    | succ k =>
     rw [wik]
     exact h3 k o' x' hk hx
   ·rw [List.length_cons, wik]
    exact h4
  have run : ∀ {s0 : St}, s0.slot = s.slot → s0.ob = s.ob → Want ops s.slot o true → ((wzc E tt s0.g (opd s0.slot) o (ds acc.length)).bind fun u => match (isLoad o || wgt s0.g (wib s0.g s0.slot o)) && (wbk s0.g u.objs).isEmpty with
     | true => wga E tt ops ds l (s0.app u) (acc ++ [(u, wib s0.g s0.slot o)])
     | false => .f).ev = some (s', acc') → _ := fun {s0} e1 e2 hw h => by
   have e2' : s0.g = s.g := by unfold St.g; rw [e2]
   rw [Tr.ev_bind] at h
   cases hu : (wzc E tt s0.g (opd s0.slot) o (ds acc.length)).ev with
   | none => rw [hu] at h; cases h
   | some u =>
    rw [hu] at h
    simp only [Option.bind_some] at h
    split at h
    next hc =>
     rw [e1, e2'] at hc hu h
     simp only [Bool.and_eq_true, List.isEmpty_iff] at hc
     exact done (x := (u, wib s.g s.slot o)) (b := true) e1 e2' ⟨hw, fun _ => ⟨_, hu, rfl, hc.1, hc.2⟩, fun e => (by cases e)⟩ h
    next => cases h
  have skip : ∀ {s0 : St}, s0.slot = s.slot → s0.ob = s.ob → Want ops s.slot o false → (wga E tt ops ds l (s0.app ⟨o.dst.map fun d => (d, .skip), none, []⟩) (acc ++ [(⟨o.dst.map fun d => (d, .skip), none, []⟩, [])])).ev = some (s', acc') → _ := fun {s0} e1 e2 hw h =>
   done (x := (⟨o.dst.map fun d => (d, .skip), none, []⟩, [])) (b := false) e1 (by unfold St.g; rw [e2]) ⟨hw, fun e => (by cases e), fun _ => rfl⟩ h
  simp only [wga] at h
  cases hg : o.guard with
  | none => rw [hg] at h; exact run rfl rfl (by simp [Want, hg]) h
  | some gd =>
   obtain ⟨j, want⟩ := gd
   rw [hg] at h
   simp only at h
   split at h
   next dj hdj =>
    split at h
    next v hv =>
     cases want <;> cases v
     ·simp only [Tr.ev_t, cond_false] at h
      exact run (whh hv) rfl (by simp only [Want, hg]; exact ⟨dj, hdj, .inl ⟨false, hv, rfl⟩⟩) h
     ·simp only [Tr.ev_t, cond_true] at h
      exact skip (whh hv) rfl (by simp only [Want, hg]; exact ⟨dj, hdj, .inl ⟨true, hv, rfl⟩⟩) h
     ·simp only [Tr.ev_t, cond_false] at h
      exact skip (whh hv) rfl (by simp only [Want, hg]; exact ⟨dj, hdj, .inl ⟨false, hv, rfl⟩⟩) h
     ·simp only [Tr.ev_t, cond_true] at h
      exact run (whh hv) rfl (by simp only [Want, hg]; exact ⟨dj, hdj, .inl ⟨true, hv, rfl⟩⟩) h
    next hv => exact skip rfl rfl (by simp only [Want, hg]; exact ⟨dj, hdj, .inr ⟨hv, trivial⟩⟩) h
    next => cases h
   next => cases h
theorem wil {l : List Nat} {n : Nat} : has l n = true ↔ n ∈ l := by
 simp only [has, List.any_eq_true]
 exact ⟨fun ⟨x, hx, e⟩ => by rw [Nat.eq_of_beq_eq_true e]; exact hx, fun h => ⟨n, h, Nat.beq_refl n⟩⟩
theorem wjz {l m : List Nat} : disj l m = true ↔ ∀ x ∈ l, x ∉ m := by
 simp only [disj, List.all_eq_true, Bool.not_eq_true']
 constructor
 ·intro h x hx hm
  have := h x hx
  rw [wil.2 hm] at this
  cases this
 ·intro h x hx
  cases hh : has m x with
  | true => exact absurd (wil.1 hh) (h x hx)
  | false => rfl
theorem wgf {sl : Nat → AV} {u : LU} {t : Nat} (h : t ∉ u.touch) : slA sl u t = sl t := by
 obtain ⟨d, und, objs⟩ := u
 unfold slA
 cases d with
 | none => rfl
 | some p =>
  simp only [LU.touch, List.mem_cons, not_or] at h
  simp only [if_neg (Ne.symm h.1)]
  cases und with
  | none => rfl
  | some b =>
   have h2 : b ≠ t := fun e => h.2 (by simp [e])
   simp only [if_neg h2]
theorem wwf {sl sl' : Nat → AV} {u : LU} {t : Nat} (h : sl t = sl' t) : slA sl u t = slA sl' u t := by
 unfold slA
 cases u.d with
 | none => exact h
 | some p =>
  simp only
  split
  ·rfl
  ·cases u.und with
   | none => exact h
   | some b =>
    simp only
    split
    ·rfl
    ·exact h
theorem wwg {objs : List (Nat × Ob)} {i : Nat} : (∃ x, look objs i = some x) ↔ i ∈ objs.map (·.1) := by
 induction objs with
 | nil => simp [look]
 | cons p r ih =>
  obtain ⟨k, x⟩ := p
  simp only [look, List.map_cons, List.mem_cons]
  by_cases e : k = i
  ·subst e; simp
  ·rw [wal e]
   simp only [ih]
   exact ⟨.inr, fun h => h.resolve_left fun e' => e e'.symm⟩
theorem wog {g : Nat → Option Ob} {u : LU} {i : Nat} (h : i ∉ u.ids) : gA g u i = g i := by
 unfold gA
 cases hl : look u.objs i with
 | none => rfl
 | some x => exact absurd (wwg.1 ⟨x, hl⟩) h
theorem waiu {g g' : Nat → Option Ob} {u : LU} {i : Nat} (h : g i = g' i) : gA g u i = gA g' u i := by
 unfold gA
 cases look u.objs i with
 | none => exact h
 | some x => rfl
theorem wacu {s : FS} {u v : LU} (h1 : ∀ t ∈ u.touch, t ∉ v.touch) (h2 : ∀ i ∈ u.ids, i ∉ v.ids) : wwe (wwe s u) v = wwe (wwe s v) u := by
 refine Prod.ext ?_ ?_
 ·funext t
  show slA (slA s.1 u) v t = slA (slA s.1 v) u t
  by_cases hu : t ∈ u.touch
  ·have hv := h1 t hu
   rw [wgf hv]
   exact wwf (wgf hv).symm
  ·rw [wgf (sl := slA s.1 v) hu]
   exact wwf (wgf hu)
 ·funext i
  show gA (gA s.2 u) v i = gA (gA s.2 v) u i
  by_cases hu : i ∈ u.ids
  ·have hv := h2 i hu
   rw [wog hv]
   exact waiu (wog hv).symm
  ·rw [wog (g := gA s.2 v) hu]
   exact waiu (wog hu)
section
variable {s0 : FS} {us : List (LU × List Nat)} {sel sel' : Nat → Bool}
theorem wgg {n : Nat} (h : ∀ m, m < n → sel m = sel' m) : wah s0 us sel n = wah s0 us sel' n := by
 induction n with
 | zero => rfl
 | succ n ih =>
  have := ih fun m hm => h m (by omega)
  simp only [wah, this, h n (by omega)]
theorem wzx {T : Nat → Prop} {n : Nat} (h : ∀ m x, m < n → nth us m = some x → sel m ≠ sel' m → ∀ t, T t → t ∉ x.1.touch) : ∀ t, T t → (wah s0 us sel n).1 t = (wah s0 us sel' n).1 t := by
 induction n with
 | zero => intro t _; rfl
 | succ n ih =>
  intro t ht
  have hi := ih (fun m x hm => h m x (by omega)) t ht
  simp only [wah]
  cases hx : nth us n with
  | none => exact hi
  | some x =>
   simp only
   by_cases e : sel n = sel' n
   ·rw [e]
    split
    ·exact wwf hi
    ·exact hi
   ·have hout := h n x (by omega) hx e t ht
    cases h1 : sel n <;> cases h2 : sel' n <;> simp only [if_true, if_false, Bool.false_eq_true]
    ·exact hi
    ·exact hi.trans (wgf hout).symm
    ·exact (wgf hout).trans hi
    ·exact wwf hi
theorem wacv {T : Nat → Prop} {n : Nat} (h : ∀ m x, m < n → nth us m = some x → sel m ≠ sel' m → ∀ t, T t → t ∉ x.1.ids) : ∀ t, T t → (wah s0 us sel n).2 t = (wah s0 us sel' n).2 t := by
 induction n with
 | zero => intro t _; rfl
 | succ n ih =>
  intro t ht
  have hi := ih (fun m x hm => h m x (by omega)) t ht
  simp only [wah]
  cases hx : nth us n with
  | none => exact hi
  | some x =>
   simp only
   by_cases e : sel n = sel' n
   ·rw [e]
    split
    ·exact waiu hi
    ·exact hi
   ·have hout := h n x (by omega) hx e t ht
    cases h1 : sel n <;> cases h2 : sel' n <;> simp only [if_true, if_false, Bool.false_eq_true]
    ·exact hi
    ·exact hi.trans (wog hout).symm
    ·exact (wog hout).trans hi
    ·exact waiu hi
theorem wim {i : Nat} : ∀ {n : Nat}, i ≤ n → (∀ m x, i ≤ m → m < n → nth us m = some x → sel m = false) → wah s0 us sel n = wah s0 us sel i
 | 0, hi, _ => by rw [Nat.le_zero.1 hi]
 | n + 1, hi, h => by
  by_cases e : i = n + 1
  ·rw [e]
  ·have := wim (n := n) (by omega) fun m x h1 h2 => h m x h1 (by omega)
   simp only [wah]
   cases hx : nth us n with
   | none => exact this
   | some x => simp only [h n x (by omega) (by omega) hx, Bool.false_eq_true, if_false]; exact this
theorem wrl {i : Nat} {x : LU × List Nat} (hx : nth us i = some x) (hi : sel i = false) : ∀ {n : Nat}, i < n → (∀ m y, i < m → m < n → nth us m = some y → sel m = true → (∀ t ∈ x.1.touch, t ∉ y.1.touch) ∧ ∀ k ∈ x.1.ids, k ∉ y.1.ids) →
  wah s0 us (fun m => sel m || Nat.beq i m) n = wwe (wah s0 us sel n) x.1
 | 0, h, _ => absurd h (Nat.not_lt_zero _)
 | n + 1, h, hc => by
  by_cases e : i = n
  ·subst e
   have e1 : wah s0 us (fun m => sel m || Nat.beq i m) i = wah s0 us sel i := wgg fun m hm => by
    rw [wal (show i ≠ m by omega), Bool.or_false]
   simp only [wah, hx, e1, hi, wam, Bool.or_true, if_true, Bool.false_eq_true, if_false]
  ·have ih := wrl hx hi (n := n) (by omega) fun m y h1 h2 => hc m y h1 (by omega)
   simp only [wah, ih, wal e, Bool.or_false]
   cases hy : nth us n with
   | none => rfl
   | some y =>
    simp only
    split
    next hs =>
     obtain ⟨h1, h2⟩ := hc n y (by omega) (by omega) hy hs
     exact (wacu h1 h2)
    next => rfl
end
end
end Go.Proofs.Ytnagpmhaddfgmaa
