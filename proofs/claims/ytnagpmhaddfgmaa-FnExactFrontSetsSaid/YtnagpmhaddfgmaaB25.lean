/-
 Functions: the table of what functions compute.
-/
import Derived.Test.YtnagpmhaddfgmaaB24
namespace Go.Proofs.Ytnagpmhaddfgmaa
open Go.RowKit (Below)
section
variable {P : Program} {E : Env} {tt : Nat → TD} {w w' : World} {lo lo' : Nat → Prop} {μ μ' : Nat → Option MV}
theorem wrq {S S' : Nat → Prop} {v : AV} {x : Value} (hc : cl0 v = true) (h : RelV P w lo μ S v x) (hl : ∀ b, lo b → lo' b) (hw : ∀ b, b < w.heap.size → S b → S' b ∧ w'.heap[b]? = w.heap[b]?) (hlow : ∀ b, lo b → w'.heap[b]? = w.heap[b]?) :
  RelV P w' lo' μ' S' v x := by
 cases h with
 | undef => exact .undef
 | dat ht h => exact .dat ht (h.step hw)
 | nilsl => exact .nilsl
 | clo h => exact .clo (h.step hl hlow)
 | @fn _ f caps xs hl' h =>
  cases caps with
  | nil => exact .fn hl' fun j v hv => by simp [nth] at hv
  | cons c caps => simp [cl0] at hc
 | _ => simp [cl0] at hc
theorem wadj [Tabs] {S S' : Nat → Prop} {cs : List AV} {x : Value} (hc : cs.all cl0 = true) (h : RelV P w lo μ S (.ptr cs) x) (hl : ∀ b, lo b → lo' b) (hw : ∀ b, b < w.heap.size → S b → S' b ∧ w'.heap[b]? = w.heap[b]?) (hlow : ∀ b, lo b → w'.heap[b]? = w.heap[b]?) :
  RelV P w' lo' μ' S' (.ptr cs) x := by
 cases h with
 | @ptr _ _ b k xs hb0 hb hx h =>
  have hbs : b < w.heap.size := by
   cases cs with
   | nil => exact absurd rfl hb0
   | cons c cs => exact block_lt_of_cell (hx 0 c rfl)
  have hsame : w'.heap[b]? = w.heap[b]? := hb.elim (fun hS => (hw b hbs hS).2) (fun hS => hlow b hS)
  refine .ptr xs hb0 (hb.imp (fun hS => (hw b hbs hS).1) (hl b)) (fun j v hv => (World.cell?_of_block (w := w) hsame).trans (hx j v hv)) fun j v hv => wrq ?_ (h j v hv) hl hw hlow
  rw [wo] at hv
  exact List.all_eq_true.1 hc v (List.mem_of_getElem? hv)
theorem waaa [Tabs] {S S' : Nat → Prop} {c : AV} {x : Value} (hc : cl0F c = true) (h : RelV P w lo μ S c x) (hl : ∀ b, lo b → lo' b) (hw : ∀ b, b < w.heap.size → S b → S' b ∧ w'.heap[b]? = w.heap[b]?) (hlow : ∀ b, lo b → w'.heap[b]? = w.heap[b]?) :
  RelV P w' lo' μ' S' c x := by
 have h0 := h
 cases h with
 | @fn _ f caps xs hl' h =>
  simp only [cl0F, List.all_eq_true] at hc
  refine .fn hl' fun j v hv => ?_
  have hvm : v ∈ caps := by rw [wo] at hv; exact List.mem_of_getElem? hv
  have hp := hc v hvm
  unfold wazt at hp
  split at hp
  ·exact wadj (S := fun b => S b ∨ lo b) (S' := fun b => S' b ∨ lo' b) hp (h j _ hv) hl (fun b hlt hs => hs.elim (fun h => ⟨.inl (hw b hlt h).1, (hw b hlt h).2⟩) fun h => ⟨.inr (hl b h), hlow b h⟩) hlow
  ·cases hp
 | _ => exact wrq (by simpa only [cl0F] using hc) h0 hl hw hlow
theorem waab [Tabs] {S S' : Nat → Prop} {cs : List AV} {x : Value} (hc : cs.all cl0F = true) (h : RelV P w lo μ S (.ptr cs) x) (hl : ∀ b, lo b → lo' b) (hw : ∀ b, b < w.heap.size → S b → S' b ∧ w'.heap[b]? = w.heap[b]?) (hlow : ∀ b, lo b → w'.heap[b]? = w.heap[b]?) :
  RelV P w' lo' μ' S' (.ptr cs) x := by
 cases h with
 | @ptr _ _ b k xs hb0 hb hx h =>
  have hbs : b < w.heap.size := by
   cases cs with
   | nil => exact absurd rfl hb0
   | cons c cs => exact block_lt_of_cell (hx 0 c rfl)
  have hsame : w'.heap[b]? = w.heap[b]? := hb.elim (fun hS => (hw b hbs hS).2) (fun hS => hlow b hS)
  refine .ptr xs hb0 (hb.imp (fun hS => (hw b hbs hS).1) (hl b)) (fun j v hv => (World.cell?_of_block (w := w) hsame).trans (hx j v hv)) fun j v hv => waaa ?_ (h j v hv) hl hw hlow
  rw [wo] at hv
  exact List.all_eq_true.1 hc v (List.mem_of_getElem? hv)
theorem wapg [Tabs] {t : Ty} (ht : t.size ≠ 1) (x : t.I) : inj t x = .agg (flat t x) := by
 unfold inj
 have := wbr t x
 split
 next y e => rw [e] at this; exact absurd this.symm ht
 next => rfl
theorem wkc [Tabs] {S : Nat → Prop} (hS : ∀ b, S b) {μ : Nat → Option MV} : ∀ {ts : List Ty} {h : HL ts} {vals : List Value}, HRel w ts h vals → RL (RelV P w lo μ S) (hlAV ts h) vals
 | [], _, vals, h => by simp only [HRel] at h; subst h; exact trivial
 | t :: ts, (x, h), vals, hr => by
  obtain ⟨v, r, rfl, h1, h2, h3, h4⟩ := hr
  refine ⟨?_, wkc hS h4⟩
  have h1' := h1.step (S' := S) (w' := w) fun b _ _ => ⟨hS b, rfl⟩
  by_cases ht : t.size = 1
  ·rw [wacb ht]
   rw [h2 ht] at h1'
   exact .dat ht h1'
  ·rw [wapg ht]
   obtain ⟨cs, rfl⟩ := h3 ht
   have hr : Rep S w t x cs.toList := by simpa [Value.cells] using h1'
   refine .agg (by rw [wbr]; simpa using hr.len.symm) fun j v hv => ?_
   simpa using wcr hr j v hv
theorem wok {S S' : Nat → Prop} {μ' : Nat → Option MV} {v : AV} {x : Value} (hc : wvm v = true) (h : RelV P w lo μ S v x) (hw : ∀ b, b < w.heap.size → S b → S' b ∧ w'.heap[b]? = w.heap[b]?) : RelV P w' lo' μ' S' v x := by
 cases h with
 | undef => exact .undef
 | dat ht h => exact .dat ht (h.step hw)
 | nilsl => exact .nilsl
 | _ => simp [wvm] at hc
theorem wadk {S S' : Nat → Prop} {μ' : Nat → Option MV} {v : AV} {x : Value} (hc : wabo v = true) (h : RelV P w lo μ S v x) (hw : ∀ b, b < w.heap.size → S b → S' b ∧ w'.heap[b]? = w.heap[b]?) : RelV P w' lo' μ' S' v x := by
 have h0 := h
 cases h with
 | @agg _ vs xs hl h =>
  simp only [wabo, List.all_eq_true] at hc
  exact .agg hl fun j u hu => wok (hc u (by rw [wo] at hu; exact List.mem_of_getElem? hu)) (h j u hu) hw
 | _ => exact wok (by simpa only [wabo] using hc) h0 hw
theorem wwk [Tabs] (hE : wfe P E) {f : Nat} {avs : List AV} {r : Ty} {y : r.I} (hy : asRes r (E.call f avs []) = some y) {w1 : World} {vals : Array Value} (ht : TabsOK w1 (old w1 fun _ => none)) (hl : avs.length = vals.size)
  (hv : ∀ j v, nth avs j = some v → RelV P w1 (old w1 fun _ => none) (fun _ => none) (SS (fun _ => False) fun _ => none) v (vals.getD j undef)) :
  CallR P f vals w1 (fun v w'' => Rep (fun b => w1.heap.size ≤ b) w'' r y [v] ∧ Below w1.heap.size w1 w'') := by
 unfold asRes at hy
 split at hy
 next cr hcr =>
  obtain ⟨y0, h1, h2⟩ := wcn hy
  split at h2
  next v objs he =>
   have hcall := hE f _ _ cr hcr y0 h1 w1 (fun _ => False) (fun _ => none) vals (fun _ h => h.elim)
    ⟨fun _ h => h.elim, fun b hb => hb.1, fun o mv h => (by cases h), fun o p mv mv' b h => (by cases h), ht⟩ (fun p hp => (by cases hp)) hl hv
   refine hcall.mono fun x w2 hres => ?_
   obtain ⟨hk, μ2, hm, hdom, _, hrel⟩ := hres
   have hnew : ∀ b, ¬ old w1 (fun _ => none) b → w1.heap.size ≤ b := fun b hb => Nat.le_of_not_lt fun hlt => hb ⟨hlt, fun _ _ h => by cases h⟩
   rw [he] at hrel hm
   refine ⟨?_, hk.os, hk.tape, hk.output, hk.size, fun k hlt => hk.block k ⟨hlt, fun _ _ h => by cases h⟩⟩
   rcases hrel with ⟨v', hv', hr'⟩ | ⟨hne, _⟩
   case inr => exact absurd rfl hne
   cases hv'
   split at h2
   next t d =>
    split at h2
    next hd =>
     obtain ⟨e, rfl⟩ := Ty.cast_spec h2
     cases e
     cases hr' with
     | dat ht hr => exact hr.plain hd
    next => cases h2
   next o =>
    split at h2
    next e t l hlk =>
     split at h2
     next hd =>
      obtain ⟨e, rfl⟩ := Ty.cast_spec h2
      cases e
      cases hr' with
      | arr hμ =>
       obtain ⟨_, _, _, hrep⟩ := hm.asDatF hμ hlk hd (S' := fun b => w1.heap.size ≤ b) fun b hb => hnew b (hm.lt hμ hb).1
       exact hrep
     next => cases h2
    next e e2 t l hlk =>
     split at h2
     next hd =>
      obtain ⟨e, rfl⟩ := Ty.cast_spec h2
      cases e
      cases hr' with
      | arr hμ =>
       obtain ⟨_, _, _, hrep⟩ := hm.asRowsF hμ hlk hd (S' := fun b => w1.heap.size ≤ b) fun b hb => hnew b (hm.lt hμ hb).1
       exact hrep
     next => cases h2
    next => cases h2
   next => cases h2
  next => cases h2
 next => cases hy
theorem waiy [Tabs] (hE : wfe P E) (ht : TabsOK w lo) {S : Nat → Prop} (hS : ∀ b, b < w.heap.size → S b → lo b) : CloAll P w lo μ S E := by
 refine ⟨fun S => ∀ b, b < w.heap.size → S b → lo b, hS, fun S h b hb hs => hs.elim (h b hb) id, fun S hS => ⟨?_, ?_⟩⟩
 ·intro f caps ts r x hs hptr hx
  cases hx with
  | @fn _ _ _ xs hl hv =>
   refine ⟨hs, f, #[], xs, rfl, fun w1 hsz hsame h vals hh y hy => ?_⟩
   have hargs := (wkc (P := P) (lo := old w1 fun _ => none) (S := SS (fun _ => False) fun _ => none) (fun _ => ⟨fun h => h, fun _ _ h => by cases h⟩) (μ := fun _ => none) hh).to
   rw [Array.empty_append]
   refine wwk hE hy ((ht.step hsame).le fun b hb => ⟨hsz b hb, fun _ _ h => by cases h⟩) (by simp [hargs.1, hl]) fun j v hj => ?_
   rw [wo] at hj
   by_cases hlt : j < (hlAV ts h).length
   ·rw [List.getElem?_append_left hlt, ← wo] at hj
    have := hargs.2 j v hj
    have hjs : j < vals.toArray.size := by simpa [← hargs.1] using hlt
    rw [Array.getD_eq_getD_getElem?, Array.getElem?_append_left hjs, ← Array.getD_eq_getD_getElem?]
    simpa using this
   ·rw [List.getElem?_append_right (by omega), ← wo] at hj
    have h3 := hv _ v hj
    have hjs : vals.toArray.size ≤ j := by simp [← hargs.1]; omega
    rw [Array.getD_eq_getD_getElem?, Array.getElem?_append_right hjs, ← Array.getD_eq_getD_getElem?, show j - vals.toArray.size = j - (hlAV ts h).length by simp [hargs.1]]
    rw [wo] at hj
    obtain ⟨cs, rfl, hcs⟩ := hptr v (List.mem_of_getElem? hj)
    exact waab hcs h3 (fun b hb => ⟨hsz b hb, fun _ _ h => by cases h⟩) (fun b hb hs => ⟨⟨fun h => h, fun _ _ h => by cases h⟩, hsame b (hs.elim (hS b hb) id)⟩) hsame
 ·intro f fs ts r x hs hpur hx
  cases hx with
  | @bnd _ _ _ xs hl hv =>
   refine ⟨hs, f, xs, #[], rfl, fun w1 hsz hsame h vals hh y hy => ?_⟩
   have hargs := (wkc (P := P) (lo := old w1 fun _ => none) (S := SS (fun _ => False) fun _ => none) (fun _ => ⟨fun h => h, fun _ _ h => by cases h⟩) (μ := fun _ => none) hh).to
   rw [Array.append_empty]
   refine wwk hE hy ((ht.step hsame).le fun b hb => ⟨hsz b hb, fun _ _ h => by cases h⟩) (by simp [hargs.1, hl]) fun j v hj => ?_
   rw [wo] at hj
   by_cases hlt : j < fs.length
   ·rw [List.getElem?_append_left hlt] at hj
    have hjs : j < xs.size := by omega
    rw [Array.getD_eq_getD_getElem?, Array.getElem?_append_left hjs, ← Array.getD_eq_getD_getElem?]
    exact wadk (List.all_eq_true.1 hpur v (List.mem_of_getElem? hj)) (hv j v (by rw [wo]; exact hj)) fun b hb hs => ⟨⟨fun h => h, fun _ _ h => by cases h⟩, hsame b (hS b hb hs)⟩
   ·rw [List.getElem?_append_right (by omega), ← wo] at hj
    have hjs : xs.size ≤ j := by omega
    rw [Array.getD_eq_getD_getElem?, Array.getElem?_append_right hjs, ← Array.getD_eq_getD_getElem?, ← hl]
    have := hargs.2 _ v hj
    simpa using this
def war [Tabs] (P : Program) (p : Nat × FD) : Prop := ∀ (x : p.2.T) r, p.2.F x = some r → wamo P p.1 (val p.2.A x.1) (wew p.2.ins x.2) (p.2.emb r)
theorem RL.arr {R : AV → Value → Prop} {l : List AV} {vals : Array Value} (h1 : l.length = vals.size) (h2 : ∀ j v, nth l j = some v → R v (vals.getD j undef)) : RL R l vals.toList :=
 RL.of (by simpa using h1) fun j v hv => by simpa using h2 j v hv
theorem wol {α β : Type} : ∀ {l : List (Nat × α)} {m : List (Nat × β)}, wif l m = true → l.map (·.1) = m.map (·.1)
 | [], [], _ => rfl
 | [], _ :: _, h => by simp [wif] at h
 | _ :: _, [], h => by simp [wif] at h
 |(i, _) :: r, (j, _) :: r', h => by
  simp only [wif, Bool.and_eq_true] at h
  simp [Nat.eq_of_beq_eq_true h.1, wol h.2]
theorem wfl : ∀ {l : List (Nat × OSh)} {y : OL l}, (wew l y).map (·.1) = l.map (·.1)
 | [], _ => rfl
 |(i, o) :: r, y => by simp [wew, wfl]
theorem waph {S : Nat → Prop} {os : OSh} {x : Ob} {z : os.I} {mv : MV} (hu : os.un x = some z) (h : ObOK P w lo μ S x mv) : ObOK P w lo μ S (os.mk z) mv := by
 cases os with
 | arr e t =>
  cases x with
  | arr e' t' l =>
   simp only [OSh.un] at hu
   split at hu
   next he =>
    have := Nat.eq_of_beq_eq_true he
    subst this
    obtain ⟨e2, rfl⟩ := Ty.cast_spec hu
    cases e2
    exact h
   next => cases hu
  | txt e l => simp [OSh.un] at hu
  | deep => simp [OSh.un] at hu
  | perm => simp [OSh.un] at hu
  | spent => simp [OSh.un] at hu
  | rows e e2 t l hh => simp [OSh.un] at hu
  | cells cs => simp [OSh.un] at hu
 | deep e t =>
  cases x with
  | deep e' t' l =>
   simp only [OSh.un] at hu
   split at hu
   next he =>
    have := Nat.eq_of_beq_eq_true he
    subst this
    obtain ⟨e2, rfl⟩ := Ty.cast_spec hu
    cases e2
    exact h
   next => cases hu
  | _ => simp [OSh.un] at hu
 | perm e e2 t =>
  cases x with
  | perm k e' e2' t' ix l =>
   simp only [OSh.un] at hu
   split at hu
   next he he2 =>
    have := Nat.eq_of_beq_eq_true he
    subst this
    have := Nat.eq_of_beq_eq_true he2
    subst this
    split at hu
    next y hy =>
     obtain ⟨e3, rfl⟩ := Ty.cast_spec hy
     cases e3
     cases hu
     exact h
    next => cases hu
   next => cases hu
  | _ => simp [OSh.un] at hu
 | spent =>
  cases x with
  | spent => exact h
  | _ => simp [OSh.un] at hu
 | rows e e2 t =>
  cases x with
  | rows e' e2' t' l hh =>
   cases hh with
   | some q => simp [OSh.un] at hu
   | none =>
    simp only [OSh.un] at hu
    split at hu
    next he he2 =>
     have := Nat.eq_of_beq_eq_true he
     subst this
     have := Nat.eq_of_beq_eq_true he2
     subst this
     obtain ⟨e3, rfl⟩ := Ty.cast_spec hu
     cases e3
     exact h
    next => cases hu
  | arr e' t' l => simp [OSh.un] at hu
  | txt e l => simp [OSh.un] at hu
  | deep => simp [OSh.un] at hu
  | perm => simp [OSh.un] at hu
  | spent => simp [OSh.un] at hu
  | cells cs => simp [OSh.un] at hu
 | cells c =>
  cases x with
  | arr e' t' l => simp [OSh.un] at hu
  | txt e l => simp [OSh.un] at hu
  | deep => simp [OSh.un] at hu
  | perm => simp [OSh.un] at hu
  | spent => simp [OSh.un] at hu
  | rows e e2 t l hh => simp [OSh.un] at hu
  | cells cs =>
   simp only [OSh.un] at hu
   split at hu
   next y hy =>
    cases hu
    obtain ⟨b, vs, e, h1, h2, h3, h4, h5⟩ := h
    obtain ⟨y1, y2, he, k1, k2⟩ := wlk (CloAll.none (P := P) (w := w) (lo := lo) (μ := μ) (S := S)) hy (RL.of (ys := vs.toList) (by simpa using h4.symm) fun j v hv => by simpa using h5 j v hv)
    cases y2 with
    | cons _ _ => exact k2.elim
    | nil =>
     rw [List.append_nil] at he
     subst he
     obtain ⟨k3, k4⟩ := k1.to
     exact ⟨b, vs, e, h1, h2, h3, by simpa using k3.symm, fun j v hv => by simpa using k4 j v hv⟩
   next => cases hu
theorem ww [Tabs] : ∀ {l : List (Nat × FD)}, (∀ p ∈ l, war P p) → wfe P (waa l)
 | [], _ => fun f args ins cr h => by simp [waa, E0] at h
 |(f, d) :: l, hl => by
  have ih := ww (l := l) fun p hp => hl p (List.mem_cons_of_mem _ hp)
  intro f' args ins cr h r hr
  simp only [waa] at h
  split at h
  next e =>
   have := Nat.eq_of_beq_eq_true e
   subst this
   unfold FD.cr at h
   split at h
   next x hx =>
    split at h
    next hsame =>
     split at h
     next y hy =>
      cases h
      intro w X μi vals hX hm hins hsz hv
      have hids := wol hsame
      obtain ⟨y1, y2, he, k1, k2⟩ := wlk (waiy ih (ht := hm.tab) (w := w) (lo := old w μi) (μ := μi) (S := SS X μi) fun b hb hs => ⟨hb, hs.2⟩) hx (RL.arr hsz hv)
      cases y2 with
      | cons _ _ => exact k2.elim
      | nil =>
       rw [List.append_nil] at he
       subst he
       obtain ⟨k3, k4⟩ := k1.to
       refine hl (f, d) List.mem_cons_self (x, y) r hr w X μi vals hX ⟨hm.hX, hm.hlo, fun o mv ho => ?_, hm.dis, hm.tab⟩ (fun p hp => ?_) (by simpa using k3) fun j v hj => by simpa using k4 j v hj
       ·obtain ⟨z, hz, hob⟩ := hm.ob o mv ho
        have ho' : o ∈ d.ins.map (·.1) := by
         rw [← hids]
         exact List.mem_map.2 ⟨_, wbw hz, rfl⟩
        obtain ⟨os, x', z', j1, j2, j3, j4⟩ := whj hy o ho'
        rw [hz] at j2
        cases j2
        exact ⟨os.mk z', j1, waph j3 hob⟩
       ·have hp' : p.1 ∈ ins.map (·.1) := by
         rw [hids, ← wfl (y := y)]
         exact List.mem_map.2 ⟨p, hp, rfl⟩
        obtain ⟨q, hq, e⟩ := List.mem_map.1 hp'
        rw [← e]
        exact hins q hq
     next => cases h
    next => cases h
   next => cases h
  next => exact ih f' args ins cr h r hr
theorem wbac [Tabs] (hT : waj P tt) {X : Nat → Prop} {N : Par} {w0 : World} {s : St} {a : Act} {μ : Nat → Option MV} (h : Rel P X lo N w0 s a w μ) (F : ResultVar → Sem Value) (hF : ∀ t, F (.tmp t) = pure (a.tmps.getD t undef))
  (hF' : ∀ r ty, F (.cell r ty) = (do loadVar ty (← asAddr (a.tmps.getD r undef)))) : ∀ {l : List ResultVar} {vs : List AV}, wqs tt s l = some vs →
  ∃ ys, (List.mapM F l).run P w = .ok ys w ∧ RL (RelV P w lo μ (SS X μ)) vs ys
 | [], vs, hv => by
  simp only [wqs, Option.some.injEq] at hv
  subst hv
  exact ⟨[], by simp, trivial⟩
 | r :: l, vs, hv => by
  simp only [wqs] at hv
  split at hv
  next v vs' h1 h2 =>
   cases hv
   obtain ⟨ys, k1, k2⟩ := wbac hT h F hF hF' h2
   have : ∃ y, (F r).run P w = .ok y w ∧ RelV P w lo μ (SS X μ) v y := by
    cases r with
    | tmp t =>
     simp only [waok, Option.some.injEq] at h1
     subst h1
     exact ⟨_, by rw [hF]; simp, h.fr t⟩
    | cell r ty =>
     simp only [waok] at h1
     split at h1
     next o k sz hs hz =>
      split at h1
      next cs hg =>
       have hv := h.fr r
       rw [hs] at hv
       generalize hy : a.tmps.getD r undef = y at hv
       cases hv with
       | @box _ _ b _ _ _ hb =>
        have hc := h.mem.cells (k := k) hb hg
        obtain ⟨x, h3, h4⟩ := wfb hT hz hc (k := 0) (wpf (by simpa using h1))
        refine ⟨x, ?_, h4⟩
        rw [hF', hy]
        simpa [asAddr] using h3
      next => cases h1
     next => cases h1
   obtain ⟨y, k3, k4⟩ := this
   exact ⟨y :: ys, by rw [List.mapM_cons]; simp [Sem.run_bind, k3, k1], k4, k2⟩
  next => cases hv
def wom : List Value → Value
 | [x] => x
 | xs => .tuple xs.toArray
theorem wub {fn : Func} {l : List ResultVar} (hl : fn.results = l.toArray) {a : Act} {ys : List Value} (h : ∀ F : ResultVar → Sem Value, (∀ t, F (.tmp t) = pure (a.tmps.getD t undef)) → (∀ r ty, F (.cell r ty) = (do loadVar ty (← asAddr (a.tmps.getD r undef)))) → (List.mapM F l).run P w = .ok ys w) :
  (results fn a.tmps).run P w = .ok (wom ys) w := by
 unfold results
 rw [hl, List.mapM_toArray]
 simp only [bind_pure_comp, Functor.map_map, Sem.run_map]
 rw [h _ (fun t => rfl) fun r ty => rfl]
 cases ys with
 | nil => simp [wom]
 | cons i l =>
  cases l with
  | nil => simp [wom]
  | cons j l => simp [wom]
end
end Go.Proofs.Ytnagpmhaddfgmaa
