/-
  Functions: the table of what functions compute.
-/
import Derived.Test.YtafcpibodfbjnaaB24
namespace Go.Proofs.Ytafcpibodfbjnaa
open Go.RowKit (Below)

section
variable {P : Program} {E : Env} {tt : Nat → TD} {w w' : World} {lo lo' : Nat}

/-- Values that name nothing owned stay, and what counts as old may grow. -/
theorem RelV.raise {S : Nat → Prop} {v : AV} {x : Value} (h : RelV P w lo (fun _ => none) S v x) : ∀ {S' : Nat → Prop}, lo ≤ lo' → (∀ b, b < w.heap.size → S b → S' b ∧ w'.heap[b]? = w.heap[b]?) → (∀ b, b < lo → w'.heap[b]? = w.heap[b]?) → lo ≤ w.heap.size →
    RelV P w' lo' (fun _ => none) S' v x := by
  induction h with
  | undef => intro S' _ _ _ _; exact .undef
  | skip => intro S' _ _ _ _; exact .skip
  | dat ht h => intro S' _ hw _ _; exact .dat ht (h.step hw)
  | nilsl => intro S' _ _ _ _; exact .nilsl
  | arr h => cases h
  | box h => cases h
  | elt h => cases h
  | @ptr S cs b k xs hb0 hb hx h ih =>
    intro S' hl hw hlow hlo
    have hbs : b < w.heap.size := by
      cases cs with
      | nil => exact absurd rfl hb0
      | cons c cs => exact block_lt_of_cell (hx 0 c rfl)
    have hsame : w'.heap[b]? = w.heap[b]? := hb.elim (fun hS => (hw b hbs hS).2) (fun hS => hlow b hS)
    exact .ptr xs hb0 (hb.imp (fun hS => (hw b hbs hS).1) fun h => Nat.lt_of_lt_of_le h hl) (fun j v hv => (World.cell?_of_block (w := w) hsame).trans (hx j v hv)) fun j v hv => ih j v hv hl hw hlow hlo
  | fn hl' h ih => intro S' hl hw hlow hlo; exact .fn hl' fun j v hv => ih j v hv hl (fun b hlt hb => hb.elim (fun h => ⟨.inl (hw b hlt h).1, (hw b hlt h).2⟩) fun h => ⟨.inr (Nat.lt_of_lt_of_le h hl), hlow b h⟩) hlow hlo
  | clo h => intro S' hl _ hlow _; exact .clo (h.step hl hlow)
  | tup hl' h ih => intro S' hl hw hlow hlo; exact .tup hl' fun j v hv => ih j v hv hl hw hlow hlo
  | agg hl' h ih => intro S' hl hw hlow hlo; exact .agg hl' fun j v hv => ih j v hv hl hw hlow hlo

theorem inj_two {t : Ty} (ht : t.size ≠ 1) (x : t.I) : inj t x = .agg (flat t x) := by
  unfold inj
  have := flat_len t x
  split
  next y e => rw [e] at this; exact absurd this.symm ht
  next => rfl

theorem hlAV_rel {S : Nat → Prop} (hS : ∀ b, S b) {μ : Nat → Option Value} : ∀ {ts : List Ty} {h : HL ts} {vals : List Value}, HRel w ts h vals → RL (RelV P w lo μ S) (hlAV ts h) vals
  | [], _, vals, h => by simp only [HRel] at h; subst h; exact trivial
  | t :: ts, (x, h), vals, hr => by
    obtain ⟨v, r, rfl, h1, h2, h3, h4⟩ := hr
    refine ⟨?_, hlAV_rel hS h4⟩
    have h1' := h1.step (S' := S) (w' := w) fun b _ _ => ⟨hS b, rfl⟩
    by_cases ht : t.size = 1
    · rw [inj_one ht]
      rw [h2 ht] at h1'
      exact .dat ht h1'
    · rw [inj_two ht]
      obtain ⟨cs, rfl⟩ := h3 ht
      have hr : Rep S w t x cs.toList := by simpa [Value.cells] using h1'
      refine .agg (by rw [flat_len]; simpa using hr.len.symm) fun j v hv => ?_
      simpa using flat_rel hr j v hv

theorem clo_rule (hE : EnvOK P E) (S : Nat → Prop) : CloRule P w w.heap.size (fun _ => none) S E := by
  intro f caps ts r x hd hs hptr hx
  cases hx with
  | @fn _ _ _ xs hl hv =>
    refine ⟨hd, hs, f, xs, rfl, fun w1 hsz hsame h vals hh y hy => ?_⟩
    unfold asClo at hy
    split at hy
    next cr hcr =>
      obtain ⟨y0, h1, h2⟩ := bind_some' hy
      split at h2
      next t v he =>
        obtain ⟨e, rfl⟩ := Ty.cast_spec h2
        subst e
        have hargs := (hlAV_rel (P := P) (lo := w1.heap.size) (S := fun b => ¬ False) (fun _ h => h.elim) (μ := fun _ => none) hh).to
        obtain ⟨k1, k2⟩ := hE f _ cr hcr y0 h1 w1 (fun _ => False) (vals.toArray ++ xs) (fun _ h => h.elim) (by simp [hargs.1, hl]) fun j v hj => by
          rw [nth_eq] at hj
          by_cases hlt : j < (hlAV ts h).length
          · rw [List.getElem?_append_left hlt, ← nth_eq] at hj
            have := hargs.2 j v hj
            have hjs : j < vals.toArray.size := by simpa [← hargs.1] using hlt
            rw [Array.getD_eq_getD_getElem?, Array.getElem?_append_left hjs, ← Array.getD_eq_getD_getElem?]
            simpa using this
          · rw [List.getElem?_append_right (by omega), ← nth_eq] at hj
            have := hv _ v hj
            have hjs : vals.toArray.size ≤ j := by simp [← hargs.1]; omega
            rw [Array.getD_eq_getD_getElem?, Array.getElem?_append_right hjs, ← Array.getD_eq_getD_getElem?, show j - vals.toArray.size = j - (hlAV ts h).length by simp [hargs.1]]
            exact this.raise hsz (fun b hb _ => ⟨fun h => h.elim, hsame b hb⟩) hsame (Nat.le_refl _)
        refine ⟨k1, Calls.mono k2 ?_⟩
        rintro e w2 ⟨x, rfl, hb, μ, hm, hdom, hrel⟩
        rw [he] at hrel
        refine ⟨x, rfl, ?_, hb⟩
        rcases hrel with ⟨v', hv', hr'⟩ | ⟨hne, _⟩
        · cases hv'
          cases hr' with
          | dat ht hr => exact hr.plain hd
        · exact absurd rfl hne
      next => cases h2
    next => cases hy

/-- What a table's entry says. -/
def FDok (P : Program) (p : Nat × FD) : Prop := ∀ x r, p.2.F x = some r → CallOK P p.1 (val p.2.A x) (p.2.emb r)

theorem RL.arr {R : AV → Value → Prop} {l : List AV} {vals : Array Value} (h1 : l.length = vals.size) (h2 : ∀ j v, nth l j = some v → R v (vals.getD j undef)) : RL R l vals.toList :=
  RL.of (by simpa using h1) fun j v hv => by simpa using h2 j v hv

theorem env_ok : ∀ {l : List (Nat × FD)}, (∀ p ∈ l, FDok P p) → EnvOK P (envOf l)
  | [], _ => fun f args cr h => by simp [envOf, E0] at h
  | (f, d) :: l, hl => by
    have ih := env_ok (l := l) fun p hp => hl p (List.mem_cons_of_mem _ hp)
    intro f' args cr h r hr
    simp only [envOf] at h
    split at h
    next e =>
      have := Nat.eq_of_beq_eq_true e
      subst this
      unfold FD.cr at h
      split at h
      next x hx =>
        cases h
        intro w X vals hX hsz hv
        obtain ⟨y1, y2, he, k1, k2⟩ := un_ok (fun S => clo_rule ih S) hx (RL.arr hsz hv)
        cases y2 with
        | cons _ _ => exact k2.elim
        | nil =>
          rw [List.append_nil] at he
          subst he
          obtain ⟨k3, k4⟩ := k1.to
          exact hl (f, d) List.mem_cons_self x r hr w X vals hX (by simpa using k3) fun j v hj => by simpa using k4 j v hj
      next => cases h
    next => exact ih f' args cr h r hr

/-- The results' values. -/
theorem rs_ok (hT : TabOK P tt) {X : Nat → Prop} {N : Nat} {w0 : World} {s : St} {a : Act} {μ : Nat → Option Value} (h : Rel P X lo N w0 s a w μ) (F : ResultVar → Sem Value) (hF : ∀ t, F (.tmp t) = pure (a.tmps.getD t undef))
    (hF' : ∀ r ty, F (.cell r ty) = (do loadVar ty (← asAddr (a.tmps.getD r undef)))) : ∀ {l : List ResultVar} {vs : List AV}, rsVals tt s l = some vs →
    ∃ ys, (List.mapM F l).run P w = .ok ys w ∧ RL (RelV P w lo μ (SS X μ)) vs ys
  | [], vs, hv => by
    simp only [rsVals, Option.some.injEq] at hv
    subst hv
    exact ⟨[], by simp, trivial⟩
  | r :: l, vs, hv => by
    simp only [rsVals] at hv
    split at hv
    next v vs' h1 h2 =>
      cases hv
      obtain ⟨ys, k1, k2⟩ := rs_ok hT h F hF hF' h2
      have : ∃ y, (F r).run P w = .ok y w ∧ RelV P w lo μ (SS X μ) v y := by
        cases r with
        | tmp t =>
          simp only [rsVal, Option.some.injEq] at h1
          subst h1
          exact ⟨_, by rw [hF]; simp, h.fr t⟩
        | cell r ty =>
          simp only [rsVal] at h1
          split at h1
          next o k sz hs hz =>
            split at h1
            next cs hg =>
              have hv := h.fr r
              rw [hs] at hv
              generalize hy : a.tmps.getD r undef = y at hv
              cases hv with
              | @box _ _ b _ hb =>
                have hc := h.mem.cells (k := k) hb hg
                obtain ⟨x, h3, h4⟩ := load_ok hT hz hc (k := 0) (cut_drop (by simpa using h1))
                refine ⟨x, ?_, h4⟩
                rw [hF', hy]
                simpa [asAddr] using h3
            next => cases h1
          next => cases h1
      obtain ⟨y, k3, k4⟩ := this
      exact ⟨y :: ys, by rw [List.mapM_cons]; simp [Sem.run_bind, k3, k1], k4, k2⟩
    next => cases hv

def resVal : List Value → Value
  | [x] => x
  | xs => .tuple xs.toArray

theorem run_results {fn : Func} {l : List ResultVar} (hl : fn.results = l.toArray) {a : Act} {ys : List Value} (h : ∀ F : ResultVar → Sem Value, (∀ t, F (.tmp t) = pure (a.tmps.getD t undef)) → (∀ r ty, F (.cell r ty) = (do loadVar ty (← asAddr (a.tmps.getD r undef)))) → (List.mapM F l).run P w = .ok ys w) :
    (results fn a.tmps).run P w = .ok (resVal ys) w := by
  unfold results
  rw [hl, List.mapM_toArray]
  simp only [bind_pure_comp, Functor.map_map, Sem.run_map]
  rw [h _ (fun t => rfl) fun r ty => rfl]
  cases ys with
  | nil => simp [resVal]
  | cons i l =>
    cases l with
    | nil => simp [resVal]
    | cons j l => simp [resVal]
end
end Go.Proofs.Ytafcpibodfbjnaa
