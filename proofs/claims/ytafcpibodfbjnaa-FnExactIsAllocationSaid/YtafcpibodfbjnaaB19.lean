/-
  Regions whose order is drawn: the trace of the text's order, and the invariant of any order.
-/
import Derived.Test.YtafcpibodfbjnaaB18
namespace Go.Proofs.Ytafcpibodfbjnaa
open Go.RowKit (Below)

/-- Does the operation run, by what is known? -/
def Want (ops : Array Oper) (sl : Nat → AV) (o : Oper) (b : Bool) : Prop :=
  match o.guard with
  | none => b = true
  | some (j, want) => ∃ dj, (ops[j]?).bind (·.dst) = some dj ∧ ((∃ v, sl dj = .dat .bool v ∧ b = (v == want)) ∨ (sl dj = .skip ∧ b = false))

structure Step1 (E : Env) (tt : Nat → TD) (ops : Array Oper) (o : Oper) (s s' : St) (d : Nat) (q : QR) (b : Bool) : Prop where
  dst : o.dst = some d
  want : Want ops s.slot o b
  run : b = true → (aq E tt s.g (opd s.slot) o).ev = some q
  skip : b = false → q = (.skip, [])
  fresh : ∀ p ∈ q.2, s.g p.1 = none
  nodup : (q.2.map (·.1)).Nodup
  slot : ∀ t, s'.slot t = if d = t then q.1 else s.slot t
  obj : ∀ i, s'.g i = match look q.2 i with | some x => some x | none => s.g i

theorem slot_cons (d : Nat) (v : AV) (s : St) (t : Nat) : St.slot { s with fr := (d, v) :: s.fr } t = if d = t then v else s.slot t := by
  simp only [St.slot, look]
  by_cases e : d = t
  · subst e; rw [beq_self]; simp
  · rw [beq_ne e]; simp [e]

section
variable {E : Env} {tt : Nat → TD} {fz : Nat → List Nat} {ops : Array Oper}

theorem slot_know {s : St} {dj : Nat} {b : Bool} (h : s.slot dj = .dat .bool b) : St.slot { s with fr := (dj, .dat .bool b) :: s.fr } = s.slot := by
  funext t
  rw [slot_cons]
  split
  next e => subst e; exact h.symm
  next => rfl

theorem aop_quiet {o : Oper} {i : Nat} {s s' : St} (hw : writes o = false) (hz : fz i = []) (h : (aop E tt fz o i s).ev = some s') :
    ∃ d q, o.dst = some d ∧ (aq E tt s.g (opd s.slot) o).ev = some q ∧ (∀ p ∈ q.2, s.g p.1 = none) ∧ (q.2.map (·.1)).Nodup ∧ s' = { fr := (d, q.1) :: s.fr, ob := q.2 ++ s.ob } := by
  unfold aop at h
  simp only [hz, List.flatMap_nil, St.freezes, List.foldl_nil] at h
  split at h
  next ho _ => unfold writes at hw; rw [ho] at hw; cases hw
  next ho _ => unfold writes at hw; rw [ho] at hw; cases hw
  · rename_i d hd' _
    rw [Tr.ev_bind] at h
    cases hq : (aq E tt s.g (opd s.slot) o).ev with
    | none => rw [hq] at h; cases h
    | some q =>
      rw [hq] at h
      simp only [Option.bind_some] at h
      split at h
      next hc =>
        simp only [Tr.ev_l, Option.some.injEq] at h
        simp only [Bool.and_eq_true, List.all_eq_true, decide_eq_true_eq] at hc
        refine ⟨d, q, hd', rfl, fun p hp => ?_, hc.2, h.symm⟩
        have := hc.1 p hp
        split at this
        · assumption
        · cases this
      next => cases h
  · cases h

theorem aops_step {o : Oper} {l : List Oper} {i : Nat} {s s' : St} (hw : writes o = false) (hd : ∃ d, o.dst = some d) (hz : fz i = []) (h : (aops E tt fz (fun j => ops[j]?) (o :: l) i s).ev = some s') :
    ∃ s1 d q b, Step1 E tt ops o s s1 d q b ∧ (aops E tt fz (fun j => ops[j]?) l (i + 1) s1).ev = some s' := by
  simp only [aops] at h
  have run : ∀ {s0 : St}, s0.slot = s.slot → s0.ob = s.ob → Want ops s.slot o true → ((aop E tt fz o i s0).bind (aops E tt fz (fun j => ops[j]?) l (i + 1))).ev = some s' →
      ∃ s1 d q b, Step1 E tt ops o s s1 d q b ∧ (aops E tt fz (fun j => ops[j]?) l (i + 1) s1).ev = some s' := by
    intro s0 h0 h1 hwant h
    rw [Tr.ev_bind] at h
    cases hs : (aop E tt fz o i s0).ev with
    | none => rw [hs] at h; cases h
    | some s2 =>
      rw [hs] at h
      obtain ⟨d, q, k1, k2, k3, k4, rfl⟩ := aop_quiet hw hz hs
      have hg : s0.g = s.g := by unfold St.g; rw [h1]
      rw [hg] at k2 k3
      rw [h0] at k2
      refine ⟨_, d, q, true, ⟨k1, hwant, fun _ => k2, fun h => (by cases h), k3, k4, fun t => ?_, fun t => ?_⟩, h⟩
      · rw [← h0]; exact slot_cons d q.1 ⟨s0.fr, q.2 ++ s0.ob⟩ t
      · simp only [St.g, look_append, h1]
        cases look q.2 t <;> rfl
  have skip : ∀ {s0 : St}, s0.slot = s.slot → s0.ob = s.ob → Want ops s.slot o false → (match o.dst with
      | some d => aops E tt fz (fun j => ops[j]?) l (i + 1) { s0 with fr := (d, .skip) :: s0.fr }
      | none => aops E tt fz (fun j => ops[j]?) l (i + 1) s0).ev = some s' →
      ∃ s1 d q b, Step1 E tt ops o s s1 d q b ∧ (aops E tt fz (fun j => ops[j]?) l (i + 1) s1).ev = some s' := by
    intro s0 h0 h1 hwant h
    obtain ⟨d, hd⟩ := hd
    rw [hd] at h
    refine ⟨_, d, (.skip, []), false, ⟨hd, hwant, fun h => (by cases h), fun _ => rfl, fun p hp => (by cases hp), by simp, fun t => ?_, fun t => ?_⟩, h⟩
    · rw [← h0]; exact slot_cons d .skip s0 t
    · simp [St.g, look, h1]
  cases hg : o.guard with
  | none => rw [hg] at h; exact run rfl rfl (by simp [Want, hg]) h
  | some gd =>
    obtain ⟨j, want⟩ := gd
    rw [hg] at h
    simp only at h
    split at h
    next dj hdj =>
      split at h
      next v hv =>
        cases want <;> cases v
        · simp only [Tr.ev_t, cond_false] at h
          exact run (slot_know hv) rfl (by simp only [Want, hg]; exact ⟨dj, hdj, .inl ⟨false, hv, rfl⟩⟩) h
        · simp only [Tr.ev_t, cond_true] at h
          exact skip (s0 := { s with fr := (dj, .dat .bool true) :: s.fr }) (slot_know hv) rfl (by simp only [Want, hg]; exact ⟨dj, hdj, .inl ⟨true, hv, rfl⟩⟩) (by cases hd' : o.dst <;> rw [hd'] at h <;> exact h)
        · simp only [Tr.ev_t, cond_false] at h
          exact skip (s0 := { s with fr := (dj, .dat .bool false) :: s.fr }) (slot_know hv) rfl (by simp only [Want, hg]; exact ⟨dj, hdj, .inl ⟨false, hv, rfl⟩⟩) (by cases hd' : o.dst <;> rw [hd'] at h <;> exact h)
        · simp only [Tr.ev_t, cond_true] at h
          exact run (slot_know hv) rfl (by simp only [Want, hg]; exact ⟨dj, hdj, .inl ⟨true, hv, rfl⟩⟩) h
      next hv => exact skip rfl rfl (by simp only [Want, hg]; exact ⟨dj, hdj, .inr ⟨hv, trivial⟩⟩) (by cases hd' : o.dst <;> rw [hd'] at h <;> exact h)
      next => cases h
    next => cases h

/-- The trace of the first p operations. -/
theorem aops_trace : ∀ (p : Nat) {l : List Oper} {i : Nat} {s s' : St}, (∀ k o, k < p → l[k]? = some o → writes o = false ∧ (∃ d, o.dst = some d) ∧ fz (i + k) = []) → p ≤ l.length → (aops E tt fz (fun j => ops[j]?) l i s).ev = some s' →
    ∃ (σ : Nat → St) (D : Nat → Nat) (Q : Nat → QR) (B : Nat → Bool), σ 0 = s ∧ (∀ k o, k < p → l[k]? = some o → Step1 E tt ops o (σ k) (σ (k + 1)) (D k) (Q k) (B k)) ∧ (aops E tt fz (fun j => ops[j]?) (l.drop p) (i + p) (σ p)).ev = some s'
  | 0, l, i, s, s', _, _, h => ⟨fun _ => s, fun _ => 0, fun _ => (.undef, []), fun _ => false, rfl, fun k o hk => absurd hk (Nat.not_lt_zero _), h⟩
  | p + 1, [], i, s, s', _, hl, _ => absurd hl (by simp)
  | p + 1, o :: l, i, s, s', hq, hl, h => by
    obtain ⟨h1, h2, h3⟩ := hq 0 o (Nat.succ_pos _) rfl
    obtain ⟨s1, d, q, b, hs, h4⟩ := aops_step h1 h2 h3 h
    obtain ⟨σ, D, Q, B, h5, h6, h7⟩ := aops_trace p (fun k o hk ho => by
      have := hq (k + 1) o (by omega) ho
      rwa [show i + (k + 1) = i + 1 + k by omega] at this) (by simpa using hl) h4
    refine ⟨fun k => match k with | 0 => s | k + 1 => σ k, fun k => match k with | 0 => d | k + 1 => D k, fun k => match k with | 0 => q | k + 1 => Q k, fun k => match k with | 0 => b | k + 1 => B k, rfl, fun k o' hk ho => ?_, ?_⟩
    · match k, hk, ho with
      | 0, _, ho =>
        simp only [List.getElem?_cons_zero, Option.some.injEq] at ho
        subst ho
        simp only [h5]
        exact hs
      | k + 1, hk, ho => exact h6 k o' (by omega) ho
    · simp only [List.drop_succ_cons]
      rw [show i + (p + 1) = i + 1 + p by omega]
      exact h7
end
end Go.Proofs.Ytafcpibodfbjnaa
