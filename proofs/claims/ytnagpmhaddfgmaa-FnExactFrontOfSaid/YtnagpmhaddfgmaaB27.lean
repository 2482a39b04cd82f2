/-
 A types' table is checked.
-/
import Derived.Test.YtnagpmhaddfgmaaB26
namespace Go.Proofs.Ytnagpmhaddfgmaa
def wfw (P : Program) (T : Nat) (t : Ty) : Bool :=
 match P.info? T with
 | some i => Nat.beq i.size t.size && match i.zero with
  | some z => isZ t z.cells.toList
  | none => false
 | none => false
def wsk (P : Program) (T : Nat) : Ty → Bool
 | .int k => match P.underlying T with
  | some (.int k') => decide (k' = k)
  | _ => false
 | .bool => match P.underlying T with
  | some .bool => true
  | _ => false
 | .str => match P.underlying T with
  | some .string => true
  | _ => false
 | _ => false
def wdv (P : Program) : List Go.Field → List (Nat × Ty) → Nat → Bool
 | [], [], _ => true
 | f :: fs, (ty, t) :: ts, o => Nat.beq f.type ty && Nat.beq f.offset o && wfw P ty t && wdv P fs ts (o + t.size)
 | _, _, _ => false
def wuw (P : Program) (T : Nat) : TD → Bool
 | .sc t => wsk P T t && wfw P T t
 | .sl e t b => (match P.underlying T with
   | some (.slice e') => Nat.beq e' e
   | _ => false) && (match P.info? e with
   | some i => Nat.beq i.size t.size && Nat.beq i.bytes b && (match i.zero with
    | some z => isZ t z.cells.toList
    | none => false)
   | none => false) && (match P.info? T with
   | some i => Nat.beq i.size 1 && (match i.zero with
    | some (.slice none 0 0) => true
    | _ => false)
   | none => false)
 | .st t fs => (match P.underlying T with
   | some (.struct fields) => wdv P fields.toList fs 0 && (!scFs fs || (!P.eqGuardType P.depth T && !P.stoodInHeld T && fields.toList.all fun f => f.name != "_"))
   | _ => false) && Nat.beq (wue fs) t.size && wfw P T t
 | .ar n e te t => (match P.underlying T with
   | some (.array n' e') => Nat.beq n' n && Nat.beq e' e
   | _ => false) && wfw P e te && (Nat.beq (n * te.size) t.size && (!scTy te || !P.eqGuardType P.depth T)) && wfw P T t
 | .other => (match P.underlying T with
   | some d => weo d
   | none => false) && (match P.info? T with
   | some i => Nat.beq i.size 1 && (match i.zero with
    | some z => Nat.beq z.cells.size 1
    | none => false)
   | none => false)
 | .no => true
theorem wdw {P : Program} {T : Nat} {t : Ty} (h : wfw P T t = true) : wgi P T t := by
 unfold wfw at h
 split at h
 next i hi =>
  simp only [Bool.and_eq_true] at h
  obtain ⟨h1, h2⟩ := h
  split at h2
  next z hz => exact ⟨i, z, hi, Nat.eq_of_beq_eq_true h1, hz, h2⟩
  next => cases h2
 next => cases h
theorem walo {P : Program} {T : Nat} {t : Ty} (h : wsk P T t = true) : ∃ d, wts t = some d ∧ P.underlying T = some d := by
 cases t with
 | int k =>
  simp only [wsk] at h
  split at h
  next k' hk =>
   have : k' = k := by simpa using h
   subst this
   exact ⟨_, rfl, hk⟩
  next => cases h
 | bool =>
  simp only [wsk] at h
  split at h
  next hk => exact ⟨_, rfl, hk⟩
  next => cases h
 | str =>
  simp only [wsk] at h
  split at h
  next hk => exact ⟨_, rfl, hk⟩
  next => cases h
 | slice t => simp [wsk] at h
 | seq g => simp [wsk] at h
 | pair a b => simp [wsk] at h
theorem wiv {P : Program} : ∀ {fs : List Go.Field} {ts : List (Nat × Ty)} {o : Nat}, wdv P fs ts o = true → wfj P fs ts o
 | [], [], _, _ => trivial
 | f :: fs, (ty, t) :: ts, o, h => by
  simp only [wdv, Bool.and_eq_true] at h
  exact ⟨Nat.eq_of_beq_eq_true h.1.1.1, Nat.eq_of_beq_eq_true h.1.1.2, wdw h.1.2, wiv h.2⟩
 | [], _ :: _, _, h => by simp [wdv] at h
 | _ :: _, [], _, h => by simp [wdv] at h
theorem walp {P : Program} {T : Nat} {d : TD} (h : wuw P T d = true) : TDok P T d := by
 cases d with
 | sc t =>
  simp only [wuw, Bool.and_eq_true] at h
  obtain ⟨d, h1, h2⟩ := walo h.1
  exact ⟨d, h1, h2, wdw h.2⟩
 | sl e t b =>
  simp only [wuw, Bool.and_eq_true] at h
  obtain ⟨⟨h1, h2⟩, h3⟩ := h
  split at h1
  next e' he =>
   split at h2
   next i hi =>
    simp only [Bool.and_eq_true] at h2
    split at h3
    next j hj =>
     simp only [Bool.and_eq_true] at h3
     obtain ⟨h3, h4⟩ := h3
     obtain ⟨⟨h5, h6⟩, h7⟩ := h2
     split at h4
     next hz =>
      split at h7
      next z hz' =>
       exact ⟨by rw [he, Nat.eq_of_beq_eq_true h1], ⟨i, z, hi, Nat.eq_of_beq_eq_true h5, Nat.eq_of_beq_eq_true h6, hz', h7⟩, j, hj, Nat.eq_of_beq_eq_true h3, hz⟩
      next => cases h7
     next => cases h4
    next => cases h3
   next => cases h2
  next => cases h1
 | st t fs =>
  simp only [wuw, Bool.and_eq_true] at h
  obtain ⟨⟨h1, h2⟩, h3⟩ := h
  split at h1
  next fields hf =>
   simp only [Bool.and_eq_true] at h1
   refine ⟨fields, hf, wiv h1.1, ⟨Nat.eq_of_beq_eq_true h2, fun hs => ?_⟩, wdw h3⟩
   have h4 := h1.2
   rw [hs] at h4
   simp only [Bool.not_true, Bool.false_or, Bool.and_eq_true, Bool.not_eq_true', List.all_eq_true, bne_iff_ne, ne_eq] at h4
   exact ⟨h4.1.1, h4.1.2, h4.2⟩
  next => cases h1
 | ar n e te t =>
  simp only [wuw, Bool.and_eq_true] at h
  obtain ⟨⟨⟨h1, h2⟩, h3⟩, h4⟩ := h
  split at h1
  next n' e' he =>
   simp only [Bool.and_eq_true] at h1
   refine ⟨by rw [he, Nat.eq_of_beq_eq_true h1.1, Nat.eq_of_beq_eq_true h1.2], wdw h2, ⟨Nat.eq_of_beq_eq_true h3.1, fun hs => ?_⟩, wdw h4⟩
   have h5 := h3.2
   rw [hs] at h5
   simpa using h5
  next => cases h1
 | other =>
  simp only [wuw, Bool.and_eq_true] at h
  obtain ⟨h1, h2⟩ := h
  split at h1
  next d hd =>
   split at h2
   next i hi =>
    simp only [Bool.and_eq_true] at h2
    obtain ⟨h3, h4⟩ := h2
    split at h4
    next z hz => exact ⟨d, i, z, hd, h1, hi, Nat.eq_of_beq_eq_true h3, hz, Nat.eq_of_beq_eq_true h4⟩
    next => cases h4
   next => cases h2
  next => cases h1
 | no => trivial
theorem wbes {P : Program} {l : List (Nat × TD)} (h : l.all (fun p => wuw P p.1 p.2) = true) : wal P (fun i => match look l i with | some d => d | none => .no) := by
 intro T
 simp only
 split
 next d hd => exact walp (List.all_eq_true.1 h _ (wbs hd))
 next => trivial
end Go.Proofs.Ytnagpmhaddfgmaa
