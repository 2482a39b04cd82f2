/-
 A types' table is checked.
-/
import Derived.Test.YtnagpmhaddfgmaaGreatB26
namespace Go.Proofs.YtnagpmhaddfgmaaGreat
def whu (P : Program) (T : Nat) (t : Ty) : Bool :=
 match P.info? T with
 | some i => Nat.beq i.size t.size && match i.zero with
  | some z => isZ t z.cells.toList
  | none => false
 | none => false
def wuh (P : Program) (T : Nat) : Ty → Bool
 | .int k => match P.underlying T with
  | some (.int k') => decide (k' = k)
  | _ => false
 | .bool => match P.underlying T with
  | some .bool => true
  | _ => false
 | .str => match P.underlying T with
  | some .string => true
  | _ => false
 | _ => false
def weu (P : Program) : List Go.Field → List (Nat × Ty) → Nat → Bool
 | [], [], _ => true
 | f :: fs, (ty, t) :: ts, o => Nat.beq f.type ty && Nat.beq f.offset o && whu P ty t && weu P fs ts (o + t.size)
 | _, _, _ => false
def wxf (P : Program) (T : Nat) : TD → Bool
 | .sc t => wuh P T t && whu P T t
 | .sl e t b => (match P.underlying T with
   | some (.slice e') => Nat.beq e' e
   | _ => false) && (match P.info? e with
   | some i => Nat.beq i.size t.size && Nat.beq i.bytes b && (match i.zero with
    | some z => isZ t z.cells.toList
    | none => false)
   | none => false) && (match P.info? T with
   | some i => Nat.beq i.size 1 && (match i.zero with
    | some (.slice none 0 0) => true
    | _ => false)
   | none => false)
 | .st t fs => (match P.underlying T with
   | some (.struct fields) => weu P fields.toList fs 0 && (!scFs fs || (!P.eqGuardType P.depth T && !P.stoodInHeld T && fields.toList.all fun f => f.name != "_"))
   | _ => false) && Nat.beq (wwn fs) t.size && whu P T t
 | .ar n e te t => (match P.underlying T with
   | some (.array n' e') => Nat.beq n' n && Nat.beq e' e
   | _ => false) && whu P e te && (Nat.beq (n * te.size) t.size && (!scTy te || !P.eqGuardType P.depth T)) && whu P T t
 | .other => (match P.underlying T with
   | some d => wfw d
   | none => false) && (match P.info? T with
   | some i => Nat.beq i.size 1 && (match i.zero with
    | some z => Nat.beq z.cells.size 1
    | none => false)
   | none => false)
 | .no => true
theorem wev {P : Program} {T : Nat} {t : Ty} (h : whu P T t = true) : wiq P T t := by
 unfold whu at h
 split at h
 next i hi =>
  simp only [Bool.and_eq_true] at h
  obtain ⟨h1, h2⟩ := h
  split at h2
  next z hz => exact ⟨i, z, hi, Nat.eq_of_beq_eq_true h1, hz, h2⟩
  next => cases h2
 next => cases h
theorem waru {P : Program} {T : Nat} {t : Ty} (h : wuh P T t = true) : ∃ d, wwc t = some d ∧ P.underlying T = some d := by
 cases t with
 | int k =>
  simp only [wuh] at h
  split at h
  next k' hk =>
   have : k' = k := by simpa using h
   subst this
   exact ⟨_, rfl, hk⟩
  next => cases h
 | bool =>
  simp only [wuh] at h
  split at h
  next hk => exact ⟨_, rfl, hk⟩
  next => cases h
 | str =>
  simp only [wuh] at h
  split at h
  next hk => exact ⟨_, rfl, hk⟩
  next => cases h
 | slice t => simp [wuh] at h
 | seq g => simp [wuh] at h
 | pair a b => simp [wuh] at h
theorem wky {P : Program} : ∀ {fs : List Go.Field} {ts : List (Nat × Ty)} {o : Nat}, weu P fs ts o = true → wgs P fs ts o
 | [], [], _, _ => trivial
 | f :: fs, (ty, t) :: ts, o, h => by
  simp only [weu, Bool.and_eq_true] at h
  exact ⟨Nat.eq_of_beq_eq_true h.1.1.1, Nat.eq_of_beq_eq_true h.1.1.2, wev h.1.2, wky h.2⟩
 | [], _ :: _, _, h => by simp [weu] at h
 | _ :: _, [], _, h => by simp [weu] at h
theorem warv {P : Program} {T : Nat} {d : TD} (h : wxf P T d = true) : TDok P T d := by
 cases d with
 | sc t =>
  simp only [wxf, Bool.and_eq_true] at h
  obtain ⟨d, h1, h2⟩ := waru h.1
  exact ⟨d, h1, h2, wev h.2⟩
 | sl e t b =>
  simp only [wxf, Bool.and_eq_true] at h
  obtain ⟨⟨h1, h2⟩, h3⟩ := h
  split at h1
  next e' he =>
   split at h2
   next i hi =>
    simp only [Bool.and_eq_true] at h2
    split at h3
    next j hj =>
     simp only [Bool.and_eq_true] at h3
     obtain ⟨h3, h4⟩ := h3
     obtain ⟨⟨h5, h6⟩, h7⟩ := h2
     split at h4
     next hz =>
      split at h7
      next z hz' =>
       exact ⟨by rw [he, Nat.eq_of_beq_eq_true h1], ⟨i, z, hi, Nat.eq_of_beq_eq_true h5, Nat.eq_of_beq_eq_true h6, hz', h7⟩, j, hj, Nat.eq_of_beq_eq_true h3, hz⟩
      next => cases h7
     next => cases h4
    next => cases h3
   next => cases h2
  next => cases h1
 | st t fs =>
  simp only [wxf, Bool.and_eq_true] at h
  obtain ⟨⟨h1, h2⟩, h3⟩ := h
  split at h1
  next fields hf =>
   simp only [Bool.and_eq_true] at h1
   refine ⟨fields, hf, wky h1.1, ⟨Nat.eq_of_beq_eq_true h2, fun hs => ?_⟩, wev h3⟩
   have h4 := h1.2
   rw [hs] at h4
   simp only [Bool.not_true, Bool.false_or, Bool.and_eq_true, Bool.not_eq_true', List.all_eq_true, bne_iff_ne, ne_eq] at h4
   exact ⟨h4.1.1, h4.1.2, h4.2⟩
  next => cases h1
 | ar n e te t =>
  simp only [wxf, Bool.and_eq_true] at h
  obtain ⟨⟨⟨h1, h2⟩, h3⟩, h4⟩ := h
  split at h1
  next n' e' he =>
   simp only [Bool.and_eq_true] at h1
   refine ⟨by rw [he, Nat.eq_of_beq_eq_true h1.1, Nat.eq_of_beq_eq_true h1.2], wev h2, ⟨Nat.eq_of_beq_eq_true h3.1, fun hs => ?_⟩, wev h4⟩
   have h5 := h3.2
   rw [hs] at h5
   simpa using h5
  next => cases h1
 | other =>
  simp only [wxf, Bool.and_eq_true] at h
  obtain ⟨h1, h2⟩ := h
  split at h1
  next d hd =>
   split at h2
   next i hi =>
    simp only [Bool.and_eq_true] at h2
    obtain ⟨h3, h4⟩ := h2
    split at h4
    next z hz => exact ⟨d, i, z, hd, h1, hi, Nat.eq_of_beq_eq_true h3, hz, Nat.eq_of_beq_eq_true h4⟩
    next => cases h4
   next => cases h2
  next => cases h1
 | no => trivial
theorem wbng {P : Program} {l : List (Nat × TD)} (h : l.all (fun p => wxf P p.1 p.2) = true) : wao P (fun i => match look l i with | some d => d | none => .no) := by
 intro T
 simp only
 split
 next d hd => exact warv (List.all_eq_true.1 h _ (wce hd))
 next => trivial
end Go.Proofs.YtnagpmhaddfgmaaGreat
