/-
  What an operation computes hangs on what it looks at alone.
-/
import Derived.Test.YtafcpibodfbjnaaB16
namespace Go.Proofs.Ytafcpibodfbjnaa
open Go.RowKit (Below)

section
variable {P : Program} {tt : Nat → TD} {g g' : Nat → Option Ob} {E : Env} {o : Oper}

theorem map_congr_ops {f f' : Operand → AV} {as : Array Operand} (h : ∀ x ∈ as, f x = f' x) : as.toList.map f = as.toList.map f' :=
  List.map_congr_left fun x hx => h x (by simpa using hx)

theorem aq_congr {f f' : Operand → AV} (h : ∀ x ∈ o.op.operands, f x = f' x) : aq E tt g f o = aq E tt g f' o := by
  have hp : ∀ {ps : Array (Nat × Operand)}, (∀ x ∈ (ps.toList.map (·.2)).toArray, f x = f' x) → (ps.toList.map fun p => (p.1, f p.2)) = (ps.toList.map fun p => (p.1, f' p.2)) := fun {ps} hh =>
    List.map_congr_left fun p hp => by rw [hh p.2 (by simpa using ⟨p.1, by simpa using hp⟩)]
  unfold aq
  split
  case h_1 x _ ho _ => rw [ho] at h; simp only [Op.operands] at h; rw [h x (by simp)]
  case h_2 x _ ho _ => rw [ho] at h; simp only [Op.operands] at h; rw [h x (by simp)]
  case h_3 c a b _ ho _ => rw [ho] at h; simp only [Op.operands] at h; rw [h c (by simp), h a (by simp), h b (by simp)]
  case h_4 op ty x y _ _ ho _ => rw [ho] at h; simp only [Op.operands] at h; rw [h x (by simp), h y (by simp)]
  case h_5 op _ x _ ho _ => rw [ho] at h; simp only [Op.operands] at h; rw [h x (by simp)]
  case h_6 s d x _ ho _ => rw [ho] at h; simp only [Op.operands] at h; rw [h x (by simp)]
  case h_7 e x d ho _ => rw [ho] at h; simp only [Op.operands] at h; rw [h x (by simp)]
  case h_8 => rfl
  case h_9 ty x _ ho _ => rw [ho] at h; simp only [Op.operands] at h; rw [h x (by simp)]
  case h_10 x _ ho _ => rw [ho] at h; simp only [Op.operands] at h; rw [h x (by simp)]
  case h_11 ty x i _ ho _ => rw [ho] at h; simp only [Op.operands] at h; rw [h x (by simp)]
  case h_12 ty x i _ ho _ => rw [ho] at h; simp only [Op.operands] at h; rw [h x (by simp)]
  case h_13 ty x i _ ho _ => rw [ho] at h; simp only [Op.operands] at h; rw [h x (by simp), h i (by simp)]
  case h_14 ty x i _ ho _ => rw [ho] at h; simp only [Op.operands] at h; rw [h x (by simp), h i (by simp)]
  case h_15 x i _ ho _ => rw [ho] at h; simp only [Op.operands] at h; rw [h x (by simp)]
  case h_16 ty x l r _ ho _ =>
    rw [ho] at h; simp only [Op.operands] at h
    have e1 : l.map f = l.map f' := by cases l with | none => rfl | some y => simp only [Option.map_some]; rw [h y (by simp)]
    have e2 : r.map f = r.map f' := by cases r with | none => rfl | some y => simp only [Option.map_some]; rw [h y (by simp)]
    rw [h x (by simp), e1, e2]
  case h_17 ty ps _ ho _ => rw [ho] at h; simp only [Op.operands] at h; rw [hp h]
  case h_18 ty n ps d ho _ => rw [ho] at h; simp only [Op.operands] at h; rw [hp h]
  case h_19 ty l c d ho _ => rw [ho] at h; simp only [Op.operands] at h; rw [h l (by simp), h c (by simp)]
  case h_20 k first caps _ ho _ => rw [ho] at h; simp only [Op.operands] at h; rw [map_congr_ops fun x hx => h x (by simp [hx])]
  case h_21 as ts _ ho _ =>
    rw [ho] at h; simp only [Op.operands, Call.operands] at h
    split
    next x ty has hts =>
      have hx : x ∈ as := by
        have : x ∈ as.toList := by rw [has]; simp
        simpa using this
      rw [h x (by simp [hx])]
    next => rfl
  case h_22 as ts _ ho _ => rw [ho] at h; simp only [Op.operands, Call.operands] at h; rw [map_congr_ops fun x hx => h x (by simp [hx])]
  case h_23 as ts _ ho _ => rw [ho] at h; simp only [Op.operands, Call.operands] at h; rw [map_congr_ops fun x hx => h x (by simp [hx])]
  case h_24 H as ts d ho _ => rw [ho] at h; simp only [Op.operands, Call.operands] at h; rw [h H (by simp), map_congr_ops fun x hx => h x (by simp [hx])]
  case h_25 => rfl

theorem ext0_mono (hg : ∀ o x, g o = some x → g' o = some x) {v : AV} (h : rs0 g v = true) : ext0 g' v = ext0 g v := by
  unfold ext0
  cases v with
  | arr o =>
    simp only [rs0] at h
    obtain ⟨x, hx⟩ := Option.isSome_iff_exists.1 h
    simp only [hx, hg o x hx]
  | fn f caps => cases caps <;> rfl
  | _ => rfl
theorem rs0_mono (hg : ∀ o x, g o = some x → g' o = some x) {v : AV} (h : rs0 g v = true) : rs0 g' v = true := by
  cases v with
  | arr o =>
    simp only [rs0] at h ⊢
    obtain ⟨x, hx⟩ := Option.isSome_iff_exists.1 h
    simp [hg o x hx]
  | _ => rfl
theorem ext1_mono (hg : ∀ o x, g o = some x → g' o = some x) {v : AV} (h : rs1 g v = true) : ext1 g' v = ext1 g v ∧ rs1 g' v = true := by
  cases v with
  | agg cs =>
    simp only [rs1, List.all_eq_true] at h
    simp only [ext1, rs1, AV.agg.injEq, List.all_eq_true]
    exact ⟨List.map_congr_left fun c hc => ext0_mono hg (h c hc), fun c hc => rs0_mono hg (h c hc)⟩
  | _ => simp only [rs1] at h; simp only [ext1, rs1]; exact ⟨ext0_mono hg h, rs0_mono hg h⟩
theorem extC_mono (hg : ∀ o x, g o = some x → g' o = some x) {p : Bool} {v : AV} (h : rsC g v = true) : extC g' p v = extC g p v ∧ rsC g' v = true ∧ capArr g' v = capArr g v := by
  cases v with
  | box o k =>
    simp only [rsC] at h
    split at h
    next cs hcs =>
      simp only [List.all_eq_true] at h
      have e : (cs.map (ext0 g')) = cs.map (ext0 g) := List.map_congr_left fun c hc => ext0_mono hg (h c hc)
      simp only [extC, rsC, capArr, hg o _ hcs, hcs, e, List.all_eq_true]
      exact ⟨trivial, fun c hc => rs0_mono hg (h c hc), trivial⟩
    next => cases h
  | ptr cs =>
    simp only [rsC, List.all_eq_true] at h
    have e : (cs.map (ext0 g')) = cs.map (ext0 g) := List.map_congr_left fun c hc => ext0_mono hg (h c hc)
    simp only [extC, rsC, capArr, e, List.all_eq_true]
    exact ⟨trivial, fun c hc => rs0_mono hg (h c hc), trivial⟩
  | _ => exact ⟨rfl, rfl, rfl⟩
theorem extA_mono (hg : ∀ o x, g o = some x → g' o = some x) {v : AV} (h : rsA g v = true) : extA g' v = extA g v ∧ rsA g' v = true := by
  cases v with
  | fn f caps =>
    simp only [rsA, List.all_eq_true] at h
    simp only [extA, rsA, AV.fn.injEq, true_and, List.all_eq_true]
    exact ⟨List.map_congr_left fun c hc => (extC_mono hg (h c hc)).1, fun c hc => (extC_mono (p := false) hg (h c hc)).2.1⟩
  | _ => simp only [rsA] at h; simp only [extA, rsA]; exact ext1_mono hg h

theorem aload_mono (hg : ∀ o x, g o = some x → g' o = some x) {ty : Nat} {v : AV} {q : QR} (h : (aload tt g ty v).ev = some q) : (aload tt g' ty v).ev = some q := by
  unfold aload at h ⊢
  cases hsz : tySize tt ty with
  | none => rw [hsz] at h; simp only at h; cases h
  | some sz =>
    rw [hsz] at h
    cases v with
    | box o k =>
      simp only at h ⊢
      cases hc : g o with
      | none => rw [hc] at h; cases h
      | some x => rw [hc] at h; rw [hg _ _ hc]; exact h
    | elt o i s =>
      simp only at h ⊢
      cases hc : g o with
      | none => rw [hc] at h; cases h
      | some x => rw [hc] at h; rw [hg _ _ hc]; exact h
    | _ => exact h

theorem aindex_mono (hg : ∀ o x, g o = some x → g' o = some x) {ty : Nat} {v i : AV} {q : QR} (h : (aindex tt g ty v i).ev = some q) : (aindex tt g' ty v i).ev = some q := by
  cases v with
  | arr o =>
    unfold aindex at h ⊢
    cases i with
    | dat t n =>
      cases t with
      | int k =>
        simp only at h ⊢
        cases hc : g o with
        | none => rw [hc] at h; split at h <;> (try cases h); contradiction
        | some x => rw [hc] at h; rw [hg _ _ hc]; exact h
      | _ => exact h
    | _ => exact h
  | dat t v =>
    cases i with
    | dat t' v' => cases t <;> cases t' <;> exact h
    | _ => cases t <;> exact h
  | box o k =>
    cases i with
    | dat t' v' => cases t' <;> exact h
    | _ => exact h
  | ptr cs =>
    cases i with
    | dat t' v' => cases t' <;> exact h
    | _ => exact h
  | _ => exact h

theorem alen_mono (hg : ∀ o x, g o = some x → g' o = some x) {ty : Nat} {v : AV} {q : QR} (h : (alen tt g ty v).ev = some q) : (alen tt g' ty v).ev = some q := by
  cases v with
  | arr o =>
    unfold alen at h ⊢
    simp only at h ⊢
    cases hc : g o with
    | none => rw [hc] at h; split at h <;> (try cases h); contradiction
    | some x => rw [hc] at h; rw [hg _ _ hc]; exact h
  | dat t v => cases t <;> exact h
  | _ => exact h

theorem acall_mono (hg : ∀ o x, g o = some x → g' o = some x) {d : Nat} {H : AV} {as : List AV} {q : QR} (h : (acall E g d H as).ev = some q) : (acall E g' d H as).ev = some q := by
  cases H with
  | fn ff caps =>
    simp only [acall] at h ⊢
    split at h
    next hrs =>
      simp only [Bool.and_eq_true, List.all_eq_true] at hrs
      obtain ⟨h1, h2⟩ := hrs
      have e1 : as.map (extA g') = as.map (extA g) := List.map_congr_left fun v hv => (extA_mono hg (h1 v hv)).1
      have e2 : caps.map (extC g' false) = caps.map (extC g false) := List.map_congr_left fun v hv => (extC_mono hg (h2 v hv)).1
      have e3 : (as.all (rsA g') && caps.all (rsC g')) = true := by
        simp only [Bool.and_eq_true, List.all_eq_true]
        exact ⟨fun v hv => (extA_mono hg (h1 v hv)).2, fun v hv => (extC_mono (p := false) hg (h2 v hv)).2.1⟩
      have e4 : caps.any (capArr g') = caps.any (capArr g) := by
        rw [Bool.eq_iff_iff, List.any_eq_true, List.any_eq_true]
        exact ⟨fun ⟨v, hv, hc⟩ => ⟨v, hv, by rw [← (extC_mono (p := false) hg (h2 v hv)).2.2]; exact hc⟩, fun ⟨v, hv, hc⟩ => ⟨v, hv, by rw [(extC_mono (p := false) hg (h2 v hv)).2.2]; exact hc⟩⟩
      rw [if_pos e3, e1, e2, e4]
      exact h
    next => cases h
  | clo ts' r p =>
    simp only [acall] at h ⊢
    split at h
    next hrs =>
      simp only [List.all_eq_true] at hrs
      have e1 : as.map (ext1 g') = as.map (ext1 g) := List.map_congr_left fun v hv => (ext1_mono hg (hrs v hv)).1
      have e3 : as.all (rs1 g') = true := by
        simp only [List.all_eq_true]
        exact fun v hv => (ext1_mono hg (hrs v hv)).2
      rw [if_pos e3, e1]
      exact h
    next => cases h
  | _ => exact h

theorem aq_mono (hg : ∀ o x, g o = some x → g' o = some x) {f : Operand → AV} {q : QR} (h : (aq E tt g f o).ev = some q) : (aq E tt g' f o).ev = some q := by
  unfold aq at h ⊢
  split at h <;> try exact h
  · exact aload_mono hg h
  · exact aindex_mono hg h
  · split at h
    · exact alen_mono hg h
    · exact h
  · exact acall_mono hg h
end
end Go.Proofs.Ytafcpibodfbjnaa
