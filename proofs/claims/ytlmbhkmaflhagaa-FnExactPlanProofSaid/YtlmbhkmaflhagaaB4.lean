/-
  Operations on plain values: what the model computes is what the evaluator computes.
-/
import Derived.Test.YtlmbhkmaflhagaaB3
namespace Go.Proofs.Ytlmbhkmaflhagaa
open Go.RowKit (Below)

section
variable {P : Program} {tt : Nat → TD} {w : World} {lo : Nat → Prop} {μ : Nat → Option MV} {S : Nat → Prop}

theorem RelV.int {k : IntKind} {n : Int} {x : Value} (h : RelV P w lo μ S (.dat (.int k) n) x) : x = .int k n := by
  cases h with
  | dat _ h => simpa [Rep] using h
theorem RelV.bool {b : Bool} {x : Value} (h : RelV P w lo μ S (.dat .bool b) x) : x = .bool b := by
  cases h with
  | dat _ h => simpa [Rep] using h
theorem RelV.str {s : List UInt8} {x : Value} (h : RelV P w lo μ S (.dat .str s) x) : x = .string ⟨s.toArray⟩ := by
  cases h with
  | dat _ h => simpa [Rep] using h
theorem RelV.slice {t : Ty} {l : List t.I} {x : Value} (h : RelV P w lo μ S (.dat (.slice t) l) x) : ∃ a cap, x = .slice a l.length cap ∧ Rep S w (.slice t) l [x] := by
  cases h with
  | dat _ h =>
    have h0 := h
    simp only [Rep] at h
    obtain ⟨a, cap, e, _⟩ := h
    simp only [List.cons.injEq, and_true] at e
    exact ⟨a, cap, e, h0⟩
theorem rel_int (k : IntKind) (n : Int) : RelV P w lo μ S (.dat (.int k) n) (.int k n) := .dat rfl rfl
theorem rel_bool (b : Bool) : RelV P w lo μ S (.dat .bool b) (.bool b) := .dat rfl rfl
theorem rel_str (s : List UInt8) : RelV P w lo μ S (.dat .str s) (.string ⟨s.toArray⟩) := .dat rfl rfl

theorem str_size (s : List UInt8) : ByteArray.size ⟨s.toArray⟩ = s.length := by simp [ByteArray.size]
theorem str_append (a b : List UInt8) : (⟨a.toArray⟩ ++ ⟨b.toArray⟩ : ByteArray) = ⟨(a ++ b).toArray⟩ := by
  apply ByteArray.ext
  simp
theorem str_toList (s : List UInt8) : ByteArray.toList ⟨s.toArray⟩ = s := by
  rw [ByteArray.toList_eq]
theorem str_extract (s : List UInt8) (i j : Nat) (hj : j ≤ s.length) : ByteArray.extract ⟨s.toArray⟩ i j = ⟨((s.take j).drop i).toArray⟩ := by
  apply ByteArray.ext
  simp [ByteArray.data_extract, List.take_drop]
  have : i + (j - i) = max i j := by omega
  rw [this]
  by_cases h : i ≤ j
  · rw [show max i j = j by omega]
  · rw [List.drop_eq_nil_of_le (by simp; omega), List.drop_eq_nil_of_le (by simp; omega)]

theorem ev_bq {b : Bool} {q : QR} (h : (bq b).ev = some q) : q = (.dat .bool b, []) := by simpa [bq] using h.symm
theorem ev_iq {k : IntKind} {n : Int} {q : QR} (h : (iq k n).ev = some q) : q = (.dat (.int k) n, []) := by simpa [iq] using h.symm
theorem ev_vq {v : AV} {q : QR} (h : (vq v).ev = some q) : q = (v, []) := by simpa [vq] using h.symm
theorem ev_g {L : Type} {b : Bool} {x : Tr L} {q : L} (h : (Tr.g b x).ev = some q) : b = true ∧ x.ev = some q := by
  cases b
  · simp at h
  · simpa using h

theorem bin_xor {t : TypeId} {k : IntKind} {a b : Int} : binOp .xor t (.int k a) (.int k b) = Op.intBits .xor k a b := by simp [binOp]

theorem bin_str {op : BinOp} {t : TypeId} {a b : ByteArray} : binOp op t (.string a) (.string b) = Op.stringOp op a b := by cases op <;> rfl

theorem run_equal_bool {ty : Nat} (h : P.underlying ty = some .bool) (a b : Bool) : (Op.equal ty (.bool a) (.bool b)).run P w = .ok (a == b) w := by
  have : ∀ d, (Op.equalIn (d + 1) ty (.bool a) (.bool b)).run P w = .ok (a == b) w := fun d => by
    rw [Op.equalIn.eq_def]
    simp [run_underlying h]
  exact this 9999

theorem abin_ok (hT : TabOK P tt) {op : BinOp} {ty : Nat} {x y : AV} {q : QR} (h : (abin tt op ty x y).ev = some q) {vx vy : Value} (hx : RelV P w lo μ S x vx) (hy : RelV P w lo μ S y vy) (X Y : Operand) :
    q.2 = [] ∧ ∃ v, (do eqGuard op ty X Y vx vy; binOp op ty vx vy : Sem Value).run P w = .ok v w ∧ RelV P w lo μ S q.1 v := by
  unfold abin at h
  split at h
  · have e1 := hx.int
    have e2 := hy.int
    subst e1; subst e2
    rename_i k a k' b
    cases op
    case shl =>
      obtain ⟨h0, h⟩ := ev_g h
      have := ev_iq h; subst this
      refine ⟨rfl, _, ?_, rel_int _ _⟩
      have h0' : ¬ (b < 0) := by simpa using h0
      simp only [eqGuard_at_int, binOp_shl, Op.shift, h0', if_false, Sem.run_bind, Sem.run_pure, Result.andThen_ok]
    case shr =>
      obtain ⟨h0, h⟩ := ev_g h
      have := ev_iq h; subst this
      refine ⟨rfl, _, ?_, rel_int _ _⟩
      have h0' : ¬ (b < 0) := by simpa using h0
      simp only [eqGuard_at_int, binOp_shr, Op.shift, h0', if_false, Sem.run_bind, Sem.run_pure, Result.andThen_ok]
    all_goals
      simp only [] at h
      split at h
      next hk =>
        subst hk
        first
          | (have := ev_iq h; subst this; exact ⟨rfl, _, by simp only [eqGuard_at_int, binOp_add, binOp_sub, binOp_mul, binOp_and, binOp_or, binOp_andNot, bin_xor, Op.intArith, Op.intBits, Sem.run_bind, Sem.run_pure, Result.andThen_ok], rel_int _ _⟩)
          | (have := ev_bq h; subst this; exact ⟨rfl, _, by simp only [eqGuard_at_int, binOp_eql, binOp_neq, binOp_lss, binOp_leq, binOp_gtr, binOp_geq, Sem.run_bind, Sem.run_pure, Result.andThen_ok], rel_bool _⟩)
          | (obtain ⟨h0, h⟩ := ev_g h
             have := ev_iq h; subst this
             have h0' : ¬ (b = 0) := by simpa using h0
             exact ⟨rfl, _, by simp only [eqGuard_at_int, binOp_quo, binOp_rem, Op.intDiv, h0', if_false, Sem.run_bind, Sem.run_pure, Result.andThen_ok], rel_int _ _⟩)
          | (simp at h)
      next => simp at h
  · have e1 := hx.bool
    have e2 := hy.bool
    subst e1; subst e2
    split at h
    next hq =>
      have hd := hT ty
      rw [hq] at hd
      obtain ⟨d, hd1, hd2, _⟩ := hd
      simp only [scOf, Option.some.injEq] at hd1
      subst hd1
      cases op
      case eql => have := ev_bq h; subst this; exact ⟨rfl, _, by simp [eqGuard_at_bool, show ∀ x y, binOp .eql ty (.bool x) (.bool y) = (do pure (.bool ((← Op.equal ty (.bool x) (.bool y))))) from fun _ _ => rfl, run_equal_bool hd2], rel_bool _⟩
      case neq => have := ev_bq h; subst this; exact ⟨rfl, _, by simp [eqGuard_at_bool, show ∀ x y, binOp .neq ty (.bool x) (.bool y) = (do pure (.bool (!(← Op.equal ty (.bool x) (.bool y))))) from fun _ _ => rfl, run_equal_bool hd2], rel_bool _⟩
      all_goals simp at h
    next => simp at h
  · have e1 := hx.str
    have e2 := hy.str
    subst e1; subst e2
    rename_i a b
    cases op
    case add =>
      obtain ⟨h0, h⟩ := ev_g h
      have := ev_vq h; subst this
      refine ⟨rfl, _, ?_, rel_str _⟩
      have h0' : ¬ ((9223372036854775807 : Int) < (List.length (α := UInt8) a : Int) + (List.length (α := UInt8) b : Int)) := by simp at h0; omega
      simp [eqGuard_at_string, bin_str, Op.stringOp, str_size, str_append, h0']
    all_goals
      first
        | (have := ev_bq h; subst this; exact ⟨rfl, _, by simp only [eqGuard_at_string, bin_str, Op.stringOp, str_toList, sless, Sem.run_bind, Sem.run_pure, Result.andThen_ok], rel_bool _⟩)
        | (simp at h)
  · simp at h
end
end Go.Proofs.Ytlmbhkmaflhagaa
