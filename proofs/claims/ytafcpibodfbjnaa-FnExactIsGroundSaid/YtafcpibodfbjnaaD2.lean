/-
  Plain laws: FnExactIsGround.
-/
import Derived.Test.YtafcpibodfbjnaaD1
namespace Go.Proofs.Ytafcpibodfbjnaa

theorem all_getD {α : Type} [BEq α] [LawfulBEq α] {a b : List α} {d : α} (h : a.length = b.length) : ((List.range a.length).all fun i => a.getD i d == b.getD i d) = (a == b) := by
  rw [Bool.eq_iff_iff, List.all_eq_true, beq_iff_eq]
  constructor
  · intro h1
    refine List.ext_getElem h fun i hi hi' => ?_
    have := h1 i (List.mem_range.2 hi)
    rw [List.getD_eq_getElem?_getD, List.getD_eq_getElem?_getD, List.getElem?_eq_getElem hi, List.getElem?_eq_getElem hi'] at this
    simpa using this
  · rintro rfl i _
    simp

theorem int_ne (a b : Nat) : (((a : Nat) : Int) != ((b : Nat) : Int)) = !(decide (a = b)) := by
  by_cases h : a = b
  · subst h; simp
  · have : ((a : Nat) : Int) ≠ ((b : Nat) : Int) := by omega
    simp [h, bne, this]

theorem eqIntS_eq {a b : List Int} (ha : Low1 a) : F_lw_eqIntS a b = some (a == b) := by
  unfold Low1 at ha
  unfold F_lw_eqIntS T_lw_eqIntS
  simp only [Tr.ev_t, Tr.ev_l, Tr.ev_c, int_ne]
  by_cases h : a.length = b.length
  · have hs : L_lw_eqIntS_0 (a, b) 0 = _ := iter_all (f := fun v => (S_lw_eqIntS_0 (a, b) v).ev) (n := a.length) (p := fun i => a.getD i 0 == b.getD i 0) (by omega) (fun i hi _ => by
      unfold S_lw_eqIntS_0
      simp only [Tr.ev_t, Tr.ev_l, Tr.ev_g, Bool.cond_decide, toNat_nat]
      rw [if_pos (by omega), inR_nat hi, inR_nat (by omega)]
      simp only [cond_true, bne]
      cases (a.getD i 0 == b.getD i 0) <;> rfl) (by
      unfold S_lw_eqIntS_0
      simp)
    rw [hs, all_getD h]
    simp only [h, decide_true, Bool.not_true, cond_false, Option.bind_some]
    cases (a == b) <;> rfl
  · have : (a == b) = false := by
      rw [beq_eq_false_iff_ne]
      exact fun e => h (by rw [e])
    rw [this]
    simp [h]

theorem eqIntSS_eq {a b : List (List Int)} (ha : Low2 a) : F_lw_eqIntSS a b = some (a == b) := by
  obtain ⟨ha, hr⟩ := ha
  unfold F_lw_eqIntSS T_lw_eqIntSS
  simp only [Tr.ev_t, Tr.ev_l, Tr.ev_c, int_ne]
  by_cases h : a.length = b.length
  · have hs : L_lw_eqIntSS_0 (a, b) 0 = _ := iter_all (f := fun v => (S_lw_eqIntSS_0 (a, b) v).ev) (n := a.length) (p := fun i => a.getD i [] == b.getD i []) (by omega) (fun i hi _ => by
      unfold S_lw_eqIntSS_0
      simp only [Tr.ev_t, Tr.ev_l, Tr.ev_g, Tr.ev_c, Bool.cond_decide, toNat_nat]
      rw [if_pos (by omega), inR_nat hi, inR_nat (by omega), eqIntS_eq (hr _ (getD_mem hi))]
      simp only [cond_true, Option.bind_some]
      cases (a.getD i [] == b.getD i []) <;> rfl) (by
      unfold S_lw_eqIntSS_0
      simp)
    rw [hs, all_getD h]
    simp only [h, decide_true, Bool.not_true, cond_false, Option.bind_some]
    cases (a == b) <;> rfl
  · have : (a == b) = false := by
      rw [beq_eq_false_iff_ne]
      exact fun e => h (by rw [e])
    rw [this]
    simp [h]

/-- Is n between a and b? -/
theorem l1In_eq (n a b : Int) : F_sp_l1In n a b = some (decide (a ≤ n) && decide (n ≤ b)) := by
  unfold F_sp_l1In T_sp_l1In
  simp only [Tr.ev_t, Tr.ev_l]
  cases decide (a ≤ n) <;> rfl
theorem between_eq (n a b : Int) : F_im_between n a b = some (decide (a ≤ n) && decide (n ≤ b)) := by
  unfold F_im_between T_im_between
  simp only [Tr.ev_t, Tr.ev_l]
  cases decide (a ≤ n) <;> rfl

/-- All numbers of the row are between a and b. -/
def allIn (l : List Int) (a b : Int) : Bool := (List.range l.length).all fun i => decide (a ≤ l.getD i 0) && decide (l.getD i 0 ≤ b)

theorem l2Row_eq {l : List Int} (hl : Low1 l) (n b : Int) : F_sp_l2Row l n b = some (allIn l 0 b && ((l.length : Int) == n)) := by
  unfold Low1 at hl
  unfold F_sp_l2Row T_sp_l2Row
  have hs : L_sp_l2Row_0 (l, (n, b)) 0 = _ := iter_all (f := fun v => (S_sp_l2Row_0 (l, (n, b)) v).ev) (n := l.length) (p := fun i => decide (0 ≤ l.getD i 0) && decide (l.getD i 0 ≤ b)) (by omega) (fun i hi _ => by
    unfold S_sp_l2Row_0
    simp only [Tr.ev_t, Tr.ev_l, Tr.ev_g, Tr.ev_c, Bool.cond_decide, toNat_nat]
    rw [if_pos (by omega), inR_nat hi, l1In_eq]
    simp only [cond_true, Option.bind_some]
    cases (decide (0 ≤ l.getD i 0) && decide (l.getD i 0 ≤ b)) <;> rfl) (by
    unfold S_sp_l2Row_0
    simp)
  simp only [Tr.ev_c, Tr.ev_l]
  rw [hs]
  unfold allIn
  simp only [Option.bind_some]
  cases (List.range l.length).all fun i => decide (0 ≤ l.getD i 0) && decide (l.getD i 0 ≤ b) <;> rfl
end Go.Proofs.Ytafcpibodfbjnaa
