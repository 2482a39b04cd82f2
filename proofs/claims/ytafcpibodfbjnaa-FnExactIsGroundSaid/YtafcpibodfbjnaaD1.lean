/-
  Plain laws: FnExactIsGround.
-/
import Derived.Test.YtafcpibodfbjnaaC1
import Derived.Test.YtafcpibodfbjnaaB28
namespace Go.Proofs.Ytafcpibodfbjnaa

def Fit1 (l : List Int) : Prop := (l.length : Int) < 9223372036854775808
def Fit2 (x : List (List Int)) : Prop := (x.length : Int) < 9223372036854775808 ∧ ∀ r ∈ x, Fit1 r
/-- Of at most this many elements. -/
def Low1 (l : List Int) : Prop := (l.length : Int) ≤ 1048576
def Low2 (x : List (List Int)) : Prop := (x.length : Int) ≤ 1048576 ∧ ∀ r ∈ x, Low1 r

theorem getD_mem {α : Type} {l : List α} {i : Nat} {d : α} (h : i < l.length) : l.getD i d ∈ l := by
  rw [List.getD_eq_getElem?_getD, List.getElem?_eq_getElem h]
  exact List.getElem_mem h

theorem set_copy {α : Type} {l : List α} {i : Nat} {d : α} (h : i < l.length) (d' : α) : (l.take i ++ List.replicate (l.length - i) d).set i (l.getD i d') = l.take (i + 1) ++ List.replicate (l.length - (i + 1)) d := by
  have hl : (l.take i).length = i := by simp; omega
  rw [List.set_append_right _ _ (by omega), hl, Nat.sub_self, show l.length - i = (l.length - (i + 1)) + 1 by omega, List.replicate_succ, List.set_cons_zero, List.take_succ_eq_append_getElem h,
    List.getD_eq_getElem?_getD, List.getElem?_eq_getElem h, List.append_assoc]
  rfl

theorem szIntS_eq {l : List Int} {b : Int} (hl : Fit1 l) (h0 : 0 ≤ b) (h1 : b ≤ 1048576) : F_lw_szIntS l b = some (if b - (l.length : Int) < 0 then -1 else b - (l.length : Int)) := by
  unfold Fit1 at hl
  unfold F_lw_szIntS T_lw_szIntS
  rw [wrap64 (by omega) (by omega)]
  simp only [Tr.ev_t, Tr.ev_l, Bool.cond_decide]
  split <;> rfl

theorem szIntSS_eq {x : List (List Int)} (hx : Fit2 x) : ∃ r, F_lw_szIntSS x 1048576 = some r ∧ (0 ≤ r → Low2 x ∧ r ≤ 1048576) := by
  obtain ⟨hx1, hx2⟩ := hx
  unfold F_lw_szIntSS T_lw_szIntSS
  rw [wrap64 (by omega) (by omega)]
  simp only [Tr.ev_t, Tr.ev_l, Bool.cond_decide]
  split
  · exact ⟨_, rfl, fun h => by simp at h⟩
  · rename_i hb
    simp only [Tr.ev_c]
    obtain ⟨r, hr, hq⟩ := iter_rule (f := fun v => (S_lw_szIntSS_0 x v).ev) (I := fun v => ∃ i : Nat, v.2 = (i : Int) ∧ i ≤ x.length ∧ 0 ≤ v.1 ∧ v.1 ≤ 1048576 ∧ ∀ j, j < i → Low1 (x.getD j []))
      (m := fun v => x.length - v.2.toNat) (Q := fun | .inl s => 0 ≤ s ∧ s ≤ 1048576 ∧ ∀ j, j < x.length → Low1 (x.getD j []) | .inr _ => True) (v := (1048576 - (x.length : Int), 0)) (fun v hv => by
        obtain ⟨i, h1, h2, h3, h4, h5⟩ := hv
        obtain ⟨s, c⟩ := v
        simp only at h1 h3 h4
        subst h1
        unfold S_lw_szIntSS_0
        simp only [Tr.ev_t, Tr.ev_l, Tr.ev_g, Tr.ev_c, Bool.cond_decide]
        by_cases hi : i < x.length
        · rw [if_pos (by omega), inR_nat hi, toNat_nat, szIntS_eq (hx2 _ (getD_mem hi)) h3 h4]
          simp only [cond_true, Option.bind_some]
          by_cases hs : s - ((x.getD i []).length : Int) < 0
          · rw [if_pos hs]
            simp
          · rw [if_neg hs, if_neg hs]
            simp only
            rw [wrap64 (by omega) (by omega)]
            refine ⟨⟨i + 1, by simp, hi, by omega, by omega, fun j hj => ?_⟩, by omega⟩
            by_cases e : j = i
            · subst e; unfold Low1; omega
            · exact h5 j (by omega)
        · rw [if_neg (by omega)]
          exact ⟨h3, h4, fun j hj => h5 j (by omega)⟩) ⟨0, rfl, Nat.zero_le _, by omega, by omega, fun j hj => absurd hj (Nat.not_lt_zero _)⟩
    unfold L_lw_szIntSS_0
    rw [hr]
    cases r with
    | inl s => exact ⟨s, rfl, fun _ => ⟨⟨by omega, fun r hm => by
        obtain ⟨j, hj, e⟩ := List.getElem_of_mem hm
        have := hq.2.2 j hj
        rw [List.getD_eq_getElem?_getD, List.getElem?_eq_getElem hj] at this
        rw [← e]; exact this⟩, hq.2.1⟩⟩
    | inr u => exact ⟨_, rfl, fun h => by simp at h⟩

theorem toIntS_eq {l : List Int} (hl : Low1 l) : F_lw_toIntS l = some l := by
  unfold Low1 at hl
  unfold F_lw_toIntS T_lw_toIntS
  simp only [Tr.ev_g, Tr.ev_c, Tr.ev_l]
  rw [show (decide ((0 : Int) ≤ ((l.length : Nat) : Int)) && decide (((l.length : Nat) : Int) ≤ ((l.length : Nat) : Int)) && decide (((8 : Nat) : Int) * ((l.length : Nat) : Int) ≤ 281474976710656)) = true by simp; omega]
  simp only [cond_true]
  unfold L_lw_toIntS_0
  have h := iter_forN (f := fun v => (S_lw_toIntS_0 l v).ev) (mk := fun i (_ : Unit) => ((i : Int), l.take i ++ List.replicate (l.length - i) (0 : Int))) (n := l.length) (g := fun _ _ => some (.inl ())) (fin := fun _ => l)
    (fun i s hi => by
      unfold S_lw_toIntS_0
      have hlen : (l.take i ++ List.replicate (l.length - i) (0 : Int)).length = l.length := by simp; omega
      simp only [Tr.ev_t, Tr.ev_l, Tr.ev_g, Bool.cond_decide, hlen, toNat_nat]
      rw [if_pos (by omega), inR_nat hi]
      simp only [cond_true]
      rw [if_pos hi, set_copy hi, wrap64 (by omega) (by omega)]
      rfl)
    (fun s => by
      unfold S_lw_toIntS_0
      simp) l.length 0 () (by omega)
  have hf : ∀ k i, forN (S := Unit) (R := List Int) (fun _ _ => some (.inl ())) (fun _ => l) k i () = some l := by
    intro k
    induction k with
    | zero => intro i; rfl
    | succ k ih => intro i; exact ih (i + 1)
  rw [hf] at h
  simp only [List.take_zero, List.nil_append, Nat.sub_zero] at h
  rw [show ((0 : Nat) : Int) = 0 from rfl] at h
  rw [toNat_nat, h]
  rfl

theorem toIntSS_eq {x : List (List Int)} (hx : Low2 x) : F_lw_toIntSS x = some x := by
  obtain ⟨hl, hr⟩ := hx
  unfold F_lw_toIntSS T_lw_toIntSS
  simp only [Tr.ev_g, Tr.ev_c, Tr.ev_l]
  rw [show (decide ((0 : Int) ≤ ((x.length : Nat) : Int)) && decide (((x.length : Nat) : Int) ≤ ((x.length : Nat) : Int)) && decide (((24 : Nat) : Int) * ((x.length : Nat) : Int) ≤ 281474976710656)) = true by simp; omega]
  simp only [cond_true]
  unfold L_lw_toIntSS_0
  have h := iter_forN (f := fun v => (S_lw_toIntSS_0 x v).ev) (mk := fun i (_ : Unit) => ((i : Int), x.take i ++ List.replicate (x.length - i) ([] : List Int))) (n := x.length) (g := fun _ _ => some (.inl ())) (fin := fun _ => x)
    (fun i s hi => by
      unfold S_lw_toIntSS_0
      have hlen : (x.take i ++ List.replicate (x.length - i) ([] : List Int)).length = x.length := by simp; omega
      simp only [Tr.ev_t, Tr.ev_l, Tr.ev_g, Tr.ev_c, Bool.cond_decide, hlen, toNat_nat]
      rw [if_pos (by omega), inR_nat hi, toIntS_eq (hr _ (getD_mem hi))]
      simp only [cond_true, Option.bind_some]
      rw [if_pos hi, set_copy hi, wrap64 (by omega) (by omega)]
      rfl)
    (fun s => by
      unfold S_lw_toIntSS_0
      simp) x.length 0 () (by omega)
  have hf : ∀ k i, forN (S := Unit) (R := List (List Int)) (fun _ _ => some (.inl ())) (fun _ => x) k i () = some x := by
    intro k
    induction k with
    | zero => intro i; rfl
    | succ k ih => intro i; exact ih (i + 1)
  rw [hf] at h
  simp only [List.take_zero, List.nil_append, Nat.sub_zero] at h
  rw [show ((0 : Nat) : Int) = 0 from rfl] at h
  rw [toNat_nat, h]
  rfl
end Go.Proofs.Ytafcpibodfbjnaa
