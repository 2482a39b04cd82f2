/-
  Plain laws: what the laws' own helpers compute: sizes, copies, comparisons.
-/
import Derived.Test.YtlmbhkmaflhagaaC1
import Derived.Test.YtlmbhkmaflhagaaP0
namespace Go.Proofs.Ytlmbhkmaflhagaa

def Fit1 (l : List Int) : Prop := (l.length : Int) < 9223372036854775808
def Fit2 (x : List (List Int)) : Prop := (x.length : Int) < 9223372036854775808 ∧ ∀ r ∈ x, Fit1 r
/-- Of at most this many elements. -/
def Low {α : Type} (l : List α) : Prop := (l.length : Int) ≤ 1048576
def Low1 (l : List Int) : Prop := (l.length : Int) ≤ 1048576
def Low2 (x : List (List Int)) : Prop := (x.length : Int) ≤ 1048576 ∧ ∀ r ∈ x, Low1 r

theorem set_copy {α : Type} {l : List α} {i : Nat} {d : α} (h : i < l.length) (d' : α) : (l.take i ++ List.replicate (l.length - i) d).set i (l.getD i d') = l.take (i + 1) ++ List.replicate (l.length - (i + 1)) d := by
  have hl : (l.take i).length = i := by simp; omega
  rw [List.set_append_right _ _ (by omega), hl, Nat.sub_self, show l.length - i = (l.length - (i + 1)) + 1 by omega, List.replicate_succ, List.set_cons_zero, List.take_succ_eq_append_getElem h,
    List.getD_eq_getElem?_getD, List.getElem?_eq_getElem h, List.append_assoc]
  rfl

theorem foldl_const {α S : Type} (s : S) (l : List α) : l.foldl (fun s _ => s) s = s := by
  induction l with
  | nil => rfl
  | cons _ _ ih => exact ih

/-- A copy, cell by cell, with what is put at each cell. -/
theorem copy_loop {α : Type} {f : Int × List α → Option ((Int × List α) ⊕ List α)} {l : List α} (d : α)
    (hstep : ∀ (i : Nat) (r : List α), i < l.length → r.length = l.length → f ((i : Int), r) = some (.inl (((i + 1 : Nat) : Int), r.set i (l.getD i d))))
    (hend : ∀ r : List α, f ((l.length : Int), r) = some (.inr r)) : iter f (0, List.replicate l.length d) = some l := by
  have := (iter_fold (f := f) (n := l.length) (mk := fun i (_ : Unit) => ((i : Int), l.take i ++ List.replicate (l.length - i) d)) (I := fun _ _ => True) (g := fun s _ => s) (fin := fun _ => l) (s0 := ()) trivial
    (fun i s hi _ => ⟨by
      rw [hstep i _ hi (by simp; omega), set_copy hi], trivial⟩)
    (fun s _ => by rw [hend]; simp)).1
  simpa using this

theorem beqW {a b : Int} : (!(a != b)) = (a == b) := by simp [bne]

theorem all_getD {α : Type} [BEq α] [LawfulBEq α] {a b : List α} {d : α} (h : a.length = b.length) : ((List.range a.length).all fun i => a.getD i d == b.getD i d) = (a == b) := by
  rw [Bool.eq_iff_iff, List.all_eq_true, beq_iff_eq]
  constructor
  · intro h1
    refine List.ext_getElem h fun i hi hi' => ?_
    have := h1 i (List.mem_range.2 hi)
    rw [List.getD_eq_getElem?_getD, List.getD_eq_getElem?_getD, List.getElem?_eq_getElem hi, List.getElem?_eq_getElem hi'] at this
    simpa using this
  · rintro rfl i _
    simp

theorem int_ne (a b : Nat) : (((a : Nat) : Int) != ((b : Nat) : Int)) = !(decide (a = b)) := by
  by_cases h : a = b
  · subst h; simp
  · have : ((a : Nat) : Int) ≠ ((b : Nat) : Int) := by omega
    simp [h, bne, this]
theorem int_eq (a b : Nat) : (((a : Nat) : Int) == ((b : Nat) : Int)) = decide (a = b) := by
  by_cases h : a = b
  · subst h; simp
  · have : ((a : Nat) : Int) ≠ ((b : Nat) : Int) := by omega
    simp [h, this]

/-- A comparison, cell by cell. -/
theorem eq_loop {α : Type} [BEq α] [LawfulBEq α] {f : Int → Option (Int ⊕ (Unit ⊕ Unit))} {a b : List α} (d : α) (hl : a.length = b.length)
    (hstep : ∀ i : Nat, i < a.length → f (i : Int) = some (bif a.getD i d == b.getD i d then .inl ((i + 1 : Nat) : Int) else .inr (.inr ())))
    (hend : f (a.length : Int) = some (.inr (.inl ()))) : iter f 0 = some (bif a == b then .inl () else .inr ()) := by
  have := iter_allR (f := f) (n := a.length) (mk := fun i => (i : Int)) (p := fun i => a.getD i d == b.getD i d) (yes := .inl ()) (no := .inr ()) (fun i hi _ => hstep i hi) hend
  rw [all_getD hl] at this
  exact this

/-- Sizes of elements, one by one. -/
theorem sz_loop {α : Type} {f : Int × Int → Option ((Int × Int) ⊕ (Int ⊕ Unit))} {l : List α} (d : α) (Q : α → Prop) {b : Int} (h0 : 0 ≤ b) (h1 : b ≤ 1048576)
    (hstep : ∀ (i : Nat) (s : Int), i < l.length → 0 ≤ s → s ≤ 1048576 → (∃ s', f (s, (i : Int)) = some (.inl (s', ((i + 1 : Nat) : Int))) ∧ 0 ≤ s' ∧ s' ≤ 1048576 ∧ Q (l.getD i d)) ∨ f (s, (i : Int)) = some (.inr (.inr ())))
    (hend : ∀ s, f (s, (l.length : Int)) = some (.inr (.inl s))) : iter f (b, 0) = some (.inr ()) ∨ ∃ s, iter f (b, 0) = some (.inl s) ∧ 0 ≤ s ∧ s ≤ 1048576 ∧ ∀ x ∈ l, Q x := by
  have := iter_inv (f := f) (n := l.length) (mk := fun i s => (s, (i : Int))) (I := fun i s => 0 ≤ s ∧ s ≤ 1048576 ∧ ∀ j, j < i → Q (l.getD j d)) (Q := fun r => r = .inr () ∨ ∃ s, r = .inl s ∧ 0 ≤ s ∧ s ≤ 1048576 ∧ ∀ x ∈ l, Q x) (s0 := b)
    ⟨h0, h1, fun j hj => absurd hj (Nat.not_lt_zero _)⟩ (fun i s hi hs => by
      rcases hstep i s hi hs.1 hs.2.1 with ⟨s', k1, k2, k3, k4⟩ | k
      · exact .inl ⟨s', k1, k2, k3, fun j hj => by
          by_cases e : j = i
          · rw [e]; exact k4
          · exact hs.2.2 j (by omega)⟩
      · exact .inr ⟨_, k, .inl rfl⟩) (fun s hs => ⟨_, hend s, .inr ⟨s, rfl, hs.1, hs.2.1, fun x hx => by
        obtain ⟨j, hj, e⟩ := List.getElem_of_mem hx
        have := hs.2.2 j hj
        rw [List.getD_eq_getElem?_getD, List.getElem?_eq_getElem hj] at this
        rw [← e]; exact this⟩⟩)
  obtain ⟨r, h2, h3⟩ := this
  rcases h3 with rfl | ⟨s, rfl, h4⟩
  · exact .inl h2
  · exact .inr ⟨s, h2, h4⟩

/-- A size is taken off a number that says how much is left. -/
def Sz (o : Option Int) (Q : Prop) : Prop := ∃ r, o = some r ∧ r ≤ 1048576 ∧ (0 ≤ r → Q)

theorem szIntS_eq {l : List Int} {b : Int} (hl : Fit1 l) (h0 : 0 ≤ b) (h1 : b ≤ 1048576) : F_lw_szIntS l b = some (if b - (l.length : Int) < 0 then -1 else b - (l.length : Int)) := by
  unfold Fit1 at hl
  unfold F_lw_szIntS T_lw_szIntS
  simp (disch := omega) only [EV]
  split <;> rfl
theorem szIntS_sz {l : List Int} {b : Int} (hl : Fit1 l) (h0 : 0 ≤ b) (h1 : b ≤ 1048576) : Sz (F_lw_szIntS l b) (Low1 l) := by
  refine ⟨_, szIntS_eq hl h0 h1, ?_, fun h => ?_⟩
  · split <;> omega
  · unfold Low1
    split at h <;> omega
theorem szIntSS_sz {x : List (List Int)} {b : Int} (hx : Fit2 x) (h0 : 0 ≤ b) (h1 : b ≤ 1048576) : Sz (F_lw_szIntSS x b) (Low2 x) := by
  obtain ⟨hx1, hx2⟩ := hx
  unfold F_lw_szIntSS T_lw_szIntSS
  simp (disch := omega) only [EV]
  by_cases hb : b - (x.length : Int) < 0
  · simp (disch := omega) only [EV, hb]
    exact ⟨_, rfl, by omega, fun h => by omega⟩
  · have := sz_loop (f := fun v => (S_lw_szIntSS_0 x v).ev) (l := x) [] Low1 (b := b - (x.length : Int)) (by omega) (by omega) (fun i s hi k0 k1 => by
      obtain ⟨r, k2, k3, k4⟩ := szIntS_sz (hx2 _ (getD_mem (d := []) hi)) k0 k1
      simp (disch := omega) only [EV, S_lw_szIntSS_0, hi, k2]
      by_cases hr : r < 0
      · right; simp (disch := omega) only [EV, hr]
      · left
        simp (disch := omega) only [EV, hr]
        exact ⟨r, rfl, by omega, by omega, k4 (by omega)⟩) (fun s => by simp (disch := omega) only [EV, S_lw_szIntSS_0, Nat.lt_irrefl])
    rcases this with h | ⟨s, h, k0, k1, k2⟩
    · simp (disch := omega) only [EV, hb, L_lw_szIntSS_0, h]
      exact ⟨_, rfl, by omega, fun h => by omega⟩
    · simp (disch := omega) only [EV, hb, L_lw_szIntSS_0, h]
      exact ⟨_, rfl, by omega, fun _ => ⟨by omega, k2⟩⟩
theorem toIntS_eq {l : List Int} (hl : Low1 l) : F_lw_toIntS l = some l := by
  unfold Low1 at hl
  unfold F_lw_toIntS T_lw_toIntS
  rw [Tr.ev_g, show (decide ((0 : Int) ≤ ((l.length : Nat) : Int)) && decide (((l.length : Nat) : Int) ≤ ((l.length : Nat) : Int)) && decide (((8 : Nat) : Int) * ((l.length : Nat) : Int) ≤ 281474976710656)) = true by simp; omega]
  have := copy_loop (f := fun v => (S_lw_toIntS_0 l v).ev) (l := l) 0 (fun i r hi hr => by simp (disch := omega) only [EV, S_lw_toIntS_0, hr, hi]; rfl) (fun r => by simp (disch := omega) only [EV, S_lw_toIntS_0, Nat.lt_irrefl])
  simp (disch := omega) only [EV, L_lw_toIntS_0, this]
theorem toIntSS_eq {x : List (List Int)} (hx : Low2 x) : F_lw_toIntSS x = some x := by
  obtain ⟨hl, hr⟩ := hx
  unfold F_lw_toIntSS T_lw_toIntSS
  rw [Tr.ev_g, show (decide ((0 : Int) ≤ ((x.length : Nat) : Int)) && decide (((x.length : Nat) : Int) ≤ ((x.length : Nat) : Int)) && decide (((24 : Nat) : Int) * ((x.length : Nat) : Int) ≤ 281474976710656)) = true by simp; omega]
  have := copy_loop (f := fun v => (S_lw_toIntSS_0 x v).ev) (l := x) [] (fun i r hi hr' => by simp (disch := omega) only [EV, S_lw_toIntSS_0, hr', hi, toIntS_eq (hr _ (getD_mem (d := []) hi))]; rfl) (fun r => by simp (disch := omega) only [EV, S_lw_toIntSS_0, Nat.lt_irrefl])
  simp (disch := omega) only [EV, L_lw_toIntSS_0, this]
theorem eqIntS_eq {a b : List Int} (ha : Low1 a) : F_lw_eqIntS a b = some (a == b) := by
  unfold Low1 at ha
  unfold F_lw_eqIntS T_lw_eqIntS
  by_cases h : a.length = b.length
  · have hs := eq_loop (f := fun v => (S_lw_eqIntS_0 (a, b) v).ev) (a := a) (b := b) 0 h (fun i hi => by
      have hi' : i < b.length := by omega
      simp (disch := omega) only [EV, S_lw_eqIntS_0, hi, hi', bne]
      cases (a.getD i 0 == b.getD i 0) <;> rfl) (by simp (disch := omega) only [EV, S_lw_eqIntS_0, Nat.lt_irrefl])
    simp (disch := omega) only [EV, int_ne, h, L_lw_eqIntS_0, hs]
    cases (a == b) <;> rfl
  · have : (a == b) = false := by
      rw [beq_eq_false_iff_ne]
      exact fun e => h (by rw [e])
    simp (disch := omega) only [EV, int_ne, h, this]
theorem eqIntSS_eq {a b : List (List Int)} (ha : Low2 a) : F_lw_eqIntSS a b = some (a == b) := by
  obtain ⟨ha, hr⟩ := ha
  unfold F_lw_eqIntSS T_lw_eqIntSS
  by_cases h : a.length = b.length
  · have hs := eq_loop (f := fun v => (S_lw_eqIntSS_0 (a, b) v).ev) (a := a) (b := b) [] h (fun i hi => by
      have hi' : i < b.length := by omega
      simp (disch := omega) only [EV, S_lw_eqIntSS_0, hi, hi', eqIntS_eq (hr _ (getD_mem (d := []) hi))]
      cases (a.getD i [] == b.getD i []) <;> rfl) (by simp (disch := omega) only [EV, S_lw_eqIntSS_0, Nat.lt_irrefl])
    simp (disch := omega) only [EV, int_ne, h, L_lw_eqIntSS_0, hs]
    cases (a == b) <;> rfl
  · have : (a == b) = false := by
      rw [beq_eq_false_iff_ne]
      exact fun e => h (by rw [e])
    simp (disch := omega) only [EV, int_ne, h, this]
end Go.Proofs.Ytlmbhkmaflhagaa
