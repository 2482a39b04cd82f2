/-
  The law of a log's records.
-/
import Derived.Test.YtakbhfnndcnopaaDoorP14
import Derived.Test.YtakbhfnndcnopaaDoorP7
namespace Go.Proofs.YtakbhfnndcnopaaDoor

theorem fitS {s : List UInt8} (h : Fit .str s) : (s.length : Int) < 9223372036854775808 := maxLen_lt h
theorem setD {α : Type} (l : List α) {i : Nat} (hi : i < l.length) (j : Nat) (v d : α) : (l.set i v).getD j d = if i = j then v else l.getD j d := by
  rw [List.getD_eq_getElem?_getD, List.getD_eq_getElem?_getD, List.getElem?_set]
  by_cases h : i = j
  · subst h; simp [hi]
  · simp [h]

theorem markText_some {k : Int} (h0 : 0 ≤ k) (h1 : k ≤ 1000000) : ∃ s, F_lw_markText k = some s := by
  unfold F_lw_markText T_lw_markText
  by_cases hk : k ≤ 0
  · simp (disch := omega) only [EV, hk]
    exact ⟨_, rfl⟩
  · obtain ⟨r, hr, hq⟩ := iter_rule (f := fun v => (S_lw_markText_0 () v).ev) (fun v => 0 ≤ v.1 ∧ (v.2.length : Int) + v.1 ≤ 1000000) (fun v => v.1.toNat) (fun r => (r.length : Int) ≤ 1000000) (fun v hv => by
      obtain ⟨k, out⟩ := v
      obtain ⟨a, b⟩ := hv
      simp only at a b
      by_cases hp : 0 < k
      · have e1 : Int.tdiv k 10 = k / 10 := Int.tdiv_eq_ediv_of_nonneg (by omega)
        have e2 : Int.tmod k 10 = k % 10 := Int.tmod_eq_emod_of_nonneg (by omega)
        have ez : decide ((10 : Int) = 0) = false := rfl
        have hl : ∀ n : Int, List.length (bytesOf ([n] : List Int)) = 1 := fun _ => rfl
        have g1 : 1 + out.length ≤ 9223372036854775807 := by omega
        have hs : (S_lw_markText_0 () (k, out)).ev = some (.inl (k / 10, bytesOf ([(IntKind.wrap .u8 (48 + k % 10))] : List Int) ++ out)) := by
          simp (disch := omega) only [EV, S_lw_markText_0, hp, e1, e2, ez, hl, g1]
        rw [hs]
        simp only [List.length_append, hl]
        omega
      · have hs : (S_lw_markText_0 () (k, out)).ev = some (.inr out) := by simp (disch := omega) only [EV, S_lw_markText_0, hp]
        rw [hs]
        simp only
        omega) (v := (k, ([] : List UInt8))) ⟨h0, by simpa using h1⟩
    have hr' : L_lw_markText_0 () (k, ([] : List UInt8)) = some r := hr
    have g1 : List.length ([109] : List UInt8) + r.length ≤ 9223372036854775807 := by simp only [List.length_cons, List.length_nil]; omega
    simp (disch := omega) only [EV, hk, hr', g1]
    exact ⟨_, rfl⟩
noncomputable def mtx (k : Int) : List UInt8 := (F_lw_markText k).getD []
theorem markText_eq {k : Int} (h0 : 0 ≤ k) (h1 : k ≤ 1000000) : F_lw_markText k = some (mtx k) := by
  obtain ⟨s, h⟩ := markText_some h0 h1
  unfold mtx
  rw [h]
  rfl
abbrev d2 : List UInt8 × List UInt8 := ([], [])
theorem markRecs {l : List (List UInt8 × List UInt8)} (hl : l.length ≤ 1000) : ∃ m, F_lw_markLogRecordS 1 l = some (1 + 2 * (l.length : Int), m) ∧ m.length = l.length ∧ ∀ j, j < l.length → m.getD j d2 = (mtx (1 + 2 * (j : Int)), mtx (2 + 2 * (j : Int))) := by
  obtain ⟨r, h1, h2⟩ := iter_inv (f := fun v => (S_lw_markLogRecordS_0 () v).ev) (n := l.length) (fun i (m : List (List UInt8 × List UInt8)) => ((1 + 2 * (i : Int)), ((i : Int), m))) (fun i m => m.length = l.length ∧ ∀ j, j < i → m.getD j d2 = (mtx (1 + 2 * (j : Int)), mtx (2 + 2 * (j : Int))))
    (fun r => r.1 = 1 + 2 * (l.length : Int) ∧ r.2.length = l.length ∧ ∀ j, j < l.length → r.2.getD j d2 = (mtx (1 + 2 * (j : Int)), mtx (2 + 2 * (j : Int)))) (s0 := l) ⟨rfl, fun j h => absurd h (by omega)⟩
    (fun i m hi ⟨a, b⟩ => by
      left
      have him : i < m.length := by omega
      have e1 := markText_eq (k := 1 + 2 * (i : Int)) (by omega) (by omega)
      have e2 := markText_eq (k := 2 + 2 * (i : Int)) (by omega) (by omega)
      have e3 : (1 + 2 * (i : Int)) + 1 = 2 + 2 * (i : Int) := by omega
      have e4 : (2 + 2 * (i : Int)) + 1 = 1 + 2 * ((i + 1 : Nat) : Int) := by omega
      refine ⟨(m.set i (mtx (1 + 2 * (i : Int)), (m.getD i d2).2)).set i (((m.set i (mtx (1 + 2 * (i : Int)), (m.getD i d2).2)).getD i d2).1, mtx (2 + 2 * (i : Int))), ?_, by simp [a], fun j hj => ?_⟩
      · have hl2 : (m.set i (mtx (1 + 2 * (i : Int)), (m.getD i d2).2)).length = m.length := by simp
        simp (disch := omega) only [EV, S_lw_markLogRecordS_0, him, e1, e2, e3, e4, hl2]
        rfl
      · rw [setD _ (by simpa using him)]
        by_cases hij : i = j
        · subst hij
          rw [if_pos rfl, setD _ him, if_pos rfl]
        · rw [if_neg hij, setD _ him, if_neg hij]
          exact b j (by omega))
    (fun m ⟨a, b⟩ => ⟨(1 + 2 * (l.length : Int), m), by simp (disch := omega) only [EV, S_lw_markLogRecordS_0, a, Nat.lt_irrefl], rfl, a, b⟩)
  obtain ⟨k, m⟩ := r
  obtain ⟨rfl, h3, h4⟩ := h2
  have h1' : L_lw_markLogRecordS_0 () ((1 : Int), ((0 : Int), l)) = some (1 + 2 * (l.length : Int), m) := h1
  refine ⟨m, ?_, h3, h4⟩
  unfold F_lw_markLogRecordS T_lw_markLogRecordS
  simp (disch := omega) only [EV, h1']
theorem heldRecs {m : List (List UInt8 × List UInt8)} (hl : m.length ≤ 1000) (h : ∀ j, j < m.length → m.getD j d2 = (mtx (1 + 2 * (j : Int)), mtx (2 + 2 * (j : Int)))) : F_lw_heldLogRecordS m 1 = some (1 + 2 * (m.length : Int)) := by
  obtain ⟨r, h1, h2⟩ := iter_inv (f := fun v => (S_lw_heldLogRecordS_0 m v).ev) (n := m.length) (fun i (_ : Unit) => ((1 + 2 * (i : Int)), (i : Int))) (fun _ _ => True) (fun r => r = .inl (1 + 2 * (m.length : Int))) (s0 := ()) trivial
    (fun i _ hi _ => by
      left
      have e1 := markText_eq (k := 1 + 2 * (i : Int)) (by omega) (by omega)
      have e2 := markText_eq (k := 2 + 2 * (i : Int)) (by omega) (by omega)
      have e3 : (1 + 2 * (i : Int)) + 1 = 2 + 2 * (i : Int) := by omega
      have e4 : (2 + 2 * (i : Int)) + 1 = 1 + 2 * ((i + 1 : Nat) : Int) := by omega
      have e5 := h i hi
      unfold d2 at e5
      refine ⟨(), ?_, trivial⟩
      simp (disch := omega) only [EV, S_lw_heldLogRecordS_0, hi, e1, e2, e3, e4, e5, beq_self_eq_true]
      rfl)
    (fun _ _ => ⟨.inl (1 + 2 * (m.length : Int)), by simp (disch := omega) only [EV, S_lw_heldLogRecordS_0, Nat.lt_irrefl], rfl⟩)
  subst h2
  have h1' : L_lw_heldLogRecordS_0 m ((1 : Int), (0 : Int)) = some (.inl (1 + 2 * (m.length : Int))) := h1
  unfold F_lw_heldLogRecordS T_lw_heldLogRecordS
  simp (disch := omega) only [EV, h1']
theorem eqRecs (l : List (List UInt8 × List UInt8)) (hl : l.length ≤ 1000) : F_lw_eqLogRecordS l l = some true := by
  obtain ⟨r, h1, h2⟩ := iter_inv (f := fun v => (S_lw_eqLogRecordS_0 (l, l) v).ev) (n := l.length) (fun i (_ : Unit) => (i : Int)) (fun _ _ => True) (fun r => r = .inl ()) (s0 := ()) trivial
    (fun i _ hi _ => by
      left
      refine ⟨(), ?_, trivial⟩
      simp (disch := omega) only [EV, S_lw_eqLogRecordS_0, hi, F_lw_eqLogRecord, T_lw_eqLogRecord, beq_self_eq_true]
      rfl)
    (fun _ _ => ⟨.inl (), by simp (disch := omega) only [EV, S_lw_eqLogRecordS_0, Nat.lt_irrefl], rfl⟩)
  subst h2
  have h1' : L_lw_eqLogRecordS_0 (l, l) (0 : Int) = some (.inl ()) := h1
  unfold F_lw_eqLogRecordS T_lw_eqLogRecordS
  simp (disch := omega) only [EV, h1', bne_self_eq_false]
theorem records_both {a b : List UInt8} (ha : SLow a) (hb : SLow b) (n : Int) : ∃ v, F_sp_LogRecords a b n = some v ∧ F_im_LogRecords a b n = some v ∧ v.2.length ≤ 60 := by
  obtain ⟨v, v1, v2, v3⟩ := valid_both ha hb n
  unfold F_sp_LogRecords T_sp_LogRecords F_im_LogRecords T_im_LogRecords
  simp (disch := omega) only [EV, v1, v2]
  cases v with
  | false => exact ⟨_, rfl, rfl, by simp⟩
  | true =>
    obtain ⟨h1, _⟩ := v3 rfl
    have e0 : a.length + b.length ≤ 9223372036854775807 := by omega
    obtain ⟨u, u1, u2, u3⟩ := read_both (s := a ++ b) (by unfold SLow; rw [List.length_append]; omega)
    simp (disch := omega) only [EV, e0, u1, u2]
    exact ⟨_, rfl, rfl, u3.2.2⟩
theorem law_LogRecords (a b : List UInt8) (n : Int) (ha : Fit .str a) (hb : Fit .str b) (_ : Fit (.int .i64) n) : F_lw_FnExactLogRecords a b n = some true := by
  unfold F_lw_FnExactLogRecords T_lw_FnExactLogRecords
  obtain ⟨x, e1, _, k2⟩ := szLog_sz n (fitS ha) (fitS hb) (b := 1048576) (by omega) (by omega)
  simp (disch := omega) only [EV, e1]
  by_cases hx : x < 0
  · simp (disch := omega) only [EV, hx]
  · obtain ⟨h1, h2⟩ := k2 (by omega)
    obtain ⟨v, v1, v2, v3⟩ := records_both h1 h2 n
    obtain ⟨m, m1, m2, m3⟩ := markRecs (l := v.2) (by omega)
    have hh := heldRecs (m := m) (by omega) (by rw [m2]; exact m3)
    rw [m2] at hh
    have e2 : ¬ (1 + 2 * (v.2.length : Int)) < 0 := by omega
    simp (disch := omega) only [EV, hx, toLog_eq, v1, v2, eqRecs v.2 (by omega), m1, hh, e2, beq_self_eq_true, bne_self_eq_false]
end Go.Proofs.YtakbhfnndcnopaaDoor
