/-
  The laws of new atlases and consoles.
-/
import Derived.Test.YthkafleokepjeaaP6
import Derived.Test.YthkafleokepjeaaP7
import Derived.Test.YthkafleokepjeaaP20
namespace Go.Proofs.Ythkafleokepjeaa

theorem l1Own_eq {l : List Int} (hl : Low1 l) : F_sp_l1Own l = some l := by
  unfold Low1 at hl
  unfold F_sp_l1Own T_sp_l1Own
  have hg : (0 + l.length) * 8 ≤ 140737488355328 := by omega
  simp (disch := omega) only [EV, List.length_nil, List.nil_append, hg]
theorem clone_eq {l : List Int} (hl : Low1 l) : F_slices_Clone_Sint_int l = some l := by
  unfold Low1 at hl
  unfold F_slices_Clone_Sint_int cloneF
  rw [if_pos (by omega)]
/-- Rows, one behind the other. -/
theorem rows_copy {f : Int × List (List Int) → Option ((Int × List (List Int)) ⊕ List (List Int))} {x : List (List Int)}
    (hstep : ∀ i : Nat, i < x.length → f ((i : Int), x.take i) = some (.inl (((i + 1 : Nat) : Int), x.take i ++ [x.getD i []]))) (hend : f ((x.length : Int), x) = some (.inr x)) : iter f (0, []) = some x := by
  have := (iter_fold (f := f) (n := x.length) (mk := fun i (_ : Unit) => ((i : Int), x.take i)) (I := fun _ _ => True) (g := fun s _ => s) (fin := fun _ => x) (s0 := ()) trivial
    (fun i s hi _ => ⟨by rw [hstep i hi, take_snoc [] hi], trivial⟩)
    (fun s _ => by rw [List.take_length, hend])).1
  simpa using this
theorem set_last {α : Type} (l : List α) (a b : α) : (l ++ [a]).set l.length b = l ++ [b] := by simp
theorem l12Own_eq {o : List Int} {ds : List (List Int)} {s : List Int} (ho : Low1 o) (hd : Low2 ds) (hs : Low1 s) (c : Int) : F_sp_l12Own o ds s c = some (c, o, ds, s) := by
  unfold F_sp_l12Own T_sp_l12Own
  have hl := hd.1
  have h0 := rows_copy (f := fun v => (S_sp_l12Own_0 (o, (ds, (s, (c, (([] : List (Int)), (([] : List (List (Int))), (([] : List (Int)), ((0 : Int), o)))))))) v).ev) (x := ds)
    (fun i hi => by
      have ht : (ds.take i).length ≤ i := List.length_take_le _ _
      have hg : ((ds.take i).length + 1) * 24 ≤ 140737488355328 := by omega
      simp (disch := omega) only [EV, S_sp_l12Own_0, hi, l1Own_eq (hd.2 _ (getD_mem (d := []) hi)), set_last, hg]
      rfl)
    (by simp (disch := omega) only [EV, S_sp_l12Own_0, Nat.lt_irrefl])
  simp (disch := omega) only [EV, l1Own_eq ho, l1Own_eq hs, L_sp_l12Own_0, h0]
theorem copyLists_eq {ds : List (List Int)} (hd : Low2 ds) : F_im_copyLists ds = some ds := by
  unfold F_im_copyLists T_im_copyLists
  have hl := hd.1
  have h0 := rows_copy (f := fun v => (S_im_copyLists_0 (ds, ((ds.length : Nat) : Int)) v).ev) (x := ds)
    (fun i hi => by
      have ht : (ds.take i).length ≤ i := List.length_take_le _ _
      have hg : ((ds.take i).length + 1) * 24 ≤ 140737488355328 := by omega
      simp (disch := omega) only [EV, S_im_copyLists_0, hi, clone_eq (hd.2 _ (getD_mem (d := []) hi)), set_last, hg]
      rfl)
    (by simp (disch := omega) only [EV, S_im_copyLists_0, Nat.lt_irrefl])
  simp (disch := omega) only [EV, L_im_copyLists_0, h0]
theorem copied_eq {o : List Int} {ds : List (List Int)} {s : List Int} (ho : Low1 o) (hd : Low2 ds) (hs : Low1 s) (c : Int) : F_im_Atlas_copied o ds s c = some (c, o, ds, s) := by
  unfold F_im_Atlas_copied T_im_Atlas_copied
  simp (disch := omega) only [EV, clone_eq ho, clone_eq hs, copyLists_eq hd]
theorem low0 : Low1 [] := by unfold Low1; simp
theorem low00 : Low2 [] := ⟨by simp, fun r h => by simp at h⟩
/-- What is handed back where the arguments are no good. -/
def natl (b : Bool) (o : List Int) (ds : List (List Int)) (s : List Int) (c : Int) : Int × Bool × List Int × List (List Int) × List Int := bif b then (c, true, o, ds, s) else (0, false, [], [], [])
theorem sp_NewAtlas_eq {o : List Int} {ds : List (List Int)} (ho : Low1 o) (hd : Low2 ds) : F_sp_NewAtlas o ds = some (natl (fieldB o ds) o ds [] 0) := by
  unfold F_sp_NewAtlas T_sp_NewAtlas
  simp (disch := omega) only [EV, l12Good_eq ho hd low0, l12Own_eq ho hd low0]
  have : atlasB o ds [] 0 = fieldB o ds := by
    unfold atlasB
    rw [show risingB [] 0 ((o.length : Int) - 1) = true from rfl, show isIn 0 0 1000 = true from rfl]
    simp
  rw [this]
  cases fieldB o ds <;> rfl
theorem im_NewAtlas_eq {o : List Int} {ds : List (List Int)} (ho : Low1 o) (hd : Low2 ds) : F_im_NewAtlas o ds = some (natl (fieldB o ds) o ds [] 0) := by
  unfold F_im_NewAtlas T_im_NewAtlas
  simp (disch := omega) only [EV, IsField_eq ho hd, copied_eq ho hd low0]
  cases fieldB o ds <;> rfl
theorem markField_eq {o : List Int} {ds : List (List Int)} (ho : Low1 o) (hd : Low2 ds) {k : Int} (h0 : 0 ≤ k) (h1 : k ≤ 1099511627776) : ∃ m, F_lw_markField k o ds = some (m, markL k o.length, markLL (k + (o.length : Int)) ds) ∧ m = tot (k + (o.length : Int)) ds ∧ k ≤ m ∧ m ≤ k + 2199023255552 := by
  have hl := ho
  unfold Low1 at hl
  have hb := tot_take hd (k := k + (o.length : Int)) ds.length
  rw [List.take_length] at hb
  unfold F_lw_markField T_lw_markField
  simp (disch := omega) only [EV, markIntS_eq ho h0 (by omega), markIntSS_eq hd (k := k + (o.length : Int)) (by omega) (by omega)]
  exact ⟨_, rfl, rfl, by omega, by omega⟩
theorem heldField_eq {o : List Int} {ds : List (List Int)} (ho : Low1 o) (hd : Low2 ds) {k : Int} (h0 : 0 ≤ k) (h1 : k ≤ 1099511627776) : F_lw_heldField (markL k o.length) (markLL (k + (o.length : Int)) ds) k = some (tot (k + (o.length : Int)) ds) := by
  have hl := ho
  unfold Low1 at hl
  have hb := tot_take hd (k := k + (o.length : Int)) ds.length
  rw [List.take_length] at hb
  have hn : ¬ k + (o.length : Int) < 0 := by omega
  have hn2 : ¬ tot (k + (o.length : Int)) ds < 0 := by omega
  unfold F_lw_heldField T_lw_heldField
  simp (disch := omega) only [EV, heldIntS_eq (n := o.length) hl h0 (by omega), hn, heldIntSS_eq hd (k := k + (o.length : Int)) (by omega) (by omega), hn2]
theorem markAtlas_eq {o : List Int} {ds : List (List Int)} {s : List Int} (ho : Low1 o) (hd : Low2 ds) (hs : Low1 s) (c : Int) : ∃ m, F_lw_markAtlas c 1 o ds s = some (m + (s.length : Int), markL 1 o.length, markLL (1 + (o.length : Int)) ds, markL m s.length) ∧ m = tot (1 + (o.length : Int)) ds ∧ 1 ≤ m ∧ m ≤ 2199023255553 := by
  have hl := hs
  unfold Low1 at hl
  obtain ⟨m, e1, e2, e3, e4⟩ := markField_eq ho hd (k := 1) (by omega) (by omega)
  unfold F_lw_markAtlas T_lw_markAtlas
  simp (disch := omega) only [EV, e1, markIntS_eq hs (k := m) (by omega) (by omega)]
  exact ⟨m, rfl, e2, by omega, by omega⟩
theorem heldAtlas_eq {o : List Int} {ds : List (List Int)} {s : List Int} (ho : Low1 o) (hd : Low2 ds) (hs : Low1 s) (c : Int) {m : Int} (e2 : m = tot (1 + (o.length : Int)) ds) (e3 : 1 ≤ m) (e4 : m ≤ 2199023255553) :
    F_lw_heldAtlas (markL 1 o.length) (markLL (1 + (o.length : Int)) ds) (markL m s.length) c 1 = some (m + (s.length : Int)) := by
  have hl := hs
  unfold Low1 at hl
  have hn : ¬ m < 0 := by omega
  have hn2 : ¬ m + (s.length : Int) < 0 := by omega
  unfold F_lw_heldAtlas T_lw_heldAtlas
  simp (disch := omega) only [EV, heldField_eq ho hd (k := 1) (by omega) (by omega), ← e2, hn, heldIntS_eq (n := s.length) hl (k := m) (by omega) (by omega), hn2]
theorem eqConsole_self {o : List Int} {ds : List (List Int)} {s : List Int} (ho : Low1 o) (hd : Low2 ds) (hs : Low1 s) (c : Int) (a b : List UInt8) (n : Int) : F_lw_eqConsole o ds s c a b n o ds s c a b n = some true := by
  unfold F_lw_eqConsole T_lw_eqConsole F_lw_eqLog T_lw_eqLog
  simp (disch := omega) only [EV, eqAtlas_eq ho hd hs, beq_self_eq_true, bne_self_eq_false]
def ncon (b : Bool) (o : List Int) (ds : List (List Int)) (s : List Int) (c : Int) : Int × List UInt8 × List UInt8 × Int × Bool × List Int × List (List Int) × List Int := bif b then (c, [], [], 0, true, o, ds, s) else (0, [], [], 0, false, [], [], [])
theorem sp_NewConsole_eq {o : List Int} {ds : List (List Int)} {s : List Int} (ho : Low1 o) (hd : Low2 ds) (hs : Low1 s) (c : Int) : F_sp_NewConsole o ds s c = some (ncon (atlasB o ds s c) o ds s c) := by
  unfold F_sp_NewConsole T_sp_NewConsole
  simp (disch := omega) only [EV, l12Good_eq ho hd hs, l12Own_eq ho hd hs]
  cases atlasB o ds s c <;> rfl
theorem im_NewConsole_eq {o : List Int} {ds : List (List Int)} {s : List Int} (ho : Low1 o) (hd : Low2 ds) (hs : Low1 s) (c : Int) : F_im_NewConsole o ds s c = some (ncon (atlasB o ds s c) o ds s c) := by
  unfold F_im_NewConsole T_im_NewConsole
  simp (disch := omega) only [EV, im_IsAtlas_eq ho hd hs, copied_eq ho hd hs]
  cases atlasB o ds s c <;> rfl
theorem law_NewConsole (o : List Int) (ds : List (List Int)) (s : List Int) (c : Int) (ho : Fit tL o) (hd : Fit tLL ds) (hs : Fit tL s) (_ : Fit tI c) : F_lw_FnExactNewConsole o ds s c = some true := by
  unfold F_lw_FnExactNewConsole T_lw_FnExactNewConsole F_lw_markConsole T_lw_markConsole F_lw_heldConsole T_lw_heldConsole
  obtain ⟨r, e1, _, k2⟩ := szAtlas_sz c (fit1 ho) (fit2 hd) (fit1 hs) (b := 1048576) (by omega) (by omega)
  simp (disch := omega) only [EV, e1]
  by_cases hr : r < 0
  · simp (disch := omega) only [EV, hr]
  · obtain ⟨h1, h2, h3⟩ := k2 (by omega)
    obtain ⟨o', ds', s', c', b', e0, g1, g2, g3⟩ : ∃ o' ds' s' c' b', ncon (atlasB o ds s c) o ds s c = (c', [], [], 0, b', o', ds', s') ∧ Low1 o' ∧ Low2 ds' ∧ Low1 s' := by
      cases atlasB o ds s c with
      | false => exact ⟨_, _, _, _, _, rfl, low0, low00, low0⟩
      | true => exact ⟨_, _, _, _, _, rfl, h1, h2, h3⟩
    obtain ⟨m1, f1, f2, f3, f4⟩ := markAtlas_eq h1 h2 h3 c
    obtain ⟨m2, f5, f6, f7, f8⟩ := markAtlas_eq g1 g2 g3 c'
    have hl := g3
    unfold Low1 at hl
    have hn1 : ¬ m1 + (s.length : Int) < 0 := by omega
    have hn2 : ¬ m2 + (s'.length : Int) < 0 := by omega
    simp (disch := omega) only [EV, hr, toAtlas_eq h1 h2 h3, sp_NewConsole_eq h1 h2 h3, im_NewConsole_eq h1 h2 h3, e0, eqConsole_self g1 g2 g3, eqAtlas_eq h1 h2 h3, beq_self_eq_true, bne_self_eq_false, f1, hn1, f5, heldAtlas_eq g1 g2 g3 c' f6 f7 f8, hn2]
theorem law_NewAtlas (o : List Int) (ds : List (List Int)) (ho : Fit tL o) (hd : Fit tLL ds) : F_lw_FnExactNewAtlas o ds = some true := by
  unfold F_lw_FnExactNewAtlas T_lw_FnExactNewAtlas
  obtain ⟨r, e1, _, k2⟩ := szField_sz (fit1 ho) (fit2 hd) (b := 1048576) (by omega) (by omega)
  simp (disch := omega) only [EV, e1]
  by_cases hr : r < 0
  · simp (disch := omega) only [EV, hr]
  · obtain ⟨h1, h2⟩ := k2 (by omega)
    obtain ⟨o', ds', s', c', b', e0, g1, g2, g3⟩ : ∃ o' ds' s' c' b', natl (fieldB o ds) o ds [] 0 = (c', b', o', ds', s') ∧ Low1 o' ∧ Low2 ds' ∧ Low1 s' := by
      cases fieldB o ds with
      | false => exact ⟨_, _, _, _, _, rfl, low0, low00, low0⟩
      | true => exact ⟨_, _, _, _, _, rfl, h1, h2, low0⟩
    obtain ⟨m1, f1, f2, f3, f4⟩ := markField_eq h1 h2 (k := 1) (by omega) (by omega)
    obtain ⟨m2, f5, f6, f7, f8⟩ := markAtlas_eq g1 g2 g3 c'
    have hl := g3
    unfold Low1 at hl
    have hn1 : ¬ m1 < 0 := by omega
    have hn2 : ¬ m2 + (s'.length : Int) < 0 := by omega
    simp (disch := omega) only [EV, hr, toField_eq h1 h2, sp_NewAtlas_eq h1 h2, im_NewAtlas_eq h1 h2, e0, eqAtlas_eq g1 g2 g3, eqField_eq h1 h2, beq_self_eq_true, bne_self_eq_false, f1, hn1, f5, heldAtlas_eq g1 g2 g3 c' f6 f7 f8, hn2]
end Go.Proofs.Ythkafleokepjeaa
