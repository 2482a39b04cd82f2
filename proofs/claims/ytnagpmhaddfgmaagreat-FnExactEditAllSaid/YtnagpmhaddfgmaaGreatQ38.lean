/-
 The law of edits one by one.
-/
import Derived.Test.YtnagpmhaddfgmaaGreatP70
namespace Go.Proofs.YtnagpmhaddfgmaaGreat
theorem fitE {L : List Ed} (h : Fit (.slice tEdit) L) : (L.length : Int) < 9223372036854775808 ∧ ∀ e ∈ L, Fit1 e.2.2.2.2 :=
 ⟨maxLen_lt h.1, fun e he => fit1 (h.2 e he).2.2.2.2⟩
theorem szEditS_sz {L : List Ed} {b : Int} (hl : (L.length : Int) < 9223372036854775808) (hL : ∀ e ∈ L, Fit1 e.2.2.2.2) (h0 : 0 ≤ b) (h1 : b ≤ 1048576) : Sz (wjz L b) (L.length ≤ 1048576 ∧ ∀ e ∈ L, Low1 e.2.2.2.2) := by
 unfold wjz woi
 simp (disch := omega) only [EV]
 by_cases hb : b - (L.length : Int) < 0
 ·simp (disch := omega) only [EV, hb]
  exact ⟨_, rfl, by omega, fun h => by omega⟩
 ·have := sz_loop (f := fun v => (wab L v).ev) (l := L) ed0 (fun e => Low1 e.2.2.2.2) (b := b - (L.length : Int)) (by omega) (by omega) (fun i s hi k0 k1 => by
   obtain ⟨r, k2, k3, k4⟩ := szIntS_sz (hL _ (getD_mem (d := ed0) hi)) k0 k1
   have e3 : wjy (L.getD i ed0).1 (L.getD i ed0).2.1 (L.getD i ed0).2.2.1 (L.getD i ed0).2.2.2.1 (L.getD i ed0).2.2.2.2 s = some (if r < 0 then -1 else r) := by
    unfold wjy wog
    by_cases hr : r < 0
    ·simp (disch := omega) only [EV, k2, hr]
    ·simp (disch := omega) only [EV, k2, hr]
   by_cases hr : r < 0
   ·right
    rw [if_pos hr] at e3
    simp (disch := omega) only [EV, wab, hi, e3]
    rfl
   ·left
    rw [if_neg hr] at e3
    simp (disch := omega) only [EV, wab, hi, e3, hr]
    exact ⟨r, rfl, by omega, by omega, k4 (by omega)⟩) (fun s => by simp (disch := omega) only [EV, wab, Nat.lt_irrefl])
  rcases this with h | ⟨s, h, k0, k1, k2⟩
  ·simp (disch := omega) only [EV, hb, wcy, h]
   exact ⟨_, rfl, by omega, fun h => by omega⟩
  ·simp (disch := omega) only [EV, hb, wcy, h]
   exact ⟨_, rfl, by omega, fun _ => ⟨by omega, k2⟩⟩
theorem toEditS_eq {L : List Ed} (hl : L.length ≤ 1048576) (hL : ∀ e ∈ L, Low1 e.2.2.2.2) : wdb L = some L := by
 unfold wdb wpd
 rw [Tr.ev_g, show (decide ((0 : Int) ≤ ((L.length : Nat) : Int)) && decide (((L.length : Nat) : Int) ≤ ((L.length : Nat) : Int)) && decide (((56 : Nat) : Int) * ((L.length : Nat) : Int) ≤ 281474976710656)) = true by simp; omega]
 have := copy_loop (f := fun v => (wau L v).ev) (l := L) ed0 (fun i r hi hr' => by
  have t1 : wke (L.getD i ed0).1 (L.getD i ed0).2.1 (L.getD i ed0).2.2.1 (L.getD i ed0).2.2.2.1 (L.getD i ed0).2.2.2.2 = some (L.getD i ed0) := by
   unfold wke wpb
   simp (disch := omega) only [EV, toIntS_eq (hL _ (getD_mem (d := ed0) hi))]
  simp (disch := omega) only [EV, wau, hr', hi, t1]
  rfl) (fun r => by simp (disch := omega) only [EV, wau, Nat.lt_irrefl])
 simp (disch := omega) only [EV, wgi, this]
theorem eqEditS_self {L : List Ed} (hl : L.length ≤ 1048576) (hL : ∀ e ∈ L, Low1 e.2.2.2.2) : wmm L L = some true := by
 unfold wmm wxj
 have hs := eq_loop (f := fun v => (wbs (L, L) v).ev) (a := L) (b := L) ed0 rfl (fun i hi => by
  have t2 : wml (L.getD i ed0).1 (L.getD i ed0).2.1 (L.getD i ed0).2.2.1 (L.getD i ed0).2.2.2.1 (L.getD i ed0).2.2.2.2 (L.getD i ed0).1 (L.getD i ed0).2.1 (L.getD i ed0).2.2.1 (L.getD i ed0).2.2.2.1 (L.getD i ed0).2.2.2.2 = some true := by
   unfold wml wxh
   simp (disch := omega) only [EV, bne_self_eq_false, eqIntS_eq (hL _ (getD_mem (d := ed0) hi)), beq_self_eq_true]
  simp (disch := omega) only [EV, wbs, hi, t2, beq_self_eq_true]
  rfl) (by simp (disch := omega) only [EV, wbs, Nat.lt_irrefl])
 rw [beq_self_eq_true] at hs
 simp (disch := omega) only [EV, bne_self_eq_false, wjg, hs]
theorem cnt1_add : ∀ (n : Nat) (k : Int), 0 ≤ k → k + (n : Int) < 9223372036854775808 → cnt1 k n = k + (n : Int)
 | 0, k, _, _ => by simp [cnt1]
 | n + 1, k, h0, h => by
  rw [cnt1_succ, cnt1_add n k h0 (by omega)]
  unfold Go.RowKit.wrap64
  omega
theorem cntE_add (n : Nat) (k : Int) (h0 : 0 ≤ k) (h : k + (n : Int) + 4 < 9223372036854775808) : cntE k n = k + (n : Int) + 4 := by
 have e : cntE k n = cnt1 (cnt1 k 4) n := rfl
 rw [e, cnt1_add 4 k h0 (by omega), cnt1_add n _ (by omega) (by omega)]
 omega
theorem cntES_pos : ∀ (ns : List Nat) (k : Int), 0 ≤ k → (∀ n ∈ ns, n ≤ 1048576) → k + (ns.length : Int) * 1048580 < 9223372036854775808 → 0 ≤ cntES k ns
 | [], k, h0, _, _ => h0
 | n :: ns, k, h0, hn, h => by
  have h1 := hn n List.mem_cons_self
  simp only [List.length_cons] at h
  have e := cntE_add n k h0 (by omega)
  show 0 ≤ cntES (cntE k n) ns
  rw [e]
  exact cntES_pos ns _ (by omega) (fun m hm => hn m (List.mem_cons_of_mem _ hm)) (by omega)
theorem markEditS_eq {L : List Ed} {k : Int} (hl : L.length ≤ 1048576) (hL : ∀ e ∈ L, Low1 e.2.2.2.2) (h0 : 0 ≤ k) (h1 : k ≤ 4611686018427387904) : ∃ m, wyc k L = some m ∧ 0 ≤ m := by
 have hlen : ∀ n ∈ lensE L, n ≤ 1048576 := fun n hn => by
  obtain ⟨e, he, rfl⟩ := List.mem_map.1 hn
  have := hL e he
  unfold Low1 at this
  omega
 have hb : lowEB L = true := by
  unfold lowEB
  rw [Bool.and_eq_true, List.all_eq_true]
  exact ⟨decide_eq_true hl, fun n hn => decide_eq_true (hlen n hn)⟩
 have hll : (lensE L).length = L.length := List.length_map _
 refine ⟨cntES k (lensE L), ?_, cntES_pos _ _ h0 hlen (by rw [hll]; omega)⟩
 unfold wyc markESF
 rw [if_pos hb]
theorem sp_all_eq {o s : List Int} {ds : List (List Int)} (ho : Low1 o) (hd : Low2 ds) (hs : Low1 s) (n : Int) (L : List Ed) (hL : ∀ e ∈ L, Low1 e.2.2.2.2) (hn : L.length ≤ 1048576) :
  wgb o ds s n L = some ((allOf o ds s n L).1.2.1, ((allOf o ds s n L).1.2.2.1, ((allOf o ds s n L).1.2.2.2, ((allOf o ds s n L).1.1, ((allOf o ds s n L).2.1, (allOf o ds s n L).2.2))))) := by
 cases hb : atlasB o ds s n with
 | true =>
  have h := atl_iff.1 hb
  have h1 := h.fld.len
  have h2 := h.fld.clients
  have h3 := h.set.len
  refine sp_EditAll_eq ho hd hs ⟨by omega, by omega, fun r hr => ?_, by omega⟩ n L hL hn
  obtain ⟨j, hj, rfl⟩ := List.getElem_of_mem hr
  have := h.fld.rowLen j hj
  rw [List.getD_eq_getElem?_getD, List.getElem?_eq_getElem hj] at this
  have : ds[j].length = o.length := this
  omega
 | false =>
  unfold wgb wlk allOf
  rw [Tr.ev_c, l12Good_eq ho hd hs, hb, Option.bind_some, Tr.ev_t]
  rfl
theorem law_EditAll (o : List Int) (ds : List (List Int)) (s : List Int) (n : Int) (L : List Ed) (ho : Fit tL o) (hd : Fit tLL ds) (hs : Fit tL s) (_ : Fit tI n) (hL : Fit (.slice tEdit) L) : wyr o ds s n L = some true := by
 obtain ⟨hLl, hLf⟩ := fitE hL
 unfold wyr wyq
 obtain ⟨r, e1, k1, k2⟩ := szAtlas_sz n (fit1 ho) (fit2 hd) (fit1 hs) (b := 1048576) (by omega) (by omega)
 simp (disch := omega) only [EV, e1]
 by_cases hr : r < 0
 ·simp (disch := omega) only [EV, hr]
 ·obtain ⟨h1, h2, h3⟩ := k2 (by omega)
  obtain ⟨r2, e2, k3, k4⟩ := szEditS_sz hLl hLf (show 0 ≤ r by omega) k1
  by_cases hr2 : r2 < 0
  ·simp (disch := omega) only [EV, hr, e2, hr2]
  ·obtain ⟨h4, h5⟩ := k4 (by omega)
   have t1 := toEditS_eq h4 h5
   have t2 := eqEditS_self h4 h5
   have s1 := sp_all_eq h1 h2 h3 n L h5 h4
   have s2 := im_EditAll_eq h1 h2 h3 n L h5 h4
   obtain ⟨g1, g2, g3, _⟩ := allOf_low o s ds n L
   generalize allOf o ds s n L = A at *
   obtain ⟨⟨c', o', ds', s'⟩, q, b'⟩ := A
   simp only at s1 s2 g1 g2 g3
   obtain ⟨m1, f1, f2, f3, f4⟩ := emarkAtlas_eq h1 h2 h3 n
   obtain ⟨m2, f5, f6, f7, f8⟩ := emarkAtlas_eq g1 g2 g3 c'
   have hl1 := h3
   have hl2 := g3
   unfold Low1 at hl1 hl2
   obtain ⟨m3, t3, hm3⟩ := markEditS_eq (k := m1 + (s.length : Int)) h4 h5 (by omega) (by omega)
   have hn1 : ¬ m3 < 0 := by omega
   have hn2 : ¬ m2 + (s'.length : Int) < 0 := by omega
   simp (disch := omega) only [EV, hr, e2, hr2, toAtlas_eq h1 h2 h3, t1, s1, s2, eqAtlas_eq g1 g2 g3, eqAtlas_eq h1 h2 h3, t2, beq_self_eq_true, bne_self_eq_false, f1, t3, hn1, f5, eheldAtlas_eq g1 g2 g3 c' f6 f7 f8, hn2]
end Go.Proofs.YtnagpmhaddfgmaaGreat
