/-
  Medians of fields; orders of sites; sites put into a set one by one.
-/
import Derived.Test.YtbofjefpngpegaaP8
import Derived.Test.YtbofjefpngpegaaP10
import Derived.Test.YtbofjefpngpegaaP7
import Derived.Test.YtbofjefpngpegaaP28
import Derived.Test.YtbofjefpngpegaaP33
namespace Go.Proofs.Ytbofjefpngpegaa
theorem nins_perm (x : Int) : ∀ l : List Int, (ins x l).Perm (x :: l)
  | [] => .refl _
  | a :: l => by
    simp only [ins]
    split
    · exact ((nins_perm x l).cons a).trans (.swap x a l)
    · exact .refl _
theorem nsort_perm (l : List Int) : (sortI l).Perm l := by
  have key : ∀ (l acc : List Int), (l.foldl (fun acc x => ins x acc) acc).Perm (acc ++ l) := by
    intro l
    induction l with
    | nil => intro acc; simp
    | cons x l ih =>
      intro acc
      rw [List.foldl_cons]
      refine (ih (ins x acc)).trans ?_
      refine ((nins_perm x acc).append_right l).trans ?_
      rw [List.cons_append]
      exact List.perm_middle.symm
  have := key l []
  simpa [sortI] using this
theorem nrising_sort {l : List Int} {lo hi : Int} : risingB (sortI l) lo hi = true ↔ (∀ x ∈ l, lo ≤ x ∧ x ≤ hi) ∧ l.Nodup := by
  obtain ⟨h1, _, h3⟩ := sortI_inv l
  rw [risingB_iff]
  constructor
  · rintro ⟨a, b⟩
    refine ⟨fun x hx => a x ((h3 x).2 hx), (nsort_perm l).nodup_iff.1 ?_⟩
    exact b.imp fun {x y} h => by omega
  · rintro ⟨a, b⟩
    refine ⟨fun x hx => a x ((h3 x).1 hx), ?_⟩
    have hn : (sortI l).Nodup := (nsort_perm l).nodup_iff.2 b
    have h4 : (sortI l).Pairwise fun x y => x ≤ y ∧ x ≠ y := h1.and hn
    exact h4.imp fun {x y} h => by omega
def ordOK (l : List Int) (n : Nat) : Bool := decide (l.length = n) && risingB (sortI l) 0 ((n : Int) - 1)
theorem ordOK_iff {l : List Int} {n : Nat} : ordOK l n = true ↔ l.length = n ∧ (∀ x ∈ l, 0 ≤ x ∧ x < (n : Int)) ∧ l.Nodup := by
  unfold ordOK
  rw [Bool.and_eq_true, decide_eq_true_eq, nrising_sort]
  constructor
  · rintro ⟨h1, h2, h3⟩
    exact ⟨h1, fun x hx => by have := h2 x hx; omega, h3⟩
  · rintro ⟨h1, h2, h3⟩
    exact ⟨h1, fun x hx => by have := h2 x hx; omega, h3⟩
theorem perm_range : ∀ (n : Nat) (l : List Int), (∀ a, a < n → (a : Int) ∈ l) → l.length = n → l.Perm ((List.range n).map fun a : Nat => (a : Int))
  | 0, l, _, h => by rw [List.eq_nil_of_length_eq_zero h]; exact .refl _
  | n + 1, l, ha, h => by
    have hm := ha n (by omega)
    have hp := List.perm_cons_erase hm
    have hl : (l.erase (n : Int)).length = n := by rw [List.length_erase_of_mem hm]; omega
    have ih := perm_range n (l.erase (n : Int)) (fun a h' => (List.mem_erase_of_ne (by omega)).2 (ha a (by omega))) hl
    rw [List.range_succ, List.map_append]
    exact (hp.trans (ih.cons _)).trans (List.perm_append_comm (l₁ := [(n : Int)]))
theorem all_in : ∀ (n : Nat) (l : List Int), l.Nodup → (∀ x ∈ l, 0 ≤ x ∧ x < (n : Int)) → l.length ≤ n ∧ (l.length = n → ∀ a, a < n → (a : Int) ∈ l)
  | 0, l, _, h => by
    cases l with
    | nil => exact ⟨Nat.le_refl _, fun _ a h => by omega⟩
    | cons x l => have := h x (by simp); omega
  | n + 1, l, hd, h => by
    by_cases hm : (n : Int) ∈ l
    · have hl : (l.erase (n : Int)).length = l.length - 1 := List.length_erase_of_mem hm
      have hpos : 0 < l.length := List.length_pos_of_mem hm
      obtain ⟨i1, i2⟩ := all_in n (l.erase (n : Int)) (hd.erase _) fun x hx => by
        have h1 := h x (List.mem_of_mem_erase hx)
        have h2 : x ≠ (n : Int) := fun e => by
          rw [e, hd.mem_erase_iff] at hx
          exact hx.1 rfl
        omega
      refine ⟨by omega, fun he a ha => ?_⟩
      by_cases hq : a = n
      · rw [hq]; exact hm
      · exact List.mem_of_mem_erase (i2 (by omega) a (by omega))
    · obtain ⟨i1, _⟩ := all_in n l hd fun x hx => by
        have h1 := h x hx
        have h2 : x ≠ (n : Int) := fun e => hm (e ▸ hx)
        omega
      exact ⟨by omega, fun he => by omega⟩
theorem ordOK_all {l : List Int} {n : Nat} : ordOK l n = ((List.range n).all (fun a => l.contains (a : Int)) && decide (l.length = n)) := by
  rw [Bool.eq_iff_iff, ordOK_iff, Bool.and_eq_true, decide_eq_true_eq, List.all_eq_true]
  simp only [List.mem_range, List.contains_iff_mem]
  constructor
  · rintro ⟨h1, h2, h3⟩
    exact ⟨(all_in n l h3 h2).2 h1, h1⟩
  · rintro ⟨h1, h2⟩
    have hp := perm_range n l h1 h2
    refine ⟨h2, fun x hx => ?_, ?_⟩
    · obtain ⟨a, ha, rfl⟩ := List.mem_map.1 (hp.mem_iff.1 hx)
      have := List.mem_range.1 ha
      omega
    · rw [hp.nodup_iff]
      refine List.Pairwise.map _ (fun a b h => ?_) List.nodup_range
      omega
theorem nisOrder_eq {l : List Int} {n : Nat} (hn : n ≤ 12) (hl : l.length ≤ 1099511627776) : F_zv l (n : Int) = some (ordOK l n) := by
  unfold ordOK F_zv T_zv F_zaw T_zaw F_zax F_zan
  by_cases h : l.length = n
  · have e : (((l.length : Nat) : Int) == (n : Int)) = true := beq_iff_eq.2 (by omega)
    have hc : collectF l = some l := by unfold collectF; rw [if_pos (by omega)]
    have hsl : (sortI l).length = l.length := (sortI_inv l).2.1
    have hs : Low1 (sortI l) := by unfold Low1; omega
    simp (disch := omega) only [EV, e, hc, slicesSort_eq (l := l) (by omega), isRising_eq hs (n := (n : Int)) (by omega) (by omega), h]
    rw [beq_self_eq_true]
    rfl
  · have e : (((l.length : Nat) : Int) == (n : Int)) = false := beq_eq_false_iff_ne.2 (by omega)
    simp (disch := omega) only [EV, e, h]
theorem nsorted_eq {l : List Int} (hl : l.length ≤ 12) : F_zaw l = some (sortI l) := by
  unfold F_zaw T_zaw F_zan
  have hc : collectF l = some l := by unfold collectF; rw [if_pos (by omega)]
  simp (disch := omega) only [EV, hc, slicesSort_eq hl]
theorem nl1Has_eq {l : List Int} (hl : (l.length : Int) < 9223372036854775807) (x : Int) : F_zbt l x = some (l.contains x) := by
  have hs : L_zbt_0 (l, x) 0 = _ := iter_forE (f := fun v => (S_zbt_0 (l, x) v).ev) (l := l) 0 (fun y => y == x) (mk := fun i => (i : Int)) (yes := fun _ => .inr ()) (no := .inl ()) (fun i hi => by
    simp (disch := omega) only [EV, S_zbt_0, hi]
    cases (l.getD i 0 == x) <;> rfl) (by simp (disch := omega) only [EV, S_zbt_0, Nat.lt_irrefl])
  unfold F_zbt T_zbt
  simp (disch := omega) only [EV, hs]
  have e : l.contains x = l.any fun y => y == x := by
    rw [List.contains_eq_any_beq]
    congr 1
    funext y
    exact Bool.beq_comm
  rw [e]
  have h2 := findIdx_any (l := l) (q := fun y => y == x)
  cases h : l.findIdx? fun y => y == x with
  | none =>
    rw [h] at h2
    have h3 : (l.any fun y => y == x) = false := by
      rw [Bool.eq_false_iff]
      exact fun h4 => by have := h2.1 h4; simp at this
    rw [h3]
    rfl
  | some i =>
    rw [h] at h2
    rw [h2.2 rfl]
    rfl
theorem l10Order_eq {o : List Int} {l : List Int} (ho : Low1 o) (hl : (l.length : Int) < 9223372036854775807) (ds : List (List Int)) : F_zbr o ds l = some (ordOK l o.length) := by
  unfold Low1 at ho
  have h := iter_allR (f := fun v => (S_zbr_0 (l, (o, ds)) v).ev) (n := o.length) (mk := fun i => (i : Int)) (p := fun i => l.contains (i : Int)) (yes := .inl ()) (no := .inr ())
    (fun i hi _ => by
      simp (disch := omega) only [EV, S_zbr_0, hi, nl1Has_eq hl]
      cases l.contains (i : Int) <;> rfl)
    (by simp (disch := omega) only [EV, S_zbr_0, Nat.lt_irrefl])
  have h0 : L_zbr_0 (l, (o, ds)) 0 = _ := h
  unfold F_zbr T_zbr
  rw [ordOK_all, Tr.ev_c, h0, Option.bind_some]
  cases (List.range o.length).all fun a => l.contains (a : Int) with
  | false => rfl
  | true =>
    rw [cond_true, Bool.true_and]
    simp (disch := omega) only [EV]
    rw [int_eq]
theorem nl1Put_eq {l : List Int} {x : Int} (hl : l.length ≤ 100) (hx : x ∉ l) : F_zbv l x = some (ins x l) := by
  have h := iter_forE (f := fun v => (S_zbv_0 (l, x) v).ev) (l := l) 0 (fun y => !decide (y ≤ x)) (mk := fun i => (i : Int)) (yes := fun i => (i : Int)) (no := (l.length : Int))
    (fun i hi => by
      have hne : l.getD i 0 ≠ x := fun e => hx (e ▸ getD_mem hi)
      by_cases hlt : l.getD i 0 < x
      · have hle : l.getD i 0 ≤ x := by omega
        simp (disch := omega) only [EV, S_zbv_0, hi, hlt, hle]
        rfl
      · have hle : ¬ l.getD i 0 ≤ x := by omega
        simp (disch := omega) only [EV, S_zbv_0, hi, hlt, hle])
    (by simp (disch := omega) only [EV, S_zbv_0, Nat.lt_irrefl])
  have h0 : L_zbv_0 (l, x) 0 = some ((((l.findIdx? fun y => !decide (y ≤ x)).elim l.length id : Nat) : Int)) := by
    have h1 : L_zbv_0 (l, x) 0 = _ := h
    rw [h1]
    cases l.findIdx? fun y => !decide (y ≤ x) <;> rfl
  have hi := ins_find x l
  have hle : (l.findIdx? fun y => !decide (y ≤ x)).elim l.length id ≤ l.length := by
    cases hf : l.findIdx? fun y => !decide (y ≤ x) with
    | none => exact Nat.le_refl _
    | some j =>
      obtain ⟨hj, _⟩ := List.findIdx?_eq_some_iff_getElem.1 hf
      exact Nat.le_of_lt hj
  generalize (l.findIdx? fun y => !decide (y ≤ x)).elim l.length id = i at h0 hi hle
  have hfin : List.drop 0 (List.take i l) ++ [x] ++ List.drop i (List.take l.length l) = ins x l := by
    rw [List.take_length, List.drop_zero, ← hi]
    simp
  have hlen : (List.drop 0 (List.take i l)).length ≤ 100 := by simp; omega
  have hlen2 : (List.drop i (List.take l.length l)).length ≤ 100 := by simp; omega
  have g1 : (decide (0 ≤ (i : Int)) && decide ((i : Int) ≤ ((l.length : Nat) : Int))) = true := by
    rw [decide_eq_true (by omega), decide_eq_true (by omega)]
    rfl
  unfold F_zbv T_zbv
  rw [Tr.ev_c, h0, Option.bind_some]
  by_cases hlt : i < l.length
  · have hne : (l.getD i 0 == x) = false := beq_eq_false_iff_ne.2 fun e => hx (e ▸ getD_mem hlt)
    simp (disch := omega) only [EV, hlt, hne, List.nil_append, List.length_nil, List.length_append, List.length_cons, hle]
    rw [g1, cond_true, cond_true, if_pos (by omega), if_pos (by omega), if_pos (by omega)]
    exact congrArg some hfin
  · simp (disch := omega) only [EV, hlt, List.nil_append, List.length_nil, List.length_append, List.length_cons, hle]
    rw [g1, cond_true, cond_true, if_pos (by omega), if_pos (by omega), if_pos (by omega)]
    exact congrArg some hfin
def medSet (ds : List (List Int)) (n : Nat) (k : Int) : List Int := firstMin (serve ds) (ofSz n k)
def medV (ds : List (List Int)) (n : Nat) (k : Int) : Int := serve ds (medSet ds n k)
theorem nsize_places {n : Nat} (h1 : 1 ≤ n) (h7 : n ≤ 7) {k : Int} {s : List Int} (hs : s ∈ ofSz n k) : Places s n ∧ (s.length : Int) = k ∧ 0 < s.length ∧ Low1 s := by
  obtain ⟨a, b⟩ := ofSz_mem.1 hs
  obtain ⟨c, d, e⟩ := setP_places h7 (setsP h1 h7) a
  exact ⟨c, b, d, e⟩
theorem medSet_mem {ds : List (List Int)} {n : Nat} (h7 : n ≤ 7) {k : Int} (hk : 1 ≤ k ∧ k ≤ (n : Int)) : medSet ds n k ∈ ofSz n k :=
  (firstMin_spec (ofSz_ne h7 hk.1 hk.2)).1
theorem medV_in {o : List Int} {ds : List (List Int)} (hf : Fld o ds) {k : Int} (hk : 1 ≤ k ∧ k ≤ (o.length : Int)) : 0 ≤ medV ds o.length k ∧ medV ds o.length k ≤ 693 := by
  obtain ⟨a, _, c, _⟩ := nsize_places hf.pos hf.len (medSet_mem (ds := ds) hf.len hk)
  exact serve_in hf a c
theorem median_eq {o : List Int} {ds : List (List Int)} (hf : Fld o ds) {k : Int} (hk : 1 ≤ k ∧ k ≤ (o.length : Int)) : F_zf o ds k = some (medSet ds o.length k) := by
  have h7 := hf.len
  have h1 := hf.pos
  have hS := setsP h1 h7
  obtain ⟨x, e1, e2, e3⟩ := hS.im
  have hl128 := setsP_len hS h7
  have hxl : x.1.length = (setsOf o.length).length := by rw [← e3, permL_len]
  obtain ⟨y, k1, k2, k3⟩ := deleteFunc_eq (x := x) e2 (by omega) (p := fun h2_ => Option.bind (F_zg h2_.1 k) fun y3_ => some y3_) (q := fun s => !decide ((s.length : Int) = k)) fun s hs => by
    rw [e3] at hs
    obtain ⟨p1, p2, p3⟩ := setP_places h7 hS hs
    unfold Low1 at p3
    show Option.bind (F_zg s k) _ = _
    unfold F_zg T_zg
    simp (disch := omega) only [EV]
    by_cases h : (s.length : Int) = k <;> simp [h]
  have hkk : permL y.1 y.2 = ofSz o.length k := by
    rw [k3, e3]
    unfold ofSz
    congr 1
    funext s
    simp
  have hyl : y.1.length = (ofSz o.length k).length := by rw [← hkk, permL_len]
  have hpos := List.length_pos_iff.2 (ofSz_ne h7 (k := k) hk.1 hk.2)
  have hle0 : (ofSz o.length k).length ≤ (setsOf o.length).length := List.length_filter_le _ _
  have hle := leastP_eq (x := y) k2 (by omega) (by omega) (p := fun h5_ => Option.bind (F_zj o ds h5_.1) fun y6_ => some y6_) (g := serve ds) fun s hs => by
    rw [hkk] at hs
    obtain ⟨p1, _, p2, _⟩ := nsize_places h1 h7 hs
    show Option.bind (F_zj o ds s) _ = _
    rw [service_eq hf p1 p2]
    rfl
  rw [hkk] at hle
  unfold F_zf T_zf medSet
  simp (disch := omega) only [EV, e1, k1, hle]
theorem npick_size {n : Nat} (h1 : 1 ≤ n) (h7 : n ≤ 7) {k : Int} (hk : 1 ≤ k ∧ k ≤ (n : Int)) (g : List Int → Int) : pickL (fun s => decide ((s.length : Int) = k)) g (setsOf n) = firstMin g (ofSz n k) := by
  rw [pickL_eq (setsOf n) fun s hs e => by
    have := (setP_places h7 (setsP h1 h7) hs).2.1
    rw [e] at this
    simp at this]
  rw [if_neg (show ¬ (setsOf n).filter (fun s => decide ((s.length : Int) = k)) = [] from ofSz_ne h7 hk.1 hk.2)]
  rfl
theorem l4Best_eq {o : List Int} {ds : List (List Int)} (hf : Fld o ds) {k : Int} (hk : 1 ≤ k ∧ k ≤ (o.length : Int)) : F_zce o ds k = some (medSet ds o.length k) := by
  have h7 := hf.len
  have hn1 := hf.pos
  have hS := setsP (n := o.length) hn1 h7
  have hl128 := setsP_len hS h7
  have h0 := iter_foldl (f := fun v => (S_zce_0 (k, (setsOf o.length, (o, ds))) v).ev) (setsOf o.length) [] (mk := fun i s => (s, (i : Int))) (I := fun _ s => s = [] ∨ s ∈ ofSz o.length k)
    (g := fun c s => if decide ((s.length : Int) = k) = true ∧ (c = [] ∨ serve ds s < serve ds c) then s else c) (fin := fun s => s) (s0 := []) (.inl rfl)
    (fun i s hi hI => by
      have hm' : (setsOf o.length).getD i [] ∈ setsOf o.length := getD_mem hi
      obtain ⟨p1, p2, _⟩ := setP_places h7 hS hm'
      have e1 := l2Serve_eq hf p1 p2
      by_cases hv : (((setsOf o.length).getD i []).length : Int) = k
      · have hin : (setsOf o.length).getD i [] ∈ ofSz o.length k := ofSz_mem.2 ⟨hm', hv⟩
        have hq : ((((setsOf o.length).getD i []).length : Int) == k) = true := beq_iff_eq.2 hv
        refine ⟨?_, ?_⟩
        · rcases hI with rfl | hs
          · have hz : (((List.length ([] : List Int) : Nat) : Int) == 0) = true := rfl
            simp (disch := omega) only [EV, S_zce_0, hi, hq, hz]
            rw [if_pos ⟨by simpa using hv, .inl trivial⟩]
            rfl
          · obtain ⟨q1, q2, q3, _⟩ := nsize_places hn1 h7 hs
            have hz : (((s.length : Nat) : Int) == 0) = false := beq_eq_false_iff_ne.2 (by omega)
            have hne : s ≠ [] := fun e => by rw [e] at q3; simp at q3
            have e2 := l2Serve_eq hf q1 q3
            by_cases hc : serve ds ((setsOf o.length).getD i []) < serve ds s
            · simp (disch := omega) only [EV, S_zce_0, hi, hq, hz, e1, e2, hc]
              rw [if_pos ⟨by simpa using hv, .inr trivial⟩]
              rfl
            · simp (disch := omega) only [EV, S_zce_0, hi, hq, hz, e1, e2, hc]
              rw [if_neg (fun h => h.2.elim hne id)]
              rfl
        · split
          · exact .inr hin
          · exact hI
      · have hq : ((((setsOf o.length).getD i []).length : Int) == k) = false := beq_eq_false_iff_ne.2 hv
        rw [if_neg (fun h => hv (by simpa using h.1))]
        exact ⟨by simp (disch := omega) only [EV, S_zce_0, hi, hq]; rfl, hI⟩)
    (fun s _ => by simp (disch := omega) only [EV, S_zce_0, Nat.lt_irrefl])
  have h1 : L_zce_0 (k, (setsOf o.length, (o, ds))) (([] : List Int), (0 : Int)) = some (pickL (fun s => decide ((s.length : Int) = k)) (serve ds) (setsOf o.length)) := h0.1
  rw [npick_size hn1 h7 hk] at h1
  unfold F_zce T_zce medSet
  simp (disch := omega) only [EV, hS.sp, h1]
end Go.Proofs.Ytbofjefpngpegaa
