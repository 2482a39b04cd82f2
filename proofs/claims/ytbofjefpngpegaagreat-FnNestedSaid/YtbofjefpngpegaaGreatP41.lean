/-
  Medians of fields; orders of sites; sites put into a set one by one.
-/
import Derived.Test.YtbofjefpngpegaaGreatP8
import Derived.Test.YtbofjefpngpegaaGreatP10
import Derived.Test.YtbofjefpngpegaaGreatP7
import Derived.Test.YtbofjefpngpegaaGreatP28
import Derived.Test.YtbofjefpngpegaaGreatP33
namespace Go.Proofs.YtbofjefpngpegaaGreat
theorem wmk (x : Int) : ∀ l : List Int, (ins x l).Perm (x :: l)
  | [] => .refl _
  | a :: l => by
    simp only [ins]
    split
    · exact ((wmk x l).cons a).trans (.swap x a l)
    · exact .refl _
theorem wiv (l : List Int) : (wan l).Perm l := by
  have key : ∀ (l acc : List Int), (l.foldl (fun acc x => ins x acc) acc).Perm (acc ++ l) := by
    intro l
    induction l with
    | nil => intro acc; simp
    | cons x l ih =>
      intro acc
      rw [List.foldl_cons]
      refine (ih (ins x acc)).trans ?_
      refine ((wmk x acc).append_right l).trans ?_
      rw [List.cons_append]
      exact List.perm_middle.symm
  have := key l []
  simpa [wan] using this
theorem wjg {l : List Int} {lo hi : Int} : wbz (wan l) lo hi = true ↔ (∀ x ∈ l, lo ≤ x ∧ x ≤ hi) ∧ l.Nodup := by
  obtain ⟨h1, _, h3⟩ := wcj l
  rw [wgi]
  constructor
  · rintro ⟨a, b⟩
    refine ⟨fun x hx => a x ((h3 x).2 hx), (wiv l).nodup_iff.1 ?_⟩
    exact b.imp fun {x y} h => by omega
  · rintro ⟨a, b⟩
    refine ⟨fun x hx => a x ((h3 x).1 hx), ?_⟩
    have hn : (wan l).Nodup := (wiv l).nodup_iff.2 b
    have h4 : (wan l).Pairwise fun x y => x ≤ y ∧ x ≠ y := h1.and hn
    exact h4.imp fun {x y} h => by omega
def wep (l : List Int) (n : Nat) : Bool := decide (l.length = n) && wbz (wan l) 0 ((n : Int) - 1)
theorem wck {l : List Int} {n : Nat} : wep l n = true ↔ l.length = n ∧ (∀ x ∈ l, 0 ≤ x ∧ x < (n : Int)) ∧ l.Nodup := by
  unfold wep
  rw [Bool.and_eq_true, decide_eq_true_eq, wjg]
  constructor
  · rintro ⟨h1, h2, h3⟩
    exact ⟨h1, fun x hx => by have := h2 x hx; omega, h3⟩
  · rintro ⟨h1, h2, h3⟩
    exact ⟨h1, fun x hx => by have := h2 x hx; omega, h3⟩
theorem wns : ∀ (n : Nat) (l : List Int), (∀ a, a < n → (a : Int) ∈ l) → l.length = n → l.Perm ((List.range n).map fun a : Nat => (a : Int))
  | 0, l, _, h => by rw [List.eq_nil_of_length_eq_zero h]; exact .refl _
  | n + 1, l, ha, h => by
    have hm := ha n (by omega)
    have hp := List.perm_cons_erase hm
    have hl : (l.erase (n : Int)).length = n := by rw [List.length_erase_of_mem hm]; omega
    have ih := wns n (l.erase (n : Int)) (fun a h' => (List.mem_erase_of_ne (by omega)).2 (ha a (by omega))) hl
    rw [List.range_succ, List.map_append]
    exact (hp.trans (ih.cons _)).trans (List.perm_append_comm (l₁ := [(n : Int)]))
theorem all_in : ∀ (n : Nat) (l : List Int), l.Nodup → (∀ x ∈ l, 0 ≤ x ∧ x < (n : Int)) → l.length ≤ n ∧ (l.length = n → ∀ a, a < n → (a : Int) ∈ l)
  | 0, l, _, h => by
    cases l with
    | nil => exact ⟨Nat.le_refl _, fun _ a h => by omega⟩
    | cons x l => have := h x (by simp); omega
  | n + 1, l, hd, h => by
    by_cases hm : (n : Int) ∈ l
    · have hl : (l.erase (n : Int)).length = l.length - 1 := List.length_erase_of_mem hm
      have hpos : 0 < l.length := List.length_pos_of_mem hm
      obtain ⟨i1, i2⟩ := all_in n (l.erase (n : Int)) (hd.erase _) fun x hx => by
        have h1 := h x (List.mem_of_mem_erase hx)
        have h2 : x ≠ (n : Int) := fun e => by
          rw [e, hd.mem_erase_iff] at hx
          exact hx.1 rfl
        omega
      refine ⟨by omega, fun he a ha => ?_⟩
      by_cases hq : a = n
      · rw [hq]; exact hm
      · exact List.mem_of_mem_erase (i2 (by omega) a (by omega))
    · obtain ⟨i1, _⟩ := all_in n l hd fun x hx => by
        have h1 := h x hx
        have h2 : x ≠ (n : Int) := fun e => hm (e ▸ hx)
        omega
      exact ⟨by omega, fun he => by omega⟩
theorem wapc {l : List Int} {n : Nat} : wep l n = ((List.range n).all (fun a => l.contains (a : Int)) && decide (l.length = n)) := by
  rw [Bool.eq_iff_iff, wck, Bool.and_eq_true, decide_eq_true_eq, List.all_eq_true]
  simp only [List.mem_range, List.contains_iff_mem]
  constructor
  · rintro ⟨h1, h2, h3⟩
    exact ⟨(all_in n l h3 h2).2 h1, h1⟩
  · rintro ⟨h1, h2⟩
    have hp := wns n l h1 h2
    refine ⟨h2, fun x hx => ?_, ?_⟩
    · obtain ⟨a, ha, rfl⟩ := List.mem_map.1 (hp.mem_iff.1 hx)
      have := List.mem_range.1 ha
      omega
    · rw [hp.nodup_iff]
      refine List.Pairwise.map _ (fun a b h => ?_) List.nodup_range
      omega
theorem wze {l : List Int} {n : Nat} (hn : n ≤ 12) (hl : l.length ≤ 1099511627776) : wavt l (n : Int) = some (wep l n) := by
  unfold wep wavt wavs wacq waip wava wbgg
  by_cases h : l.length = n
  · have e : (((l.length : Nat) : Int) == (n : Int)) = true := beq_iff_eq.2 (by omega)
    have hc : wdp l = some l := by unfold wdp; rw [if_pos (by omega)]
    have hsl : (wan l).length = l.length := (wcj l).2.1
    have hs : wdu (wan l) := by unfold wdu; omega
    simp (disch := omega) only [EV, e, hc, whg (l := l) (by omega), wmj hs (n := (n : Int)) (by omega) (by omega), h]
    rw [beq_self_eq_true]
    rfl
  · have e : (((l.length : Nat) : Int) == (n : Int)) = false := beq_eq_false_iff_ne.2 (by omega)
    simp (disch := omega) only [EV, e, h]
theorem wadd {l : List Int} (hl : l.length ≤ 12) : wacq l = some (wan l) := by
  unfold wacq waip wbgg
  have hc : wdp l = some l := by unfold wdp; rw [if_pos (by omega)]
  simp (disch := omega) only [EV, hc, whg hl]
theorem wvw {l : List Int} (hl : (l.length : Int) < 9223372036854775807) (x : Int) : wahc l x = some (l.contains x) := by
  have hs : wahb (l, x) 0 = _ := wfi (f := fun v => (wlu (l, x) v).ev) (l := l) 0 (fun y => y == x) (mk := fun i => (i : Int)) (yes := fun _ => .inr ()) (no := .inl ()) (fun i hi => by
    simp (disch := omega) only [EV, wlu, hi]
    cases (l.getD i 0 == x) <;> rfl) (by simp (disch := omega) only [EV, wlu, Nat.lt_irrefl])
  unfold wahc watm
  simp (disch := omega) only [EV, hs]
  have e : l.contains x = l.any fun y => y == x := by
    rw [List.contains_eq_any_beq]
    congr 1
    funext y
    exact Bool.beq_comm
  rw [e]
  have h2 := wen (l := l) (q := fun y => y == x)
  cases h : l.findIdx? fun y => y == x with
  | none =>
    rw [h] at h2
    have h3 : (l.any fun y => y == x) = false := by
      rw [Bool.eq_false_iff]
      exact fun h4 => by have := h2.1 h4; simp at this
    rw [h3]
    rfl
  | some i =>
    rw [h] at h2
    rw [h2.2 rfl]
    rfl
theorem wzf {o : List Int} {l : List Int} (ho : wdu o) (hl : (l.length : Int) < 9223372036854775807) (ds : List (List Int)) : waxa o ds l = some (wep l o.length) := by
  unfold wdu at ho
  have h := whc (f := fun v => (wmd (l, (o, ds)) v).ev) (n := o.length) (mk := fun i => (i : Int)) (p := fun i => l.contains (i : Int)) (yes := .inl ()) (no := .inr ())
    (fun i hi _ => by
      simp (disch := omega) only [EV, wmd, hi, wvw hl]
      cases l.contains (i : Int) <;> rfl)
    (by simp (disch := omega) only [EV, wmd, Nat.lt_irrefl])
  have h0 : wajx (l, (o, ds)) 0 = _ := h
  unfold waxa wawz
  rw [wapc, Tr.ev_c, h0, Option.bind_some]
  cases (List.range o.length).all fun a => l.contains (a : Int) with
  | false => rfl
  | true =>
    rw [cond_true, Bool.true_and]
    simp (disch := omega) only [EV]
    rw [int_eq]
theorem whj {l : List Int} {x : Int} (hl : l.length ≤ 100) (hx : x ∉ l) : wxs l x = some (ins x l) := by
  have h := wfi (f := fun v => (wij (l, x) v).ev) (l := l) 0 (fun y => !decide (y ≤ x)) (mk := fun i => (i : Int)) (yes := fun i => (i : Int)) (no := (l.length : Int))
    (fun i hi => by
      have hne : l.getD i 0 ≠ x := fun e => hx (e ▸ getD_mem hi)
      by_cases hlt : l.getD i 0 < x
      · have hle : l.getD i 0 ≤ x := by omega
        simp (disch := omega) only [EV, wij, hi, hlt, hle]
        rfl
      · have hle : ¬ l.getD i 0 ≤ x := by omega
        simp (disch := omega) only [EV, wij, hi, hlt, hle])
    (by simp (disch := omega) only [EV, wij, Nat.lt_irrefl])
  have h0 : wxr (l, x) 0 = some ((((l.findIdx? fun y => !decide (y ≤ x)).elim l.length id : Nat) : Int)) := by
    have h1 : wxr (l, x) 0 = _ := h
    rw [h1]
    cases l.findIdx? fun y => !decide (y ≤ x) <;> rfl
  have hi := waav x l
  have hle : (l.findIdx? fun y => !decide (y ≤ x)).elim l.length id ≤ l.length := by
    cases hf : l.findIdx? fun y => !decide (y ≤ x) with
    | none => exact Nat.le_refl _
    | some j =>
      obtain ⟨hj, _⟩ := List.findIdx?_eq_some_iff_getElem.1 hf
      exact Nat.le_of_lt hj
  generalize (l.findIdx? fun y => !decide (y ≤ x)).elim l.length id = i at h0 hi hle
  have hfin : List.drop 0 (List.take i l) ++ [x] ++ List.drop i (List.take l.length l) = ins x l := by
    rw [List.take_length, List.drop_zero, ← hi]
    simp
  have hlen : (List.drop 0 (List.take i l)).length ≤ 100 := by simp; omega
  have hlen2 : (List.drop i (List.take l.length l)).length ≤ 100 := by simp; omega
  have g1 : (decide (0 ≤ (i : Int)) && decide ((i : Int) ≤ ((l.length : Nat) : Int))) = true := by
    rw [decide_eq_true (by omega), decide_eq_true (by omega)]
    rfl
  unfold wxs watq
  rw [Tr.ev_c, h0, Option.bind_some]
  by_cases hlt : i < l.length
  · have hne : (l.getD i 0 == x) = false := beq_eq_false_iff_ne.2 fun e => hx (e ▸ getD_mem hlt)
    simp (disch := omega) only [EV, hlt, hne, List.nil_append, List.length_nil, List.length_append, List.length_cons, hle]
    rw [g1, cond_true, cond_true, if_pos (by omega), if_pos (by omega), if_pos (by omega)]
    exact congrArg some hfin
  · simp (disch := omega) only [EV, hlt, List.nil_append, List.length_nil, List.length_append, List.length_cons, hle]
    rw [g1, cond_true, cond_true, if_pos (by omega), if_pos (by omega), if_pos (by omega)]
    exact congrArg some hfin
def wml (ds : List (List Int)) (n : Nat) (k : Int) : List Int := wax (serve ds) (wwk n k)
def wzg (ds : List (List Int)) (n : Nat) (k : Int) : Int := serve ds (wml ds n k)
theorem wbw {n : Nat} (h1 : 1 ≤ n) (h7 : n ≤ 7) {k : Int} {s : List Int} (hs : s ∈ wwk n k) : Places s n ∧ (s.length : Int) = k ∧ 0 < s.length ∧ wdu s := by
  obtain ⟨a, b⟩ := wtn.1 hs
  obtain ⟨c, d, e⟩ := weo h7 (wbac h1 h7) a
  exact ⟨c, b, d, e⟩
theorem wfq {ds : List (List Int)} {n : Nat} (h7 : n ≤ 7) {k : Int} (hk : 1 ≤ k ∧ k ≤ (n : Int)) : wml ds n k ∈ wwk n k :=
  (wct (wtm h7 hk.1 hk.2)).1
theorem wbmo {o : List Int} {ds : List (List Int)} (hf : Fld o ds) {k : Int} (hk : 1 ≤ k ∧ k ≤ (o.length : Int)) : 0 ≤ wzg ds o.length k ∧ wzg ds o.length k ≤ 693 := by
  obtain ⟨a, _, c, _⟩ := wbw hf.pos hf.len (wfq (ds := ds) hf.len hk)
  exact waar hf a c
theorem wvx {o : List Int} {ds : List (List Int)} (hf : Fld o ds) {k : Int} (hk : 1 ≤ k ∧ k ≤ (o.length : Int)) : F_zg o ds k = some (wml ds o.length k) := by
  have h7 := hf.len
  have h1 := hf.pos
  have hS := wbac h1 h7
  obtain ⟨x, e1, e2, e3⟩ := hS.im
  have hl128 := wvv hS h7
  have hxl : x.1.length = (wau o.length).length := by rw [← e3, whh]
  obtain ⟨y, k1, k2, k3⟩ := wtl (x := x) e2 (by omega) (p := fun h2_ => Option.bind (F_zh h2_.1 k) fun y3_ => some y3_) (q := fun s => !decide ((s.length : Int) = k)) fun s hs => by
    rw [e3] at hs
    obtain ⟨p1, p2, p3⟩ := weo h7 hS hs
    unfold wdu at p3
    show Option.bind (F_zh s k) _ = _
    unfold F_zh T_zh
    simp (disch := omega) only [EV]
    by_cases h : (s.length : Int) = k <;> simp [h]
  have hkk : waz y.1 y.2 = wwk o.length k := by
    rw [k3, e3]
    unfold wwk
    congr 1
    funext s
    simp
  have hyl : y.1.length = (wwk o.length k).length := by rw [← hkk, whh]
  have hpos := List.length_pos_iff.2 (wtm h7 (k := k) hk.1 hk.2)
  have hle0 : (wwk o.length k).length ≤ (wau o.length).length := List.length_filter_le _ _
  have hle := wapa (x := y) k2 (by omega) (by omega) (p := fun h5_ => Option.bind (F_zk o ds h5_.1) fun y6_ => some y6_) (g := serve ds) fun s hs => by
    rw [hkk] at hs
    obtain ⟨p1, _, p2, _⟩ := wbw h1 h7 hs
    show Option.bind (F_zk o ds s) _ = _
    rw [wee hf p1 p2]
    rfl
  rw [hkk] at hle
  unfold F_zg T_zg wml
  simp (disch := omega) only [EV, e1, k1, hle]
theorem wade {n : Nat} (h1 : 1 ≤ n) (h7 : n ≤ 7) {k : Int} (hk : 1 ≤ k ∧ k ≤ (n : Int)) (g : List Int → Int) : wanm (fun s => decide ((s.length : Int) = k)) g (wau n) = wax g (wwk n k) := by
  rw [wayo (wau n) fun s hs e => by
    have := (weo h7 (wbac h1 h7) hs).2.1
    rw [e] at this
    simp at this]
  rw [if_neg (show ¬ (wau n).filter (fun s => decide ((s.length : Int) = k)) = [] from wtm h7 hk.1 hk.2)]
  rfl
theorem wapd {o : List Int} {ds : List (List Int)} (hf : Fld o ds) {k : Int} (hk : 1 ≤ k ∧ k ≤ (o.length : Int)) : waxn o ds k = some (wml ds o.length k) := by
  have h7 := hf.len
  have hn1 := hf.pos
  have hS := wbac (n := o.length) hn1 h7
  have hl128 := wvv hS h7
  have h0 := wnl (f := fun v => (wfh (k, (wau o.length, (o, ds))) v).ev) (wau o.length) [] (mk := fun i s => (s, (i : Int))) (I := fun _ s => s = [] ∨ s ∈ wwk o.length k)
    (g := fun c s => if decide ((s.length : Int) = k) = true ∧ (c = [] ∨ serve ds s < serve ds c) then s else c) (fin := fun s => s) (s0 := []) (.inl rfl)
    (fun i s hi hI => by
      have hm' : (wau o.length).getD i [] ∈ wau o.length := getD_mem hi
      obtain ⟨p1, p2, _⟩ := weo h7 hS hm'
      have e1 := wcz hf p1 p2
      by_cases hv : (((wau o.length).getD i []).length : Int) = k
      · have hin : (wau o.length).getD i [] ∈ wwk o.length k := wtn.2 ⟨hm', hv⟩
        have hq : ((((wau o.length).getD i []).length : Int) == k) = true := beq_iff_eq.2 hv
        refine ⟨?_, ?_⟩
        · rcases hI with rfl | hs
          · have hz : (((List.length ([] : List Int) : Nat) : Int) == 0) = true := rfl
            simp (disch := omega) only [EV, wfh, hi, hq, hz]
            rw [if_pos ⟨by simpa using hv, .inl trivial⟩]
            rfl
          · obtain ⟨q1, q2, q3, _⟩ := wbw hn1 h7 hs
            have hz : (((s.length : Nat) : Int) == 0) = false := beq_eq_false_iff_ne.2 (by omega)
            have hne : s ≠ [] := fun e => by rw [e] at q3; simp at q3
            have e2 := wcz hf q1 q3
            by_cases hc : serve ds ((wau o.length).getD i []) < serve ds s
            · simp (disch := omega) only [EV, wfh, hi, hq, hz, e1, e2, hc]
              rw [if_pos ⟨by simpa using hv, .inr trivial⟩]
              rfl
            · simp (disch := omega) only [EV, wfh, hi, hq, hz, e1, e2, hc]
              rw [if_neg (fun h => h.2.elim hne id)]
              rfl
        · split
          · exact .inr hin
          · exact hI
      · have hq : ((((wau o.length).getD i []).length : Int) == k) = false := beq_eq_false_iff_ne.2 hv
        rw [if_neg (fun h => hv (by simpa using h.1))]
        exact ⟨by simp (disch := omega) only [EV, wfh, hi, hq]; rfl, hI⟩)
    (fun s _ => by simp (disch := omega) only [EV, wfh, Nat.lt_irrefl])
  have h1 : wakj (k, (wau o.length, (o, ds))) (([] : List Int), (0 : Int)) = some (wanm (fun s => decide ((s.length : Int) = k)) (serve ds) (wau o.length)) := h0.1
  rw [wade hn1 h7 hk] at h1
  unfold waxn waxm wml
  simp (disch := omega) only [EV, hS.sp, h1]
end Go.Proofs.YtbofjefpngpegaaGreat
