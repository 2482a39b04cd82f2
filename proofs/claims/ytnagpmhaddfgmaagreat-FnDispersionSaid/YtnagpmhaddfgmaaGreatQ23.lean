/-
 The laws of the best dispersion, the best ordered value and farthest places.
-/
import Derived.Test.YtnagpmhaddfgmaaGreatP34
import Derived.Test.YtnagpmhaddfgmaaGreatP10
import Derived.Test.YtnagpmhaddfgmaaGreatP7
import Derived.Test.YtnagpmhaddfgmaaGreatPM
namespace Go.Proofs.YtnagpmhaddfgmaaGreat
def kB (m : List (List Int)) (k : Int) : Bool := wak m && wfa k 2 (m.length : Int)
theorem wvw {m : List (List Int)} {k : Int} (h : kB m k = true) : Ground m ∧ 2 ≤ k ∧ k ≤ (m.length : Int) := by
 unfold kB at h
 rw [Bool.and_eq_true, wag, wcg] at h
 exact h
theorem wapd {m : List (List Int)} (hm : wla m) (k : Int) : waku m k = some (kB m k) := by
 unfold waku wbdy kB
 simp (disch := omega) only [EV, wdb hm, wep]
 cases wak m <;> rfl
theorem wck {n : Nat} (h1 : 1 ≤ n) (h7 : n ≤ 7) {k : Int} {s : List Int} (hs : s ∈ wie n k) : Places s n ∧ (s.length : Int) = k ∧ 0 < s.length ∧ wew s := by
 obtain ⟨a, b⟩ := wlx.1 hs
 obtain ⟨c, d, e⟩ := wfn h7 (waoy h1 h7) a
 exact ⟨c, b, d, e⟩
theorem wape {n : Nat} (h1 : 1 ≤ n) (h7 : n ≤ 7) {k : Int} (hk : 1 ≤ k ∧ k ≤ (n : Int)) (g : List Int → Int) : waox (fun s => decide ((s.length : Int) = k)) g (wbf n) = waj g (wie n k) := by
 rw [waxl (wbf n) fun s hs e => by
  have := (wfn h7 (waoy h1 h7) hs).2.1
  rw [e] at this
  simp at this]
 rw [if_neg (show ¬ (wbf n).filter (fun s => decide ((s.length : Int) = k)) = [] from wif h7 hk.1 hk.2)]
 rfl
theorem wha {n : Nat} (h7 : n ≤ 7) {k : Int} (hk : 1 ≤ k ∧ k ≤ (n : Int)) (g : List Int → Int) : waj g (wie n k) ∈ wie n k :=
 (wco (wif h7 hk.1 hk.2)).1
def wkn (m : List (List Int)) (k : Int) : Bool × List Int := bif kB m k then (true, waj (fun s => -wcj m s 100) (wie m.length k)) else (false, [])
theorem wapf (m : List (List Int)) (k : Int) : wew (wkn m k).2 := by
 unfold wkn
 cases h : kB m k with
 | false => show wew []; unfold wew; simp
 | true =>
  obtain ⟨hG, h1, h2⟩ := wvw h
  have h7 := hG.len
  exact (wck (by omega) h7 (wha h7 ⟨by omega, h2⟩ _)).2.2.2
theorem wdi {m : List (List Int)} (hm : wla m) (k : Int) : F_ze m k = some (wkn m k) := by
 unfold F_ze T_ze wkn kB
 simp (disch := omega) only [EV, wan hm, wbr]
 cases hg : wak m with
 | false => rfl
 | true =>
  cases hk : wfa k 2 (m.length : Int) with
  | false => rfl
  | true =>
   have hG := (wag m).1 hg
   have hk2 := wcg.1 hk
   have h7 := hG.len
   obtain ⟨y, k1, k2, k3, k4, k5⟩ := wvt (n := m.length) (by omega) h7 k
   have hpos := List.length_pos_iff.2 (wif h7 (k := k) (by omega) hk2.2)
   have hle := wvs (x := y) k2 (by omega) (by omega) (p := fun h4_ => Option.bind (F_zf h4_.1 m) fun y5_ => some y5_) (g := fun s => -wcj m s 100) fun s hs => by
    rw [k3] at hs
    obtain ⟨p1, _⟩ := wck (by omega) h7 hs
    have hb := wyy hG p1
    show Option.bind (F_zf s m) _ = _
    unfold F_zf T_zf
    simp (disch := omega) only [EV, wfm hG p1, Int.zero_sub]
   rw [k3] at hle
   simp (disch := omega) only [EV, k1, hle]
theorem whg {m : List (List Int)} (hm : wla m) (k : Int) : wauh m k = some ((wkn m k).2, (wkn m k).1) := by
 unfold wauh wbeg wkn
 simp (disch := omega) only [EV, wapd hm]
 cases hb : kB m k with
 | false => rfl
 | true =>
  obtain ⟨hG, hk1, hk2⟩ := wvw hb
  have h7 := hG.len
  have hS := waoy (n := m.length) (by omega) h7
  have hl128 := wvr hS h7
  have h0 := wgy (f := fun v => (wgk (m, (k, wbf m.length)) v).ev) (wbf m.length) [] (mk := fun i s => (s, (i : Int))) (I := fun _ s => s = [] ∨ s ∈ wie m.length k)
   (g := fun c s => if decide ((s.length : Int) = k) = true ∧ (c = [] ∨ -wcj m s 100 < -wcj m c 100) then s else c) (fin := fun s => s) (s0 := []) (.inl rfl)
   (fun i s hi hI => by
    have hm' : (wbf m.length).getD i [] ∈ wbf m.length := getD_mem hi
    obtain ⟨p1, _, _⟩ := wfn h7 hS hm'
    by_cases hv : (((wbf m.length).getD i []).length : Int) = k
    ·have hin : (wbf m.length).getD i [] ∈ wie m.length k := wlx.2 ⟨hm', hv⟩
     have hq : ((((wbf m.length).getD i []).length : Int) == k) = true := beq_iff_eq.2 hv
     have e1 := wdf hG p1 (by omega)
     refine ⟨?_, ?_⟩
     ·rcases hI with rfl | hs
      ·have hz : (((List.length ([] : List Int) : Nat) : Int) == 0) = true := rfl
       simp (disch := omega) only [EV, wgk, hi, hq, hz]
       rw [if_pos ⟨by simpa using hv, .inl trivial⟩]
       rfl
      ·obtain ⟨q1, q2, q3, _⟩ := wck (by omega) h7 hs
       have hz : (((s.length : Nat) : Int) == 0) = false := beq_eq_false_iff_ne.2 (by omega)
       have hne : s ≠ [] := fun e => by rw [e] at q3; simp at q3
       have e2 := wdf hG q1 (by omega)
       by_cases hc : wcj m s 100 < wcj m ((wbf m.length).getD i []) 100
       ·simp (disch := omega) only [EV, wgk, hi, hq, hz, e1, e2, hc]
        rw [if_pos ⟨by simpa using hv, .inr (by omega)⟩]
        rfl
       ·simp (disch := omega) only [EV, wgk, hi, hq, hz, e1, e2, hc]
        rw [if_neg (fun h => h.2.elim hne (by omega))]
        rfl
     ·split
      ·exact .inr hin
      ·exact hI
    ·have hq : ((((wbf m.length).getD i []).length : Int) == k) = false := beq_eq_false_iff_ne.2 hv
     rw [if_neg (fun h => hv (by simpa using h.1))]
     exact ⟨by simp (disch := omega) only [EV, wgk, hi, hq]; rfl, hI⟩)
   (fun s _ => by simp (disch := omega) only [EV, wgk, Nat.lt_irrefl])
  have h1 : wakz (m, (k, wbf m.length)) (([] : List Int), (0 : Int)) = some (waox (fun s => decide ((s.length : Int) = k)) (fun s => -wcj m s 100) (wbf m.length)) := h0.1
  rw [wape (by omega) h7 ⟨by omega, hk2⟩] at h1
  simp (disch := omega) only [EV, hS.sp, h1]
theorem wen {l : List Int} (hl : (l.length : Int) < 9223372036854775807) (x : Int) : waum l x = some (l.contains x) := by
 have hs : walb (l, (x, ((l.length : Nat) : Int))) 0 = _ := wex (f := fun v => (wnt (l, (x, ((l.length : Nat) : Int))) v).ev) (l := l) 0 (fun y => x == y) (mk := fun i => (i : Int)) (yes := fun i => .inr (i : Int)) (no := .inl ()) (fun i hi => by
  simp (disch := omega) only [EV, wnt, hi]
  cases (x == l.getD i 0) <;> rfl) (by simp (disch := omega) only [EV, wnt, Nat.lt_irrefl])
 unfold waum wbes wbeo wben
 simp (disch := omega) only [EV, hs]
 rw [List.contains_eq_any_beq]
 have h2 := wed (l := l) (q := fun y => x == y)
 cases h : l.findIdx? fun y => x == y with
 | none =>
  rw [h] at h2
  have h3 : (l.any fun y => x == y) = false := by
   rw [Bool.eq_false_iff]
   exact fun h4 => by have := h2.1 h4; simp at this
  rw [h3]
  rfl
 | some i =>
  rw [h] at h2
  rw [h2.2 rfl]
  exact congrArg some (decide_eq_true (by omega))
theorem wlz {l : List Int} (hl : (l.length : Int) < 9223372036854775807) (x : Int) : wyf l x = some (l.contains x) := by
 have hs : wye (l, x) 0 = _ := wex (f := fun v => (wgl (l, x) v).ev) (l := l) 0 (fun y => y == x) (mk := fun i => (i : Int)) (yes := fun _ => .inr ()) (no := .inl ()) (fun i hi => by
  simp (disch := omega) only [EV, wgl, hi]
  cases (l.getD i 0 == x) <;> rfl) (by simp (disch := omega) only [EV, wgl, Nat.lt_irrefl])
 unfold wyf waun
 simp (disch := omega) only [EV, hs]
 have e : l.contains x = l.any fun y => y == x := by
  rw [List.contains_eq_any_beq]
  congr 1
  funext y
  exact Bool.beq_comm
 rw [e]
 have h2 := wed (l := l) (q := fun y => y == x)
 cases h : l.findIdx? fun y => y == x with
 | none =>
  rw [h] at h2
  have h3 : (l.any fun y => y == x) = false := by
   rw [Bool.eq_false_iff]
   exact fun h4 => by have := h2.1 h4; simp at this
  rw [h3]
  rfl
 | some i =>
  rw [h] at h2
  rw [h2.2 rfl]
  rfl
theorem wbaj {m : List (List Int)} {out : List Int} (h : ∀ x ∈ out, 0 ≤ x ∧ x < (m.length : Int)) {i : Nat} (hi : i < out.length) : ∃ b : Nat, out.getD i 0 = (b : Int) ∧ b < m.length := by
 have := h _ (getD_mem (d := 0) hi)
 exact ⟨(out.getD i 0).toNat, by omega, by omega⟩
def farR (m : List (List Int)) (k : Int) : Bool × List Int := bif kB m k then (true, wbp m (k.toNat - 2)) else (false, [])
theorem wtb {m : List (List Int)} (hm : Ground m) (h2 : 2 ≤ m.length) : FarL m 2 (waj (fun s => -wcj m s 100) (wie m.length 2)) := by
 have h7 := hm.len
 obtain ⟨p1, p2, _, _⟩ := wck (n := m.length) (by omega) h7 (wha h7 (k := 2) ⟨by omega, by omega⟩ fun s => -wcj m s 100)
 refine ⟨by omega, fun x hx => ?_⟩
 obtain ⟨i, hi, rfl⟩ := List.getElem_of_mem hx
 have := p1.mem i hi
 rw [List.getD_eq_getElem?_getD, List.getElem?_eq_getElem hi] at this
 exact this
theorem wadz {m : List (List Int)} (hm : Ground m) : ∀ j, 2 + j ≤ m.length → FarL m (2 + j) (wbp m j)
 | 0, h => wtb hm (by omega)
 | j + 1, h => by
  have e : wbp m (j + 1) = wbp m j ++ [wdg m (wbp m j)] := by unfold wbp; rw [wau]
  rw [e]
  exact (wadz hm j (by omega)).snoc (by omega)
theorem waxt (m : List (List Int)) (k : Int) : wew (farR m k).2 := by
 unfold farR
 cases h : kB m k with
 | false => show wew []; unfold wew; simp
 | true =>
  obtain ⟨hG, h1, h2⟩ := wvw h
  have h7 := hG.len
  have := (wadz hG (k.toNat - 2) (by omega)).len
  show wew (wbp m (k.toNat - 2))
  unfold wew
  omega
theorem wbmb {m : List (List Int)} (hm : Ground m) {out : List Int} (ho : ∀ x ∈ out, 0 ≤ x ∧ x < (m.length : Int)) (hl : out.length ≤ 7) {a : Nat} (ha : a < m.length) (k1 k2 k3 k5 k6 : Int) :
  wazd (k1, (k2, (k3, ((a : Int), (k5, (k6, ((out.length : Int), (m, out)))))))) (99, 0) = some (wem m out a) := by
 have h7 := hm.len
 have := (wgy (f := fun v => (wuy (k1, (k2, (k3, ((a : Int), (k5, (k6, ((out.length : Int), (m, out)))))))) v).ev) out 0 (mk := fun i s => (s, (i : Int))) (I := fun _ _ => True)
  (g := fun w b => min w (at2 m a b.toNat)) (fin := fun w => w) (s0 := 99) trivial
  (fun i w hi _ => by
   obtain ⟨b, e, hb⟩ := wbaj ho hi
   have e3 : (m.getD a []).getD b 0 = at2 m a b := rfl
   refine ⟨?_, trivial⟩
   simp (disch := omega) only [EV, wuy, hi, ha, e, hm.rowLen ha, hb, e3, Int.toNat_natCast]
   by_cases h : at2 m a b < w
   ·rw [if_pos h, Int.min_eq_right (by omega)]; rfl
   ·rw [if_neg h, Int.min_eq_left (by omega)]; rfl)
  (fun w _ => by simp (disch := omega) only [EV, wuy, Nat.lt_irrefl])).1
 exact this
theorem wbmc {m : List (List Int)} (hm : Ground m) {out : List Int} (ho : ∀ x ∈ out, 0 ≤ x ∧ x < (m.length : Int)) (hl : out.length ≤ 7) (k1 : Int) :
  waze (k1, ((m.length : Int), (m, out))) (-1, (-1, 0)) = some (wdg m out) := by
 have h7 := hm.len
 have h := waq (f := fun v => (wkz (k1, ((m.length : Int), (m, out))) v).ev) (n := m.length) (mk := fun i b => (b, ((if b < 0 then -1 else wem m out b.toNat), (i : Int)))) (I := fun i b => FarI m out i b)
  (g := fun (best : Int) (a : Nat) => bif out.contains (a : Int) then best else if best < 0 ∨ wem m out best.toNat < wem m out a then (a : Int) else best) (fin := fun b => b) (s0 := -1) (wly m out 0)
  (fun i b hi hI => by
   refine ⟨?_, won hI⟩
   have h4 := wbmb hm ho hl hi
   have hge := wapb hm hi ho
   cases hc : out.contains (i : Int) with
   | true =>
    simp (disch := omega) only [EV, wkz, hi, wen (l := out) (by omega), hc]
    rfl
   | false =>
    rcases hI with ⟨rfl, _⟩ | ⟨q, rfl, hq, _⟩
    ·have e1 : (if (-1 : Int) < 0 then (-1 : Int) else wem m out (-1 : Int).toNat) = -1 := rfl
     have e2 : ((-1 : Int) < 0 ∨ wem m out (-1 : Int).toNat < wem m out i) := .inl (by omega)
     have e3 : (-1 : Int) < wem m out i := by omega
     have e4 : ¬ (i : Int) < 0 := by omega
     rw [if_pos e2, e1]
     simp (disch := omega) only [EV, wkz, hi, wen (l := out) (by omega), hc, h4, e3, e4, Int.toNat_natCast]
     rfl
    ·have e4 : ¬ (q : Int) < 0 := by omega
     have e5 : ¬ (i : Int) < 0 := by omega
     by_cases hd : wem m out q < wem m out i
     ·simp (disch := omega) only [EV, wkz, hi, wen (l := out) (by omega), hc, h4, e4, e5, hd, Int.toNat_natCast]
      rfl
     ·simp (disch := omega) only [EV, wkz, hi, wen (l := out) (by omega), hc, h4, e4, e5, hd, Int.toNat_natCast]
      rfl)
  (fun b _ => by simp (disch := omega) only [EV, wkz, Nat.lt_irrefl])
 exact h.1
theorem wig {m : List (List Int)} (hm : wla m) (k : Int) : F_zh m k = some (farR m k) := by
 unfold F_zh T_zh farR kB
 simp (disch := omega) only [EV, wan hm, wbr]
 cases hg : wak m with
 | false => rfl
 | true =>
  cases hk : wfa k 2 (m.length : Int) with
  | false => rfl
  | true =>
   have hG := (wag m).1 hg
   have hk2 := wcg.1 hk
   have h7 := hG.len
   obtain ⟨y, k1, k2, k3, k4, k5⟩ := wvt (n := m.length) (by omega) h7 2
   have hpos := List.length_pos_iff.2 (wif h7 (k := 2) (by omega) (by omega))
   have hle := wvs (x := y) k2 (by omega) (by omega) (p := fun h4_ => Option.bind (F_zi h4_.1 m) fun y5_ => some y5_) (g := fun s => -wcj m s 100) fun s hs => by
    rw [k3] at hs
    obtain ⟨p1, _⟩ := wck (by omega) h7 hs
    have hb := wyy hG p1
    show Option.bind (F_zi s m) _ = _
    unfold F_zi T_zi
    simp (disch := omega) only [EV, wfm hG p1, Int.zero_sub]
   rw [k3] at hle
   have h := waq (f := fun v => (wuz (k, m) v).ev) (n := k.toNat - 2) (mk := fun _ s => s) (I := fun i s => FarL m (2 + i) s) (g := fun out _ => out ++ [wdg m out]) (fin := fun s => s)
    (wtb hG (by omega))
    (fun i out hi hI => by
     have hl := hI.len
     have h2 := wbmc hG hI.mem (by omega) k
     have r1 : (out.length + List.length ([wdg m out] : List Int)) * 8 ≤ 140737488355328 := by simp; omega
     have hlt : ((out.length : Nat) : Int) < k := by omega
     exact ⟨by simp (disch := omega) only [EV, wuz, hlt, h2, r1], hI.snoc (by omega)⟩)
    (fun out hI => by
     have hlt : ¬ ((out.length : Nat) : Int) < k := by have := hI.len; omega
     simp (disch := omega) only [EV, wuz, hlt])
   have h0 : wazf (k, m) (waj (fun s => -wcj m s 100) (wie m.length 2)) = some (wbp m (k.toNat - 2)) := h.1
   simp (disch := omega) only [EV, k1, hle, h0]
theorem wjn {m : List (List Int)} (hm : Ground m) {out : List Int} (ho : ∀ x ∈ out, 0 ≤ x ∧ x < (m.length : Int)) (h0 : out ≠ []) (hl : out.length ≤ 7) {x : Nat} (hx : x < m.length) :
  walg m out (x : Int) = some (wem m out x) := by
 have h7 := hm.len
 obtain ⟨b, t, rfl⟩ := List.exists_cons_of_ne_nil h0
 obtain ⟨c, rfl, hc⟩ : ∃ c : Nat, b = (c : Int) ∧ c < m.length := by
  have := ho b List.mem_cons_self
  exact ⟨b.toNat, by omega, by omega⟩
 have ht : ∀ y ∈ t, 0 ≤ y ∧ y < (m.length : Int) := fun y hy => ho y (List.mem_cons_of_mem _ hy)
 have e1 : (m.getD c []).getD x 0 = at2 m x c := hm.sym c x hc hx
 have hl' : t.length + 1 ≤ 7 := hl
 have h := (wgy (f := fun v => (wnu (m, ((c : Int) :: t, (x : Int))) v).ev) t 0 (mk := fun i s => (s, ((i + 1 : Nat) : Int))) (I := fun _ _ => True)
  (g := fun w b => min w (at2 m x b.toNat)) (fin := fun w => w) (s0 := at2 m x c) trivial
  (fun i w hi _ => by
   obtain ⟨b, e, hb⟩ := wbaj ht hi
   have e3 : (m.getD b []).getD x 0 = at2 m x b := hm.sym b x hb hx
   have hi' : i + 1 < ((c : Int) :: t).length := by simpa using hi
   have e4 : ((c : Int) :: t).getD (i + 1) 0 = (b : Int) := by rw [← e]; rfl
   refine ⟨?_, trivial⟩
   simp (disch := omega) only [EV, wnu, hi', e4, e, hb, hm.rowLen hb, hx, e3, wgz, Int.toNat_natCast]
   rfl)
  (fun w _ => by
   have e5 : ((c : Int) :: t).length = t.length + 1 := rfl
   simp (disch := omega) only [EV, wnu, e5, Nat.lt_irrefl])).1
 have hr : walf (m, ((c : Int) :: t, (x : Int))) (at2 m x c, 1) = _ := h
 have z0 : Int.toNat 0 = 0 := rfl
 have e6 : ((c : Int) :: t).getD 0 0 = (c : Int) := rfl
 have e7 : inR (0 : Int) ((c : Int) :: t).length = true := wcu (by omega) (by rw [List.length_cons]; omega)
 unfold walg wbew
 simp (disch := omega) only [EV, z0, e6, e7, hc, hm.rowLen hc, hx, e1, hr]
 have h9 := hm.in hx hc
 unfold wem
 rw [List.foldl_cons, Int.toNat_natCast, Int.min_eq_right (by omega)]
theorem wbmd {m : List (List Int)} (hm : Ground m) {out : List Int} (ho : ∀ x ∈ out, 0 ≤ x ∧ x < (m.length : Int)) (h0 : out ≠ []) (hl : out.length ≤ 7) (k1 : Int) :
  wali (m, (k1, out)) (-1, 0) = some (wdg m out) := by
 have h7 := hm.len
 have h := waq (f := fun v => (wgm (m, (k1, out)) v).ev) (n := m.length) (mk := fun i b => (b, (i : Int))) (I := fun i b => FarI m out i b)
  (g := fun (best : Int) (a : Nat) => bif out.contains (a : Int) then best else if best < 0 ∨ wem m out best.toNat < wem m out a then (a : Int) else best) (fin := fun b => b) (s0 := -1) (wly m out 0)
  (fun i b hi hI => by
   refine ⟨?_, won hI⟩
   have e1 := wjn hm ho h0 hl hi
   cases hc : out.contains (i : Int) with
   | true =>
    simp (disch := omega) only [EV, wgm, hi, wlz (l := out) (by omega), hc]
    rfl
   | false =>
    rcases hI with ⟨rfl, _⟩ | ⟨q, rfl, hq, _⟩
    ·have e2 : ((-1 : Int) < 0 ∨ wem m out (-1 : Int).toNat < wem m out i) := .inl (by omega)
     rw [if_pos e2]
     simp (disch := omega) only [EV, wgm, hi, wlz (l := out) (by omega), hc]
     rfl
    ·have e4 : ¬ (q : Int) < 0 := by omega
     have e3 := wjn hm ho h0 hl (show q < m.length by omega)
     by_cases hd : wem m out q < wem m out i
     ·simp (disch := omega) only [EV, wgm, hi, wlz (l := out) (by omega), hc, e4, e1, e3, hd, Int.toNat_natCast]
      rfl
     ·simp (disch := omega) only [EV, wgm, hi, wlz (l := out) (by omega), hc, e4, e1, e3, hd, Int.toNat_natCast]
      rfl)
  (fun b _ => by simp (disch := omega) only [EV, wgm, Nat.lt_irrefl])
 exact h.1
def waxu (m : List (List Int)) (s : List Int) : Prop := ∃ p q : Nat, s = [(p : Int), (q : Int)] ∧ p < m.length ∧ q < m.length
theorem waxv {m : List (List Int)} (hm : Ground m) (k : Int) {i : Nat} (hi : i < m.length) {s : List Int} (hs : waxu m s) :
  walh (m, (k, (i : Int))) (((i + 1 : Nat) : Int), s) = some ((List.range (m.length - (i + 1))).foldl (fun s t => if -wcj m [(i : Int), ((i + 1 + t : Nat) : Int)] 100 < -wcj m s 100 then [(i : Int), ((i + 1 + t : Nat) : Int)] else s) s) ∧
  waxu m ((List.range (m.length - (i + 1))).foldl (fun s t => if -wcj m [(i : Int), ((i + 1 + t : Nat) : Int)] 100 < -wcj m s 100 then [(i : Int), ((i + 1 + t : Nat) : Int)] else s) s) := by
 have h7 := hm.len
 have z0 : Int.toNat 0 = 0 := rfl
 have z1 : Int.toNat 1 = 1 := rfl
 exact waq (f := fun v => (wkk (m, (k, (i : Int))) v).ev) (n := m.length - (i + 1)) (mk := fun t s => (((i + 1 + t : Nat) : Int), s)) (I := fun _ s => waxu m s)
  (g := fun s t => if -wcj m [(i : Int), ((i + 1 + t : Nat) : Int)] 100 < -wcj m s 100 then [(i : Int), ((i + 1 + t : Nat) : Int)] else s) (fin := fun s => s) hs
  (fun t s ht hs => by
   obtain ⟨p, q, rfl, hp, hq⟩ := hs
   have hj : i + 1 + t < m.length := by omega
   have d0 : List.getD [(p : Int), (q : Int)] 0 0 = (p : Int) := rfl
   have d1 : List.getD [(p : Int), (q : Int)] 1 0 = (q : Int) := rfl
   have l2 : List.length [(p : Int), (q : Int)] = 2 := rfl
   have i0 : inR (0 : Int) 2 = true := rfl
   have i1 : inR (1 : Int) 2 = true := rfl
   have e1 : (m.getD p []).getD q 0 = at2 m p q := rfl
   have e2 : (m.getD i []).getD (i + 1 + t) 0 = at2 m i (i + 1 + t) := rfl
   have n0 : (0 : Nat) < 2 := by omega
   have n1 : (1 : Nat) < 2 := by omega
   rw [wjl hm hi hj, wjl hm hp hq]
   by_cases hlt : at2 m p q < at2 m i (i + 1 + t)
   ·rw [if_pos (by omega)]
    refine ⟨?_, ⟨i, i + 1 + t, rfl, hi, hj⟩⟩
    simp (disch := omega) only [EV, wkk, hj, hi, hm.rowLen hi, z0, z1, d0, d1, l2, i0, i1, n0, n1, hp, hq, hm.rowLen hp, e1, e2, hlt]
    rfl
   ·rw [if_neg (by omega)]
    refine ⟨?_, ⟨p, q, rfl, hp, hq⟩⟩
    simp (disch := omega) only [EV, wkk, hj, hi, hm.rowLen hi, z0, z1, d0, d1, l2, i0, i1, n0, n1, hp, hq, hm.rowLen hp, e1, e2, hlt]
    rfl)
  (fun s _ => by
   have e : i + 1 + (m.length - (i + 1)) = m.length := by omega
   simp (disch := omega) only [EV, wkk, e, Nat.lt_irrefl])
theorem waxw {m : List (List Int)} (hm : Ground m) (h2 : 2 ≤ m.length) (k : Int) : wyg (m, k) (0, [0, 1]) = some (waj (fun s => -wcj m s 100) (wie m.length 2)) := by
 have h7 := hm.len
 have h := (waq (f := fun v => (wnv (m, k) v).ev) (n := m.length) (mk := fun i s => ((i : Int), s)) (I := fun _ s => waxu m s)
  (g := fun s i => (List.range (m.length - (i + 1))).foldl (fun s t => if -wcj m [(i : Int), ((i + 1 + t : Nat) : Int)] 100 < -wcj m s 100 then [(i : Int), ((i + 1 + t : Nat) : Int)] else s) s) (fin := fun s => s) (s0 := [0, 1])
  ⟨0, 1, rfl, by omega, by omega⟩
  (fun i s hi hs => by
   obtain ⟨e1, e2⟩ := waxv hm k hi hs
   have e0 : ((i + 1 : Nat) : Int) = (i : Int) + 1 := by omega
   rw [e0] at e1
   refine ⟨?_, e2⟩
   simp (disch := omega) only [EV, wnv, hi, e1]
   rfl)
  (fun s _ => by simp (disch := omega) only [EV, wnv, Nat.lt_irrefl])).1
 have e : wyg (m, k) (0, [0, 1]) = _ := h
 rw [e, wadv _ h7]
 obtain ⟨r, hr⟩ := wagl m.length h2 h7
 have h3 := wagm (g := fun s => -wcj m s 100) hr
 rw [← h3]
 unfold wom
 rw [wpr]
 congr 2
 funext s i
 rw [List.foldl_map]
theorem wih {m : List (List Int)} (hm : wla m) (k : Int) : waur m k = some (farR m k) := by
 unfold waur wbfa farR
 simp (disch := omega) only [EV, wapd hm]
 cases hb : kB m k with
 | false => rfl
 | true =>
  obtain ⟨hG, hk1, hk2⟩ := wvw hb
  have h7 := hG.len
  have h := waq (f := fun v => (wnw (m, k) v).ev) (n := k.toNat - 2) (mk := fun _ s => s) (I := fun i s => FarL m (2 + i) s) (g := fun out _ => out ++ [wdg m out]) (fin := fun s => s)
   (wtb hG (by omega))
   (fun i out hi hI => by
    have hl := hI.len
    have h2 := wbmd hG hI.mem (fun e => by rw [e] at hl; simp at hl; omega) (by omega) k
    have r1 : (out.length + List.length ([wdg m out] : List Int)) * 8 ≤ 140737488355328 := by simp; omega
    have hlt : ((out.length : Nat) : Int) < k := by omega
    exact ⟨by simp (disch := omega) only [EV, wnw, hlt, h2, r1], hI.snoc (by omega)⟩)
   (fun out hI => by
    have hlt : ¬ ((out.length : Nat) : Int) < k := by have := hI.len; omega
    simp (disch := omega) only [EV, wnw, hlt])
  have h0 : walj (m, k) (waj (fun s => -wcj m s 100) (wie m.length 2)) = some (wbp m (k.toNat - 2)) := h.1
  simp (disch := omega) only [EV, waxw hG (by omega) k, h0]
end Go.Proofs.YtnagpmhaddfgmaaGreat
