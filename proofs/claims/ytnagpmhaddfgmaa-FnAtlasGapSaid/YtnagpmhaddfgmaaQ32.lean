/-
 The law of the gap for all draws.
-/
import Derived.Test.YtnagpmhaddfgmaaP49
import Derived.Test.YtnagpmhaddfgmaaP16
namespace Go.Proofs.Ytnagpmhaddfgmaa
theorem wzx (f g : Nat → Int) : ∀ n : Nat, (List.range n).foldl (fun a k => a + (f k + g k)) 0 = (List.range n).foldl (fun a k => a + f k) 0 + (List.range n).foldl (fun a k => a + g k) 0
 | 0 => rfl
 | n + 1 => by
  have := wzx f g n
  rw [wak, wak, wak]
  omega
theorem waju {f g : Nat → Int} : ∀ {n : Nat}, (∀ k, k < n → f k ≤ g k) → (List.range n).foldl (fun a k => a + f k) 0 ≤ (List.range n).foldl (fun a k => a + g k) 0
 | 0, _ => Int.le_refl _
 | n + 1, h => by
  have h1 := waju (n := n) fun k hk => h k (by omega)
  have h2 := h n (by omega)
  rw [wak, wak]
  omega
theorem wrn {f : Nat → Int} : ∀ {n : Nat}, (∀ k, k < n → 0 ≤ f k) → 0 ≤ (List.range n).foldl (fun a k => a + f k) 0 ∧ ∀ k, k < n → f k ≤ (List.range n).foldl (fun a k => a + f k) 0
 | 0, _ => ⟨Int.le_refl _, fun k hk => absurd hk (by omega)⟩
 | n + 1, h => by
  obtain ⟨h1, h2⟩ := wrn (n := n) fun k hk => h k (by omega)
  have h3 := h n (by omega)
  rw [wak]
  refine ⟨by omega, fun k hk => ?_⟩
  by_cases e : k = n
  ·subst e; omega
  ·have := h2 k (by omega); omega
theorem wbcf (ds : List (List Int)) (j : Nat) {s : List Int} (h0 : 0 < s.length) : ∃ k, k < s.length ∧ srv ds j s = pl s k := by
 unfold srv
 refine wtn (Q := fun b => ∃ k, k < s.length ∧ b = pl s k) (fun b k hk hb => ?_) ⟨0, h0, rfl⟩
 unfold wfy
 split
 ·exact ⟨k, List.mem_range.1 hk, rfl⟩
 ·exact hb
theorem weak {o : List Int} {ds : List (List Int)} {p : List Int} (hf : Fld o ds) (hp : PI o ds p) {s : List Int} (hs : ris o.length s) (h0 : s ≠ []) : wdw p ds.length ≤ wdu o ds s := by
 have hpl := hs.places hf.len
 have hpos := List.length_pos_iff.2 h0
 have key : ∀ m, wdw p m ≤ (List.range m).foldl (fun a j => a + near ds s j) 0 + (List.range s.length).foldl (fun a k => a + wfe ds p (pl s k) m) 0 := by
  intro m
  induction m with
  | zero =>
   have := (wrn (f := fun k => wfe ds p (pl s k) 0) (n := s.length) fun k _ => by simp [wfe]).1
   simpa [wdw] using this
  | succ m ih =>
   obtain ⟨k, hk, e⟩ := wbcf ds m hpos
   have h1 := wzx (fun k => wfe ds p (pl s k) m) (fun k => pos (p.getD m 0 - at2 ds m (pl s k))) s.length
   have h2 := (wrn (f := fun k => pos (p.getD m 0 - at2 ds m (pl s k))) (n := s.length) fun k _ => (woc _).1).2 k hk
   have h3 : near ds s m = at2 ds m (pl s k) := by unfold near; rw [e]
   have h4 : p.getD m 0 - at2 ds m (pl s k) ≤ pos (p.getD m 0 - at2 ds m (pl s k)) := by unfold pos; split <;> omega
   rw [wdw, wak]
   simp only [wfe]
   rw [h1]
   omega
 have h1 := key ds.length
 have h2 : (List.range s.length).foldl (fun a k => a + wfe ds p (pl s k) ds.length) 0 ≤ pay o s := waju fun k hk => hp.room _ (hpl.pl hk).2
 unfold wdu serve
 omega
theorem wapj {o : List Int} {ds : List (List Int)} {s : List Int} {c : Int} (ho : wcd o) (hd : wrp ds) (hs : wcd s) (h : (wed o ds s c).2 = false) : wabp o ds s c = some (0, false) ∧ F_zb o ds s c = some (0, false) := by
 have e1 := wcv ho hd hs c
 have e2 := wcw ho hd hs c
 constructor
 ·unfold wabp wanz
  rw [Tr.ev_c, e1, Option.bind_some, Tr.ev_t, h]
  rfl
 ·unfold F_zb T_zb
  rw [Tr.ev_c, e2, Option.bind_some, Tr.ev_t, h]
  rfl
theorem wapk {o : List Int} {ds : List (List Int)} {s p : List Int} {c t : Int} (ho : wcd o) (hd : wrp ds) (hs : wcd s) (hf : Fld o ds) (h : wed o ds s c = (t, true)) (ht : 0 ≤ t ∧ t ≤ 103809717) (p1 : PI o ds p) (p2 : wahv o ds = some p) (p3 : F_za o ds = some (true, p)) :
  wabp o ds s c = some (t - wdw p p.length, true) ∧ F_zb o ds s c = some (t - wdw p p.length, true) := by
 have e1 := wcv ho hd hs c
 have e2 := wcw ho hd hs c
 have e3 := wapi hf p1
 have e4 := wajt hf p1
 have hl := p1.len
 have hc := hf.clients
 have hps := wfb p1 hf ds.length (Nat.le_refl _)
 rw [← hl] at hps
 have hw : IntKind.wrap .i64 (t - wdw p p.length) = t - wdw p p.length := wrap64 (by omega) (by omega)
 rw [h] at e1 e2
 constructor
 ·unfold wabp wanz
  rw [Tr.ev_c, e1, Option.bind_some, Tr.ev_t, Bool.not_true, cond_false, Tr.ev_c, p2, Option.bind_some, Tr.ev_c, e3, Option.bind_some, Tr.ev_l, hw]
 ·unfold F_zb T_zb
  rw [Tr.ev_c, e2, Option.bind_some, Tr.ev_t, Bool.not_true, cond_false, Tr.ev_c, p3, Option.bind_some, Tr.ev_c]
  dsimp only
  rw [e4, Option.bind_some, Tr.ev_l, hw]
theorem wbcg {o : List Int} {ds : List (List Int)} {p : List Int} (hf : Fld o ds) (hp : PI o ds p) : waoa p = some (wdw p p.length) := by
 have hl := hp.len
 have hcl := hf.clients
 obtain ⟨r, h1, h2⟩ := wcf (f := fun v => (wnu p v).ev) (n := p.length) (fun i (a : Int) => (a, (i : Int))) (fun i a => a = wdw p i) (fun r => r = wdw p p.length) (s0 := 0) rfl
  (fun i a hi ha => by
   subst ha
   left
   have h3 := wfb hp hf i (by omega)
   have h4 := hp.val hf (show i < ds.length by omega)
   refine ⟨_, ?_, rfl⟩
   simp (disch := omega) only [EV, wnu, hi]
   rfl)
  (fun a ha => ⟨a, by simp (disch := omega) only [EV, wnu, Nat.lt_irrefl], ha⟩)
 subst h2
 have h1' : wahx p ((0 : Int), (0 : Int)) = some (wdw p p.length) := h1
 unfold waoa wazh
 simp (disch := omega) only [EV, h1']
theorem wwg {o : List Int} {ds : List (List Int)} {p s : List Int} (ho : wcd o) (hd : wrp ds) (hf : Fld o ds) (hp : PI o ds p) (hs : ris o.length s) (h0 : s ≠ []) : F_zq o ds p s = some (wdu o ds s - wdw p p.length, true) := by
 have h7 := hf.len
 have hpos := hf.pos
 have hc := hf.clients
 have hl := hp.len
 have hps := wfb hp hf ds.length (Nat.le_refl _)
 rw [← hl] at hps
 have ht := wpn hf hs h0
 have hlow := hs.low h7
 have hsl := List.length_pos_iff.2 h0
 have hplow : wcd p := by unfold wcd; omega
 obtain ⟨r, e1, r1, r2⟩ := wzv hf hp
 obtain ⟨m, e2, m1, k, hk, m2⟩ := waqz (l := r) (by omega) (by omega)
 have hm : 0 ≤ m := by
  have := hp.room k (by omega)
  have h3 := r2 k (by omega)
  simp only at m2
  omega
 have e3 : F_zd o ds p = some true := by
  unfold F_zd T_zd
  rw [Tr.ev_c, e1, Option.bind_some, Tr.ev_c, e2, Option.bind_some, Tr.ev_l, decide_eq_true hm]
 have hall : allIn p 0 500 = true := wig.2 fun x hx => by
  obtain ⟨j, hj, e⟩ := List.mem_iff_getElem.1 hx
  have := hp.val hf (show j < ds.length by omega)
  rw [List.getD_eq_getElem?_getD, List.getElem?_eq_getElem hj, Option.getD_some, e] at this
  omega
 have e4 : F_zx o ds p = some true := by
  have hle : (((p.length : Nat) : Int) == ((ds.length : Nat) : Int)) = true := by rw [hl]; exact beq_self_eq_true _
  unfold F_zx T_zx
  rw [Tr.ev_c, wgg ho hd, wdj.2 hf, Option.bind_some, Tr.ev_t, cond_true, Tr.ev_t, hle, cond_true, Tr.ev_c, wex hplow, hall, Option.bind_some, Tr.ev_l]
 have e5 : F_zv o ds p = some true := by
  unfold F_zv T_zv
  rw [Tr.ev_c, e4, Option.bind_some, Tr.ev_t, cond_true, Tr.ev_c, e3, Option.bind_some, Tr.ev_l]
 have e6 : F_zf o ds s = some true := by
  have hq : (0 : Int) < ((s.length : Nat) : Int) := by omega
  unfold F_zf T_zf
  rw [Tr.ev_t, decide_eq_true hq, cond_true, Tr.ev_c, wha hlow (by omega) (by omega), Option.bind_some, Tr.ev_l, wkf.2 hs]
 have e7 : F_zm o ds s = some (wdu o ds s) := wzo hf (hs.places h7) hsl
 have e8 := wajt hf hp
 have hw : IntKind.wrap .i64 (wdu o ds s - wdw p p.length) = wdu o ds s - wdw p p.length := wrap64 (by omega) (by omega)
 unfold F_zq T_zq
 rw [Tr.ev_c, e5, Option.bind_some, Tr.ev_t, Bool.not_true, cond_false, Tr.ev_c, e6, Option.bind_some, Tr.ev_t, Bool.not_true, cond_false, Tr.ev_c, e7, Option.bind_some, Tr.ev_c, e8, Option.bind_some, Tr.ev_l, hw]
theorem wajv {l : List Int} (h : CK 0 l 0) : ∃ o ds n s, wanm l = some (o, (ds, (n, s))) ∧ DrA' o ds s := by
 obtain ⟨⟨o, ds, n, s, l', i, c⟩, e, h1, _⟩ := wapf 0 h (by omega)
 have e' : waxl l 0 0 = some (o, ds, n, s, l', i, c) := e
 have e2 : ∃ a b c d, wanl l = some (a, (b, (c, d))) ∧ DrA' a b d := by
  unfold wanl waxr
  rw [Tr.ev_c, e', Option.bind_some, Tr.ev_l]
  exact ⟨_, _, _, _, rfl, h1⟩
 obtain ⟨a, b, c, d, e3, h3⟩ := e2
 unfold wanm waxt
 rw [Tr.ev_c, e3, Option.bind_some, Tr.ev_l]
 exact ⟨_, _, _, _, rfl, h3⟩
theorem wom (code : List Int) (hfit : Fit (.slice (.int .u8)) code) : wazn code = some true := by
 unfold wazn wazm wasg wasf
 by_cases hb : (65536 : Int) < ((code.length : Nat) : Int)
 ·simp (disch := omega) only [EV, hb]
 ·have hck : CK 0 code 0 := ⟨fun x hx => fitB (hfit.2 x hx), by omega, by omega, by omega⟩
  obtain ⟨o, ds, n, s, e1, hA⟩ := wajv hck
  obtain ⟨ho, hd, hs⟩ := hA.low
  have t1 := wcv ho hd hs n
  have t2 := wcw ho hd hs n
  rw [Tr.ev_c, Tr.ev_l, decide_eq_false hb, Option.bind_some, Tr.ev_t, cond_false, Tr.ev_c, e1, Option.bind_some, Tr.ev_c]
  dsimp only
  cases ht : (wed o ds s n).2 with
  | false =>
   obtain ⟨g1, g2⟩ := wapj ho hd hs ht
   rw [g2, Option.bind_some, Tr.ev_c, g1, Option.bind_some, Tr.ev_c, t2, Option.bind_some, Tr.ev_c, t1, Option.bind_some, Tr.ev_t, bne_self_eq_false, cond_false, Tr.ev_t, beq_self_eq_true, Bool.not_true, cond_false, Tr.ev_t, bne_self_eq_false, cond_false, Tr.ev_t, beq_self_eq_true, Bool.not_true, cond_false, Tr.ev_t, ht, beq_self_eq_true, Bool.not_true, cond_false, Tr.ev_t]
   rfl
  | true =>
   have hat : (wch o ds s n && decide (0 < s.length)) = true := by
    cases hx : (wch o ds s n && decide (0 < s.length)) with
    | true => rfl
    | false =>
     unfold wed at ht
     rw [hx] at ht
     cases ht
   have htv : wed o ds s n = (wdu o ds s, true) := by
    unfold wed
    rw [hat]
    rfl
   rw [Bool.and_eq_true] at hat
   have hatl := wwa.1 hat.1
   have h0 : s ≠ [] := List.length_pos_iff.1 (of_decide_eq_true hat.2)
   have hf := hatl.fld
   have htb := wpn hf hatl.set h0
   obtain ⟨p, p1, p2, p3⟩ := wwf ho hd hf
   obtain ⟨g1, g2⟩ := wapk ho hd hs hf htv htb p1 p2 p3
   have hpg := wwg ho hd hf p1 hatl.set h0
   have hv := wbcg hf p1
   have hwk := weak hf p1 hatl.set h0
   have hl := p1.len
   have hc := hf.clients
   have hps := wfb p1 hf ds.length (Nat.le_refl _)
   rw [← hl] at hps hwk
   have hge : (0 : Int) ≤ wdu o ds s - wdw p p.length := by omega
   have hw : IntKind.wrap .i64 (wdu o ds s - wdw p p.length) = wdu o ds s - wdw p p.length := wrap64 (by omega) (by omega)
   rw [htv] at t1 t2
   rw [g2, Option.bind_some, Tr.ev_c, g1, Option.bind_some, Tr.ev_c, t2, Option.bind_some, Tr.ev_c, t1, Option.bind_some, Tr.ev_t, bne_self_eq_false, cond_false, Tr.ev_t, beq_self_eq_true, Bool.not_true, cond_false, Tr.ev_t, bne_self_eq_false, cond_false, Tr.ev_t, cond_false, Tr.ev_t, cond_false, Tr.ev_t, cond_false, Tr.ev_c, p3, Option.bind_some, Tr.ev_c]
   dsimp only
   rw [hpg, Option.bind_some, Tr.ev_t, cond_true, Tr.ev_t, decide_eq_true hge, cond_true, Tr.ev_c, hv, Option.bind_some, Tr.ev_t, hw, beq_self_eq_true, cond_true, Tr.ev_l]
end Go.Proofs.Ytnagpmhaddfgmaa
