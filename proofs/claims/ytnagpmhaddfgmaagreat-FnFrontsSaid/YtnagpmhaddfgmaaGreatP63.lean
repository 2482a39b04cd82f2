/-
 Plain laws: rows of marks merged in place; slices.SortStableFunc at marks is the stable order.
-/
import Derived.Test.YtnagpmhaddfgmaaGreatP62
namespace Go.Proofs.YtnagpmhaddfgmaaGreat
section
variable {le : Mk → Mk → Bool} {f : HL [MkT, MkT] → Option Int}
theorem TO.refl (ho : TO le) (x : Mk) : le x x = true := by
 cases h : le x x with
 | true => rfl
 | false => rw [← h]; exact ho.tot x x h
theorem wai (ho : TO le) {l : List Mk} (h : Srt le l) {i j : Nat} (hij : i ≤ j) (hj : j < l.length) : le (l.getD i mk0) (l.getD j mk0) = true := by
 rw [List.getD_eq_getElem?_getD, List.getD_eq_getElem?_getD, List.getElem?_eq_getElem hj, List.getElem?_eq_getElem (show i < l.length by omega)]
 rcases Nat.eq_or_lt_of_le hij with e | hlt
 ·subst e; exact ho.refl _
 ·exact List.pairwise_iff_getElem.1 h i j _ hj hlt
theorem wcr {l : List Mk} {c : Nat} {x : Mk} (h : x ∈ l.take c) : ∃ i, i < c ∧ i < l.length ∧ l.getD i mk0 = x := by
 obtain ⟨i, hi, e⟩ := List.mem_iff_getElem.1 h
 rw [List.length_take] at hi
 refine ⟨i, by omega, by omega, ?_⟩
 rw [← e, List.getElem_take, List.getD_eq_getElem?_getD, List.getElem?_eq_getElem (show i < l.length by omega)]
 rfl
theorem wcs {l : List Mk} {c : Nat} {x : Mk} (h : x ∈ l.drop c) : ∃ i, c ≤ i ∧ i < l.length ∧ l.getD i mk0 = x := by
 obtain ⟨i, hi, e⟩ := List.mem_iff_getElem.1 h
 rw [List.length_drop] at hi
 refine ⟨c + i, by omega, by omega, ?_⟩
 rw [← e, List.getElem_drop, List.getD_eq_getElem?_getD, List.getElem?_eq_getElem (show c + i < l.length by omega)]
 rfl
theorem wgl {l : List Mk} (h : Srt le l) (c : Nat) : Srt le (l.take c) ∧ Srt le (l.drop c) ∧ ∀ x ∈ l.take c, ∀ y ∈ l.drop c, le x y = true := by
 have h' : Srt le (l.take c ++ l.drop c) := by rw [List.take_append_drop]; exact h
 exact List.pairwise_append.1 h'
theorem wsw (P L R : List Mk) {j : Nat} (h : j < L.length) : (P ++ (L ++ R)).getD (P.length + j) mk0 = L.getD j mk0 := by
 rw [List.getD_eq_getElem?_getD, List.getD_eq_getElem?_getD, List.getElem?_append_right (by omega), Nat.add_sub_cancel_left, List.getElem?_append_left h]
theorem wabl (P L R S : List Mk) {j : Nat} (h : j < R.length) : (P ++ (L ++ (R ++ S))).getD (P.length + L.length + j) mk0 = R.getD j mk0 := by
 have := wsw (P ++ L) R S h
 rw [List.length_append, List.append_assoc] at this
 exact this
noncomputable def wgm (rec_ : Int → Int → Int → (HL [MkT, MkT] → Option Int) → List Mk → Option (List Mk)) (a m b mid e s : Nat) (f : HL [MkT, MkT] → Option Int) (D : List Mk) : Option (List Mk) :=
 (if s < m ∧ m < e then wig (s : Int) (m : Int) (e : Int) f D else some D).bind fun D1 =>
  (if a < s ∧ s < mid then rec_ (a : Int) (s : Int) (mid : Int) f D1 else some D1).bind fun D2 =>
   if mid < e ∧ e < b then rec_ (mid : Int) (e : Int) (b : Int) f D2 else some D2
noncomputable def symU (rec_ : Int → Int → Int → (HL [MkT, MkT] → Option Int) → List Mk → Option (List Mk)) (b mid e : Int) (f : HL [MkT, MkT] → Option Int) (D : List Mk) : Tr (List Mk) :=
 .t (decide (mid < e)) (.t (decide (e < b)) (.c (List Mk) (rec_ mid e b f D) fun r => .l r) (.l D)) (.l D)
noncomputable def symV (rec_ : Int → Int → Int → (HL [MkT, MkT] → Option Int) → List Mk → Option (List Mk)) (a b mid e s : Int) (f : HL [MkT, MkT] → Option Int) (D : List Mk) : Tr (List Mk) :=
 .t (decide (a < s)) (.t (decide (s < mid)) (.c (List Mk) (rec_ a s mid f D) fun r => symU rec_ b mid e f r) (symU rec_ b mid e f D)) (symU rec_ b mid e f D)
noncomputable def symW (rec_ : Int → Int → Int → (HL [MkT, MkT] → Option Int) → List Mk → Option (List Mk)) (a m b mid e s : Int) (f : HL [MkT, MkT] → Option Int) (D : List Mk) : Tr (List Mk) :=
 .t (decide (s < m)) (.t (decide (m < e)) (.c (List Mk) (wig s m e f D) fun r => symV rec_ a b mid e s f r) (symV rec_ a b mid e s f D)) (symV rec_ a b mid e s f D)
theorem wko {rec_ : Int → Int → Int → (HL [MkT, MkT] → Option Int) → List Mk → Option (List Mk)} (b mid e : Nat) (D : List Mk) : (symU rec_ (b : Int) (mid : Int) (e : Int) f D).ev = if mid < e ∧ e < b then rec_ (mid : Int) (e : Int) (b : Int) f D else some D := by
 unfold symU
 by_cases c5 : mid < e
 ·by_cases c6 : e < b
  ·simp (disch := omega) only [EV, c5, c6, and_self, if_true]
   cases rec_ (mid : Int) (e : Int) (b : Int) f D <;> rfl
  ·simp (disch := omega) only [EV, c5, c6, and_false]
 ·simp (disch := omega) only [EV, c5, false_and]
theorem wkp {rec_ : Int → Int → Int → (HL [MkT, MkT] → Option Int) → List Mk → Option (List Mk)} (a b mid e s : Nat) (D : List Mk) : (symV rec_ (a : Int) (b : Int) (mid : Int) (e : Int) (s : Int) f D).ev = (if a < s ∧ s < mid then rec_ (a : Int) (s : Int) (mid : Int) f D else some D).bind fun D2 => if mid < e ∧ e < b then rec_ (mid : Int) (e : Int) (b : Int) f D2 else some D2 := by
 unfold symV
 by_cases c3 : a < s
 ·by_cases c4 : s < mid
  ·simp (disch := omega) only [EV, c3, c4, and_self, if_true, wko]
  ·simp (disch := omega) only [EV, c3, c4, and_false, wko]
 ·simp (disch := omega) only [EV, c3, false_and, wko]
theorem wsx {rec_ : Int → Int → Int → (HL [MkT, MkT] → Option Int) → List Mk → Option (List Mk)} (a m b mid e s : Nat) (D : List Mk) : (symW rec_ (a : Int) (m : Int) (b : Int) (mid : Int) (e : Int) (s : Int) f D).ev = wgm rec_ a m b mid e s f D := by
 unfold symW wgm
 by_cases c1 : s < m
 ·by_cases c2 : m < e
  ·simp (disch := omega) only [EV, c1, c2, and_self, if_true, wkp]
  ·simp (disch := omega) only [EV, c1, c2, and_false, wkp]
 ·simp (disch := omega) only [EV, c1, false_and, wkp]
abbrev wny (a b : Int) : Int := IntKind.wrap .i64 (Int.fdiv (IntKind.wrap .u64 (IntKind.wrap .i64 (a + b))) (2 ^ (min (Int.toNat (1 : Int)) (IntKind.bits .u64))))
theorem wkr (rec_ : Int → Int → Int → (HL [MkT, MkT] → Option Int) → List Mk → Option (List Mk)) (a m b : Int) (D : List Mk) : wqx rec_ a m b f D =
  .t ((IntKind.wrap .i64 (m - a)) == (1 : Int))
   (.c Int (wke rec_ (a, (f, D)) (m, b)) fun r10_ => .c (List Mk) (wdl rec_ r10_ (a, D)) fun r15_ => .l r15_)
   (.t ((IntKind.wrap .i64 (b - m)) == (1 : Int))
    (.c Int (wkf rec_ (m, (f, D)) (a, m)) fun r25_ => .c (List Mk) (wdp rec_ r25_ (m, D)) fun r30_ => .l r30_)
    (.g (decide ((0 : Int) ≤ (1 : Int))) <| .t (decide (wny a b < m))
     (.c Int (wbw rec_ (a, (m, (b, (f, (wny a b, (IntKind.wrap .i64 (wny a b + m), (IntKind.wrap .i64 (IntKind.wrap .i64 (wny a b + m) - (1 : Int)), D))))))) (IntKind.wrap .i64 (IntKind.wrap .i64 (wny a b + m) - b), wny a b)) fun r => symW rec_ a m b (wny a b) (IntKind.wrap .i64 (IntKind.wrap .i64 (wny a b + m) - r)) r f D)
     (.c Int (wbw rec_ (a, (m, (b, (f, (wny a b, (IntKind.wrap .i64 (wny a b + m), (IntKind.wrap .i64 (IntKind.wrap .i64 (wny a b + m) - (1 : Int)), D))))))) (a, m)) fun r => symW rec_ a m b (wny a b) (IntKind.wrap .i64 (IntKind.wrap .i64 (wny a b + m) - r)) r f D))) := rfl
theorem wamk {rec_ : Int → Int → Int → (HL [MkT, MkT] → Option Int) → List Mk → Option (List Mk)} {a m b s lo hi : Nat} {D : List Mk} (h1 : ((m : Int) - (a : Int) == 1) = false) (h2 : ((b : Int) - (m : Int) == 1) = false) (hab : a ≤ m) (hmb : m ≤ b) (hb : b < 576460752303423488)
  (hlo : (m ≤ (a + b) / 2 → lo = a ∧ hi = m) ∧ ((a + b) / 2 < m → lo + b = (a + b) / 2 + m ∧ hi = (a + b) / 2)) (hs : s ≤ (a + b) / 2 + m)
  (h8 : wbw rec_ ((a : Int), ((m : Int), ((b : Int), (f, ((((a + b) / 2 : Nat) : Int), ((((a + b) / 2 + m : Nat) : Int), (((((a + b) / 2 + m : Nat) : Int) - 1), D))))))) ((lo : Int), (hi : Int)) = some (s : Int)) :
  (wqx rec_ (a : Int) (m : Int) (b : Int) f D).ev = wgm rec_ a m b ((a + b) / 2) ((a + b) / 2 + m - s) s f D := by
 have k0 : ((0 : Int) ≤ 1) = True := by simp
 have hmid : wny (a : Int) (b : Int) = (((a + b) / 2 : Nat) : Int) := midE a b (by omega)
 have kq : (a + b) / 2 < 576460752303423488 := by omega
 rw [wkr, hmid]
 generalize (a + b) / 2 = mid at *
 have k1 : ((mid : Int) + (m : Int)) = ((mid + m : Nat) : Int) := by omega
 have k2 : ((mid + m : Nat) : Int) - (s : Int) = ((mid + m - s : Nat) : Int) := by omega
 by_cases c0 : mid < m
 ·obtain ⟨hl1, hl2⟩ := hlo.2 c0
  subst hl2
  have k3 : ((hi + m : Nat) : Int) - (b : Int) = (lo : Int) := by omega
  simp (disch := omega) only [EV, h1, h2, k0, c0, k1, k2, k3, h8, wsx]
 ·obtain ⟨rfl, rfl⟩ := hlo.1 (by omega)
  simp (disch := omega) only [EV, h1, h2, k0, c0, k1, k2, h8, wsx]
theorem waml (_ho : TO le) {x : Mk} {R1 R2 : List Mk} (h1 : Srt le R1) (h2 : Srt le R2) (h3 : ∀ r ∈ R1, ∀ y ∈ R2, le r y = true) (h4 : ∀ r ∈ R1, le x r = false) (h5 : ∀ r ∈ R2, le x r = true) : mrg le [x] (R1 ++ R2) = R1 ++ x :: R2 := by
 have := wio (le := le) (L1 := []) (L2 := [x]) (R1 := R1) (R2 := R2) (fun r hr y hy => by rw [List.mem_singleton.1 hy]; exact h4 r hr) (fun _ h => by cases h) h3
 rw [List.nil_append] at this
 rw [this, waj h1]
 have e := wbm (le := le) R2 (A := [x]) [] (fun a ha y hy => by rw [List.mem_singleton.1 ha]; exact h5 y hy)
 rw [List.append_nil] at e
 rw [e, waj h2]
 rfl
set_option maxHeartbeats 8000000 in
theorem wem (ho : TO le) (hf : wpe le f) : ∀ (n : Nat) (L R P S : List Mk) (a m b : Nat), 0 < L.length → 0 < R.length → L.length + R.length ≤ n → Srt le L → Srt le R → P.length + L.length + R.length + S.length < 576460752303423488 →
  a = P.length → m = P.length + L.length → b = P.length + L.length + R.length →
  waz n (a : Int) (m : Int) (b : Int) f (P ++ (L ++ (R ++ S))) = some (P ++ (mrg le L R ++ S)) := by
 intro n
 induction n with
 | zero => intro L R P S a m b h1 h2 h3; omega
 | succ n ih =>
  intro L R P S a m b hL hR hn sL sR hlt ha hm hb
  show (wqx (waz n) (a : Int) (m : Int) (b : Int) f (P ++ (L ++ (R ++ S)))).ev = _
  have hDl : (P ++ (L ++ (R ++ S))).length = P.length + L.length + R.length + S.length := by simp; omega
  by_cases hL1 : L.length = 1
  ·
   obtain ⟨x, rfl⟩ := List.length_eq_one_iff.1 hL1
   simp only [List.length_cons, List.length_nil, Nat.zero_add] at *
   have gx : (P ++ ([x] ++ (R ++ S))).getD a mk0 = x := waf P x _ _ ha
   have gR : ∀ j, j < R.length → (P ++ ([x] ++ (R ++ S))).getD (m + j) mk0 = R.getD j mk0 := fun j hj => by
    have := wabl P [x] R S hj
    rw [List.length_singleton] at this
    rw [hm]; exact this
   obtain ⟨s, e1, h1, h2, h3, h4⟩ := wsq (rec_ := waz n) hf (P ++ ([x] ++ (R ++ S))) a m b (by omega) (by omega) (by omega) (by omega) (fun h k k1 k2 k3 hk => by
    have q1 := gR (k - m) (by omega)
    have q2 := gR (h - m) (by omega)
    rw [show m + (k - m) = k by omega] at q1
    rw [show m + (h - m) = h by omega] at q2
    rw [gx] at hk ⊢
    rw [q1] at hk
    rw [q2]
    cases hh : le x (R.getD (h - m) mk0) with
    | false => rfl
    | true =>
     have := ho.tr _ _ _ hh (wai ho sR (i := h - m) (j := k - m) (by omega) (by omega))
     rw [this] at hk
     exact hk)
   rw [gx] at h3 h4
   obtain ⟨p1, p2, p3⟩ := wgl sR (s - m)
   have hR1 : (R.take (s - m)).length = s - m := by rw [List.length_take]; omega
   have e2 := wsu (rec_ := waz n) (s : Int) (R.take (s - m)) P x (R.drop (s - m) ++ S) (by rw [hR1]; omega) (by rw [hR1]; simp; omega)
   rw [show P ++ x :: (R.take (s - m) ++ (R.drop (s - m) ++ S)) = P ++ ([x] ++ (R ++ S)) by rw [← List.append_assoc (R.take _), List.take_append_drop]; rfl, ← ha] at e2
   have em : mrg le [x] R = R.take (s - m) ++ x :: R.drop (s - m) := by
    have := waml ho (x := x) p1 p2 p3 (fun r hr => by
     obtain ⟨i, i1, i2, rfl⟩ := wcr hr
     have := h3 (by omega)
     have q1 := gR (s - 1 - m) (by omega)
     rw [show m + (s - 1 - m) = s - 1 by omega] at q1
     rw [q1] at this
     cases hh : le x (R.getD i mk0) with
     | false => rfl
     | true =>
      rw [ho.tr _ _ _ hh (wai ho sR (i := i) (j := s - 1 - m) (by omega) (by omega))] at this
      cases this) (fun r hr => by
     obtain ⟨i, i1, i2, rfl⟩ := wcs hr
     have := h4 (by omega)
     have q1 := gR (s - m) (by omega)
     rw [show m + (s - m) = s by omega] at q1
     rw [q1] at this
     have h5 : le x (R.getD (s - m) mk0) = true := by simpa using this
     exact ho.tr _ _ _ h5 (wai ho sR (i := s - m) (j := i) i1 i2))
    rwa [List.take_append_drop] at this
   have k1 : (m : Int) - (a : Int) = 1 := by omega
   have k2 : ((1 : Int) == 1) = true := rfl
   rw [wkr]
   simp (disch := omega) only [EV, k1, k2, e1, e2]
   rw [em]
   simp
  ·by_cases hR1 : R.length = 1
   ·
    obtain ⟨y, rfl⟩ := List.length_eq_one_iff.1 hR1
    simp only [List.length_cons, List.length_nil, Nat.zero_add] at *
    have gy : (P ++ (L ++ ([y] ++ S))).getD m mk0 = y := by
     have := waf (P ++ L) y S mk0 (i := m) (by simp; omega)
     rw [List.append_assoc] at this
     exact this
    have gL : ∀ j, j < L.length → (P ++ (L ++ ([y] ++ S))).getD (a + j) mk0 = L.getD j mk0 := fun j hj => by rw [ha]; exact wsw P L _ hj
    obtain ⟨s, e1, h1, h2, h3, h4⟩ := wsr (rec_ := waz n) hf (P ++ (L ++ ([y] ++ S))) m a m (by omega) (by omega) (by omega) (by omega) (fun h k k1 k2 k3 hk => by
     have q1 := gL (k - a) (by omega)
     have q2 := gL (h - a) (by omega)
     rw [show a + (k - a) = k by omega] at q1
     rw [show a + (h - a) = h by omega] at q2
     rw [gy] at hk ⊢
     rw [q1] at hk
     rw [q2]
     exact ho.tr _ _ _ (wai ho sL (i := h - a) (j := k - a) (by omega) (by omega)) hk)
    rw [gy] at h3 h4
    have hL2 : (L.take (s - a)).length = s - a := by rw [List.length_take]; omega
    have hL3 : (L.drop (s - a)).length = L.length - (s - a) := List.length_drop
    have e2 := wsv (rec_ := waz n) s _ (L.drop (s - a)) (P ++ L.take (s - a)) S y rfl (by rw [List.length_append, hL2]; omega) (by rw [List.length_append, hL2, hL3]; omega)
    rw [show (P ++ L.take (s - a)) ++ (L.drop (s - a) ++ y :: S) = P ++ (L ++ ([y] ++ S)) by rw [List.append_assoc, ← List.append_assoc (L.take _), List.take_append_drop]; rfl,
     show (P ++ L.take (s - a)).length + (L.drop (s - a)).length = m by rw [List.length_append, hL2, hL3]; omega] at e2
    have em : mrg le L [y] = L.take (s - a) ++ y :: L.drop (s - a) := by
     have t1 := wbm (le := le) [y] (A := L.take (s - a)) (L.drop (s - a)) (fun r hr z hz => by
      rw [List.mem_singleton.1 hz]
      obtain ⟨i, i1, i2, rfl⟩ := wcr hr
      have := h3 (by omega)
      have q1 := gL (s - 1 - a) (by omega)
      rw [show a + (s - 1 - a) = s - 1 by omega] at q1
      rw [q1] at this
      exact ho.tr _ _ _ (wai ho sL (i := i) (j := s - 1 - a) (by omega) (by omega)) this)
     have t2 := wej (le := le) [y] [] (B := L.drop (s - a)) (fun z hz r hr => by
      rw [List.mem_singleton.1 hz]
      obtain ⟨i, i1, i2, rfl⟩ := wcs hr
      have := h4 (by omega)
      have q1 := gL (s - a) (by omega)
      rw [show a + (s - a) = s by omega] at q1
      rw [q1] at this
      cases hh : le (L.getD i mk0) y with
      | false => rfl
      | true =>
       rw [ho.tr _ _ _ (wai ho sL (i := s - a) (j := i) i1 i2) hh] at this
       cases this)
     rw [List.take_append_drop] at t1
     rw [List.nil_append] at t2
     rw [t1, t2]
     rfl
    have k0 : ((m : Int) - (a : Int) == 1) = false := by simp; omega
    have k1 : (b : Int) - (m : Int) = 1 := by omega
    have k2 : ((1 : Int) == 1) = true := rfl
    rw [wkr]
    simp (disch := omega) only [EV, k0, k1, k2, e1, e2]
    rw [em]
    simp
   ·
    have k1 : ((m : Int) - (a : Int) == 1) = false := by simp; omega
    have k2 : ((b : Int) - (m : Int) == 1) = false := by simp; omega
    obtain ⟨lo, hi, hlo⟩ : ∃ lo hi : Nat, (m ≤ (a + b) / 2 → lo = a ∧ hi = m) ∧ ((a + b) / 2 < m → lo + b = (a + b) / 2 + m ∧ hi = (a + b) / 2) := by
     by_cases c : (a + b) / 2 < m
     ·exact ⟨(a + b) / 2 + m - b, (a + b) / 2, fun h => by omega, fun _ => ⟨by omega, rfl⟩⟩
     ·exact ⟨a, m, fun _ => ⟨rfl, rfl⟩, fun h => by omega⟩
    have gL : ∀ k, a ≤ k → k < m → (P ++ (L ++ (R ++ S))).getD k mk0 = L.getD (k - a) mk0 := fun k h1 h2 => by
     have := wsw P L (R ++ S) (j := k - a) (by omega)
     rwa [show P.length + (k - a) = k by omega] at this
    have gR : ∀ k, m ≤ k → k < b → (P ++ (L ++ (R ++ S))).getD k mk0 = R.getD (k - m) mk0 := fun k h1 h2 => by
     have := wabl P L R S (j := k - m) (by omega)
     rwa [show P.length + L.length + (k - m) = k by omega] at this
    have hlo1 : a ≤ lo ∧ lo ≤ hi ∧ hi ≤ m ∧ hi ≤ (a + b) / 2 ∧ (a + b) / 2 + m ≤ b + lo ∧ m + hi ≤ (a + b) / 2 + m ∧ (lo = a ∨ lo + b = (a + b) / 2 + m) ∧ (hi = m ∨ hi = (a + b) / 2) := by
     by_cases c : (a + b) / 2 < m
     ·obtain ⟨q1, q2⟩ := hlo.2 c; omega
     ·obtain ⟨q1, q2⟩ := hlo.1 (by omega); omega
    obtain ⟨s, e1, h1, h2, h3, h4⟩ := wss (rec_ := waz n) hf (P ++ (L ++ (R ++ S))) ((a + b) / 2 + m) lo hi (a : Int) (m : Int) (b : Int) (((a + b) / 2 : Nat) : Int) (((a + b) / 2 + m : Nat) : Int) (by omega) (by omega) (by omega) (by omega) (by omega) (fun h k q1 q2 q3 hk => by
     rw [gL h (by omega) (by omega), gR ((a + b) / 2 + m - 1 - h) (by omega) (by omega)]
     rw [gL k (by omega) (by omega), gR ((a + b) / 2 + m - 1 - k) (by omega) (by omega)] at hk
     exact ho.tr _ _ _ (wai ho sL (i := h - a) (j := k - a) (by omega) (by omega)) (ho.tr _ _ _ hk (wai ho sR (by omega) (by omega))))
    rw [wamk k1 k2 (by omega) (by omega) (by omega) hlo (by omega) e1]
    generalize hmid : (a + b) / 2 = mid at *
    generalize hE : mid + m - s = e at *
    have he : e + s = mid + m ∧ m ≤ e ∧ e ≤ b ∧ s ≤ m ∧ a ≤ s ∧ s ≤ mid ∧ mid ≤ e := by omega
    obtain ⟨t1, t2, t3⟩ := wgl sL (s - a)
    obtain ⟨u1, u2, u3⟩ := wgl sR (e - m)
    have em : mrg le L R = mrg le (L.take (s - a)) (R.take (e - m)) ++ mrg le (L.drop (s - a)) (R.drop (e - m)) := by
     have := wio (le := le) (L1 := L.take (s - a)) (L2 := L.drop (s - a)) (R1 := R.take (e - m)) (R2 := R.drop (e - m)) (fun x hx y hy => by
      obtain ⟨i, i1, i2, rfl⟩ := wcr hx
      obtain ⟨j, j1, j2, rfl⟩ := wcs hy
      have hs : s < hi := by omega
      have := h4 hs
      rw [gL s (by omega) (by omega), gR (mid + m - 1 - s) (by omega) (by omega)] at this
      cases hh : le (L.getD j mk0) (R.getD i mk0) with
      | false => rfl
      | true =>
       rw [ho.tr _ _ _ (wai ho sL (i := s - a) (j := j) (by omega) j2) (ho.tr _ _ _ hh (wai ho sR (i := i) (j := mid + m - 1 - s - m) (by omega) (by omega)))] at this
       cases this) (fun x hx y hy => by
      obtain ⟨i, i1, i2, rfl⟩ := wcr hx
      obtain ⟨j, j1, j2, rfl⟩ := wcs hy
      have hs : lo < s := by omega
      have := h3 hs
      rw [gL (s - 1) (by omega) (by omega), gR (mid + m - 1 - (s - 1)) (by omega) (by omega)] at this
      exact ho.tr _ _ _ (wai ho sL (i := i) (j := s - 1 - a) (by omega) (by omega)) (ho.tr _ _ _ this (wai ho sR (i := mid + m - 1 - (s - 1) - m) (j := j) (by omega) j2))) u3
     rwa [List.take_append_drop, List.take_append_drop] at this
    have lL1 : (L.take (s - a)).length = s - a := by rw [List.length_take]; omega
    have lL2 : (L.drop (s - a)).length = m - s := by rw [List.length_drop]; omega
    have lR1 : (R.take (e - m)).length = e - m := by rw [List.length_take]; omega
    have lR2 : (R.drop (e - m)).length = b - e := by rw [List.length_drop]; omega
    rw [em]
    have eL : L.take (s - a) ++ L.drop (s - a) = L := List.take_append_drop _ _
    have eR : R.take (e - m) ++ R.drop (e - m) = R := List.take_append_drop _ _
    have hD : P ++ (L ++ (R ++ S)) = (P ++ L.take (s - a)) ++ (L.drop (s - a) ++ (R.take (e - m) ++ (R.drop (e - m) ++ S))) := by
     conv => lhs; rw [← eL, ← eR]
     simp only [List.append_assoc]
    rw [hD]
    generalize L.take (s - a) = L1 at *
    generalize L.drop (s - a) = L2 at *
    generalize R.take (e - m) = R1 at *
    generalize R.drop (e - m) = R2 at *
    have hlen : P.length + L1.length + L2.length + R1.length + R2.length + S.length < 576460752303423488 := by omega
    have d1 : (if s < m ∧ m < e then wig (s : Int) (m : Int) (e : Int) f ((P ++ L1) ++ (L2 ++ (R1 ++ (R2 ++ S)))) else some ((P ++ L1) ++ (L2 ++ (R1 ++ (R2 ++ S))))) = some (P ++ (L1 ++ (R1 ++ (L2 ++ (R2 ++ S))))) := by
     split
     next c =>
      rw [wsp L2 R1 (P ++ L1) (R2 ++ S) (by omega) (by omega) (by simp; omega) (by simp; omega) (by simp; omega) (by simp; omega)]
      simp
     next c =>
      rcases Nat.lt_or_ge s m with c1 | c1
      ·have : R1 = [] := List.eq_nil_of_length_eq_zero (by omega)
       subst this
       simp
      ·have : L2 = [] := List.eq_nil_of_length_eq_zero (by omega)
       subst this
       simp
    have d2 : (if a < s ∧ s < mid then waz n (a : Int) (s : Int) (mid : Int) f (P ++ (L1 ++ (R1 ++ (L2 ++ (R2 ++ S))))) else some (P ++ (L1 ++ (R1 ++ (L2 ++ (R2 ++ S)))))) = some (P ++ (mrg le L1 R1 ++ (L2 ++ (R2 ++ S)))) := by
     split
     next c => exact ih L1 R1 P (L2 ++ (R2 ++ S)) a s mid (by omega) (by omega) (by omega) t1 u1 (by simp; omega) ha (by omega) (by omega)
     next c =>
      rcases Nat.lt_or_ge a s with c1 | c1
      ·have : R1 = [] := List.eq_nil_of_length_eq_zero (by omega)
       subst this
       rfl
      ·have : L1 = [] := List.eq_nil_of_length_eq_zero (by omega)
       subst this
       rw [waj u1]
       rfl
    have lM : (mrg le L1 R1).length = L1.length + R1.length := wami L1 R1
    have d3 : (if mid < e ∧ e < b then waz n (mid : Int) (e : Int) (b : Int) f (P ++ (mrg le L1 R1 ++ (L2 ++ (R2 ++ S)))) else some (P ++ (mrg le L1 R1 ++ (L2 ++ (R2 ++ S))))) = some (P ++ (mrg le L1 R1 ++ mrg le L2 R2 ++ S)) := by
     split
     next c =>
      have := ih L2 R2 (P ++ mrg le L1 R1) S mid e b (by omega) (by omega) (by omega) t2 u2 (by rw [List.length_append]; omega) (by rw [List.length_append]; omega) (by rw [List.length_append]; omega) (by rw [List.length_append]; omega)
      simp only [List.append_assoc] at this ⊢
      exact this
     next c =>
      rcases Nat.lt_or_ge mid e with c1 | c1
      ·have : R2 = [] := List.eq_nil_of_length_eq_zero (by omega)
       subst this
       simp [wgk]
      ·have : L2 = [] := List.eq_nil_of_length_eq_zero (by omega)
       subst this
       rw [waj u2]
       simp
    unfold wgm
    rw [d1, Option.bind_some, d2, Option.bind_some, d3]
end
end Go.Proofs.YtnagpmhaddfgmaaGreat
