/-
 Plain laws: slices.SortStableFunc at marks (a point, a set) puts them into the stable order, however many there are.
-/
import Derived.Test.YtnagpmhaddfgmaaGreatC1
import Derived.Test.YtnagpmhaddfgmaaGreatP61
namespace Go.Proofs.YtnagpmhaddfgmaaGreat
abbrev Mk := ((Int) × (Int)) × (List (Int))
abbrev mk0 : Mk := (((0 : Int), (0 : Int)), ([] : List (Int)))
abbrev MkT : Ty := .pair (.pair (.int .i64) (.int .i64)) (.slice (.int .i64))
def wpe (le : Mk → Mk → Bool) (f : HL [MkT, MkT] → Option Int) : Prop := ∀ x y : Mk, ∃ c, f (x, (y, ())) = some c ∧ (decide (c < 0)) = !le y x
section
variable {le : Mk → Mk → Bool} {f : HL [MkT, MkT] → Option Int}
theorem wiq (a b n : Int) : ∀ (X Y P Q S : List Mk) (i : Nat), X.length = Y.length → a + i = P.length → b + i = ((P.length + X.length + Q.length : Nat) : Int) → ((i + X.length : Nat) : Int) = n → P.length + X.length + Q.length + Y.length + S.length < 4611686018427387904 → 0 ≤ a →
  wdi (a, (b, n)) ((i : Int), P ++ (X ++ (Q ++ (Y ++ S)))) = some (P ++ (Y ++ (Q ++ (X ++ S)))) := by
 intro X
 induction X with
 | nil =>
  intro Y P Q S i hXY ha hb hn hlt hi
  have : Y = [] := List.eq_nil_of_length_eq_zero hXY.symm
  subst this
  unfold wdi
  rw [iter_eq]
  have hn' : ¬ (i : Int) < n := by simp at hn; omega
  simp (disch := omega) only [EV, wdh, hn']
 | cons x X ih =>
  intro Y P Q S i hXY ha hb hn hlt hi
  obtain ⟨y, Y, rfl⟩ : ∃ y Y', Y = y :: Y' := by
   cases Y with
   | nil => simp at hXY
   | cons y Y => exact ⟨y, Y, rfl⟩
  simp only [List.length_cons] at hXY hb hn hlt
  have hn' : (i : Int) < n := by omega
  have hl : (P ++ (x :: X ++ (Q ++ (y :: Y ++ S)))).length = P.length + (X.length + 1) + Q.length + (Y.length + 1) + S.length := by simp; omega
  have g1 : (P ++ (x :: X ++ (Q ++ (y :: Y ++ S)))).getD P.length mk0 = x := waf P x _ _ rfl
  have e0 : P ++ (x :: X ++ (Q ++ (y :: Y ++ S))) = (P ++ (x :: X ++ Q)) ++ y :: (Y ++ S) := by simp
  have g2 : (P ++ (x :: X ++ (Q ++ (y :: Y ++ S)))).getD (P.length + (X.length + 1) + Q.length) mk0 = y := by rw [e0]; exact waf _ y _ _ (by simp; omega)
  have s1 : ((P ++ (x :: X ++ (Q ++ (y :: Y ++ S)))).set P.length y).set (P.length + (X.length + 1) + Q.length) x = (P ++ [y]) ++ (X ++ ((Q ++ [x]) ++ (Y ++ S))) := by
   rw [List.cons_append, set_mid P x y _ rfl, show P ++ y :: (X ++ (Q ++ (y :: Y ++ S))) = (P ++ (y :: X ++ Q)) ++ y :: (Y ++ S) by simp, set_mid _ y x _ (by simp; omega)]
   simp
  have hih := ih Y (P ++ [y]) (Q ++ [x]) S (i + 1) (by omega) (by simp; omega) (by simp; omega) (by omega) (by simp; omega) (by omega)
  have hfin : (P ++ [y]) ++ (Y ++ ((Q ++ [x]) ++ (X ++ S))) = P ++ (y :: Y ++ (Q ++ (x :: X ++ S))) := by simp
  rw [hfin] at hih
  have h1 : P.length < P.length + (X.length + 1) + Q.length + (Y.length + 1) + S.length := by omega
  have h2 : P.length + (X.length + 1) + Q.length < P.length + (X.length + 1) + Q.length + (Y.length + 1) + S.length := by omega
  have e1 : ((i : Int) + 1) = ((i + 1 : Nat) : Int) := by omega
  generalize (P ++ (x :: X ++ (Q ++ (y :: Y ++ S)))) = D at hl g1 g2 s1
  unfold wdi at hih ⊢
  rw [iter_eq]
  have e : (wdh (a, (b, n)) ((i : Int), D)).ev = some (.inl (((i + 1 : Nat) : Int), (P ++ [y]) ++ (X ++ ((Q ++ [x]) ++ (Y ++ S))))) := by
   simp (disch := omega) only [EV, wdh, hn', ha, hb, hl, g1, g2, h1, h2, List.length_set, s1, e1]
  rw [e]
  exact hih
theorem wbf (X Y P Q S : List Mk) {a b n : Int} (hXY : X.length = Y.length) (ha : a = (P.length : Int)) (hb : b = ((P.length + X.length + Q.length : Nat) : Int)) (hn : n = (X.length : Int)) (hlt : P.length + X.length + Q.length + Y.length + S.length < 4611686018427387904) :
  wkc a b n f (P ++ (X ++ (Q ++ (Y ++ S)))) = some (P ++ (Y ++ (Q ++ (X ++ S)))) := by
 have h := wiq a b n X Y P Q S 0 hXY (by omega) (by omega) (by omega) hlt (by omega)
 unfold wkc waex
 have h' : wdi (a, (b, n)) ((0 : Int), P ++ (X ++ (Q ++ (Y ++ S)))) = some (P ++ (Y ++ (Q ++ (X ++ S)))) := h
 simp (disch := omega) only [EV, h']
theorem wso (m : Nat) : ∀ (N : Nat) (X Y P S : List Mk), X.length + Y.length ≤ N → 0 < X.length → 0 < Y.length → m = P.length + X.length → P.length + X.length + Y.length + S.length < 4611686018427387904 →
  ∃ (g : Nat) (D : List Mk), wkd ((m : Int), f) ((X.length : Int), ((Y.length : Int), P ++ (X ++ (Y ++ S)))) = some ((g : Int), D) ∧ g ≤ m ∧ wkc ((m : Int) - (g : Int)) (m : Int) (g : Int) f D = some (P ++ (Y ++ (X ++ S))) := by
 intro N
 induction N with
 | zero => intro X Y P S h1 h2; omega
 | succ N ih =>
  intro X Y P S h1 hX hY hm hlt
  unfold wkd at ih ⊢
  rcases Nat.lt_trichotomy X.length Y.length with hc | hc | hc
  ·
   obtain ⟨Y1, Y2, rfl, hY2⟩ : ∃ Y1 Y2, Y = Y1 ++ Y2 ∧ Y2.length = X.length := ⟨Y.take (Y.length - X.length), Y.drop (Y.length - X.length), (List.take_append_drop _ _).symm, by simp; omega⟩
   simp only [List.length_append] at *
   have hsw := wbf (f := f) X Y2 P Y1 S (a := (m : Int) - (X.length : Int)) (b := (m : Int) + ((Y1.length + Y2.length : Nat) : Int) - (X.length : Int)) (n := (X.length : Int)) hY2.symm (by omega) (by omega) rfl (by omega)
   obtain ⟨g, D, e1, e2, e3⟩ := ih Y2 Y1 P (X ++ S) (by omega) (by omega) (by omega) (by omega) (by simp; omega)
   refine ⟨g, D, ?_, e2, by rw [e3]; simp⟩
   rw [iter_eq]
   have n1 : ((X.length : Int) != ((Y1.length + Y2.length : Nat) : Int)) = true := by simp; omega
   have n2 : ¬ Y1.length + Y2.length < X.length := by omega
   have n3 : ((Y1.length + Y2.length : Nat) : Int) - (X.length : Int) = (Y1.length : Int) := by omega
   have e : (wbk ((m : Int), f) ((X.length : Int), (((Y1.length + Y2.length : Nat) : Int), P ++ (X ++ (Y1 ++ Y2 ++ S))))).ev = some (.inl ((X.length : Int), ((Y1.length : Int), P ++ (Y2 ++ (Y1 ++ (X ++ S)))))) := by
    rw [List.append_assoc Y1 Y2 S]
    simp (disch := omega) only [EV, wbk, n1, n2, hsw, n3]
   rw [hY2] at e1
   rw [e]
   exact e1
  ·
   refine ⟨X.length, P ++ (X ++ (Y ++ S)), ?_, by omega, ?_⟩
   ·rw [iter_eq]
    have n1 : ((X.length : Int) != (Y.length : Int)) = false := by simp [hc]
    simp (disch := omega) only [EV, wbk, n1]
   ·have hsw := wbf (f := f) X Y P [] S (a := (m : Int) - (X.length : Int)) (b := (m : Int)) (n := (X.length : Int)) hc (by omega) (by simp; omega) rfl (by simp; omega)
    exact hsw
  ·
   obtain ⟨X1, X2, rfl, hX1⟩ : ∃ X1 X2, X = X1 ++ X2 ∧ X1.length = Y.length := ⟨X.take Y.length, X.drop Y.length, (List.take_append_drop _ _).symm, by simp; omega⟩
   simp only [List.length_append] at *
   have hsw := wbf (f := f) X1 Y P X2 S (a := (m : Int) - ((X1.length + X2.length : Nat) : Int)) (b := (m : Int)) (n := (Y.length : Int)) hX1 (by omega) (by omega) (by omega) (by omega)
   obtain ⟨g, D, e1, e2, e3⟩ := ih X2 X1 (P ++ Y) S (by omega) (by omega) (by omega) (by simp; omega) (by simp; omega)
   refine ⟨g, D, ?_, e2, by rw [e3]; simp⟩
   rw [iter_eq]
   have n1 : (((X1.length + X2.length : Nat) : Int) != (Y.length : Int)) = true := by simp; omega
   have n2 : Y.length < X1.length + X2.length := by omega
   have n3 : ((X1.length + X2.length : Nat) : Int) - (Y.length : Int) = (X2.length : Int) := by omega
   have e : (wbk ((m : Int), f) (((X1.length + X2.length : Nat) : Int), ((Y.length : Int), P ++ (X1 ++ X2 ++ (Y ++ S))))).ev = some (.inl ((X2.length : Int), ((Y.length : Int), P ++ Y ++ (X2 ++ (X1 ++ S))))) := by
    rw [List.append_assoc X1 X2, List.append_assoc P Y]
    simp (disch := omega) only [EV, wbk, n1, n2, hsw, n3]
   rw [hX1] at e1
   rw [e]
   exact e1
theorem wsp (X Y P S : List Mk) {a m b : Nat} (hX : 0 < X.length) (hY : 0 < Y.length) (ha : a = P.length) (hm : m = P.length + X.length) (hb : b = P.length + X.length + Y.length) (hlt : P.length + X.length + Y.length + S.length < 4611686018427387904) :
  wig (a : Int) (m : Int) (b : Int) f (P ++ (X ++ (Y ++ S))) = some (P ++ (Y ++ (X ++ S))) := by
 obtain ⟨g, D, e1, e2, e3⟩ := wso (f := f) m _ X Y P S (Nat.le_refl _) hX hY hm hlt
 unfold wig wafc
 have n1 : (m : Int) - (a : Int) = (X.length : Int) := by omega
 have n2 : (b : Int) - (m : Int) = (Y.length : Int) := by omega
 simp (disch := omega) only [EV, n1, n2, e1, e3]
section
variable {rec_ : Int → Int → Int → (HL [MkT, MkT] → Option Int) → List Mk → Option (List Mk)}
theorem wsq (hf : wpe le f) (D : List Mk) (a lo hi : Nat) (ha : a < D.length) (hhi : hi ≤ D.length) (hlt : D.length < 2305843009213693952) (hle : lo ≤ hi)
  (hp : ∀ h k : Nat, lo ≤ h → h ≤ k → k < hi → (!le (D.getD a mk0) (D.getD k mk0)) = true → (!le (D.getD a mk0) (D.getD h mk0)) = true) :
  ∃ s : Nat, wke rec_ ((a : Int), (f, D)) ((lo : Int), (hi : Int)) = some (s : Int) ∧ lo ≤ s ∧ s ≤ hi ∧ (lo < s → (!le (D.getD a mk0) (D.getD (s - 1) mk0)) = true) ∧ (s < hi → (!le (D.getD a mk0) (D.getD s mk0)) = false) := by
 refine wel (fun k => !le (D.getD a mk0) (D.getD k mk0)) lo hi (by omega) (fun i j h1 h2 h3 => ?_) (fun i => ?_) hp hle
 ·obtain ⟨c, hc, hci⟩ := hf (D.getD ((i + j) / 2) mk0) (D.getD a mk0)
  have k1 : (i + j) / 2 < D.length := by omega
  have e1 : (((i + j) / 2 : Nat) : Int) + 1 = (((i + j) / 2 + 1 : Nat) : Int) := by omega
  have e2 : ((0 : Int) ≤ 1) = True := by simp
  generalize hq : (i + j) / 2 = q at *
  have e0 : IntKind.wrap .i64 (Int.fdiv (IntKind.wrap .u64 ((i : Int) + (j : Int))) (2 ^ (min (Int.toNat (1 : Int)) (IntKind.bits .u64)))) = ((q : Nat) : Int) := by rw [wamj i j (by omega), hq]
  cases hb : (!le (D.getD a mk0) (D.getD q mk0)) with
  | true =>
   rw [hb] at hci
   have hc' : (c < 0) = True := by simpa using hci
   simp (disch := omega) only [EV, wdj, h2, e2, e0, k1, ha, hc, hc', e1]
  | false =>
   rw [hb] at hci
   have hc' : (c < 0) = False := by simpa using hci
   simp (disch := omega) only [EV, wdj, h2, e2, e0, k1, ha, hc, hc', e1]
 ·simp (disch := omega) only [EV, wdj, Nat.lt_irrefl]
theorem wsr (hf : wpe le f) (D : List Mk) (m lo hi : Nat) (ha : m < D.length) (hhi : hi ≤ D.length) (hlt : D.length < 2305843009213693952) (hle : lo ≤ hi)
  (hp : ∀ h k : Nat, lo ≤ h → h ≤ k → k < hi → le (D.getD k mk0) (D.getD m mk0) = true → le (D.getD h mk0) (D.getD m mk0) = true) :
  ∃ s : Nat, wkf rec_ ((m : Int), (f, D)) ((lo : Int), (hi : Int)) = some (s : Int) ∧ lo ≤ s ∧ s ≤ hi ∧ (lo < s → le (D.getD (s - 1) mk0) (D.getD m mk0) = true) ∧ (s < hi → le (D.getD s mk0) (D.getD m mk0) = false) := by
 refine wel (fun k => le (D.getD k mk0) (D.getD m mk0)) lo hi (by omega) (fun i j h1 h2 h3 => ?_) (fun i => ?_) hp hle
 ·obtain ⟨c, hc, hci⟩ := hf (D.getD m mk0) (D.getD ((i + j) / 2) mk0)
  have k1 : (i + j) / 2 < D.length := by omega
  have e1 : (((i + j) / 2 : Nat) : Int) + 1 = (((i + j) / 2 + 1 : Nat) : Int) := by omega
  have e2 : ((0 : Int) ≤ 1) = True := by simp
  generalize hq : (i + j) / 2 = q at *
  have e0 : IntKind.wrap .i64 (Int.fdiv (IntKind.wrap .u64 ((i : Int) + (j : Int))) (2 ^ (min (Int.toNat (1 : Int)) (IntKind.bits .u64)))) = ((q : Nat) : Int) := by rw [wamj i j (by omega), hq]
  cases hb : le (D.getD q mk0) (D.getD m mk0) with
  | true =>
   rw [hb] at hci
   have hc' : (c < 0) = False := by simpa using hci
   simp (disch := omega) only [EV, wdm, h2, e2, e0, k1, ha, hc, hc', e1]
  | false =>
   rw [hb] at hci
   have hc' : (c < 0) = True := by simpa using hci
   simp (disch := omega) only [EV, wdm, h2, e2, e0, k1, ha, hc, hc', e1]
 ·simp (disch := omega) only [EV, wdm, Nat.lt_irrefl]
theorem wss (hf : wpe le f) (D : List Mk) (n lo hi : Nat) (a2 a3 a4 a6 a7 : Int) (hn : hi ≤ n) (hn2 : n ≤ D.length + lo) (hhi : hi ≤ D.length) (hlt : D.length < 1152921504606846976) (hle : lo ≤ hi)
  (hp : ∀ h k : Nat, lo ≤ h → h ≤ k → k < hi → le (D.getD k mk0) (D.getD (n - 1 - k) mk0) = true → le (D.getD h mk0) (D.getD (n - 1 - h) mk0) = true) :
  ∃ s : Nat, wbw rec_ (a2, (a3, (a4, (f, (a6, (a7, (((n : Int) - 1), D))))))) ((lo : Int), (hi : Int)) = some (s : Int) ∧ lo ≤ s ∧ s ≤ hi ∧ (lo < s → le (D.getD (s - 1) mk0) (D.getD (n - 1 - (s - 1)) mk0) = true) ∧ (s < hi → le (D.getD s mk0) (D.getD (n - 1 - s) mk0) = false) := by
 refine wel (fun k => le (D.getD k mk0) (D.getD (n - 1 - k) mk0)) lo hi (by omega) (fun i j h1 h2 h3 => ?_) (fun i => ?_) hp hle
 ·obtain ⟨c, hc, hci⟩ := hf (D.getD (n - 1 - (i + j) / 2) mk0) (D.getD ((i + j) / 2) mk0)
  have k1 : (i + j) / 2 < D.length := by omega
  have k2 : n - 1 - (i + j) / 2 < D.length := by omega
  have e3 : ((n : Int) - 1) - (((i + j) / 2 : Nat) : Int) = ((n - 1 - (i + j) / 2 : Nat) : Int) := by omega
  have e1 : (((i + j) / 2 : Nat) : Int) + 1 = (((i + j) / 2 + 1 : Nat) : Int) := by omega
  have e2 : ((0 : Int) ≤ 1) = True := by simp
  have kq : (i + j) / 2 < 1152921504606846976 := by omega
  generalize hq : (i + j) / 2 = q at *
  have e0 : IntKind.wrap .i64 (Int.fdiv (IntKind.wrap .u64 ((i : Int) + (j : Int))) (2 ^ (min (Int.toNat (1 : Int)) (IntKind.bits .u64)))) = ((q : Nat) : Int) := by rw [wamj i j (by omega), hq]
  cases hb : le (D.getD q mk0) (D.getD (n - 1 - q) mk0) with
  | true =>
   rw [hb] at hci
   have hc' : (c < 0) = False := by simpa using hci
   simp (disch := omega) only [EV, wdq, h2, e2, e0, k1, k2, e3, hc, hc', e1]
  | false =>
   rw [hb] at hci
   have hc' : (c < 0) = True := by simpa using hci
   simp (disch := omega) only [EV, wdq, h2, e2, e0, k1, k2, e3, hc, hc', e1]
 ·simp (disch := omega) only [EV, wdq, Nat.lt_irrefl]
theorem wsu (i : Int) : ∀ (R : List Mk) (P : List Mk) (x : Mk) (S : List Mk), i - 1 = ((P.length + R.length : Nat) : Int) → P.length + R.length + S.length < 4611686018427387904 →
  wdl rec_ i ((P.length : Int), P ++ x :: (R ++ S)) = some (P ++ (R ++ x :: S)) := by
 intro R
 induction R with
 | nil =>
  intro P x S hi hlt
  unfold wdl
  rw [iter_eq]
  simp only [List.length_nil, Nat.add_zero] at hi
  have hi2 : -9223372036854775808 ≤ i - 1 ∧ i - 1 < 9223372036854775808 := by omega
  simp (disch := omega) only [EV, wdk, hi, Nat.lt_irrefl]
  rfl
 | cons y R ih =>
  intro P x S hi hlt
  simp only [List.length_cons] at hi hlt
  have hih := ih (P ++ [y]) x S (by simp; omega) (by simp; omega)
  have hl : (P ++ x :: (y :: R ++ S)).length = P.length + (R.length + S.length + 2) := by simp
  have g1 : (P ++ x :: (y :: R ++ S)).getD P.length mk0 = x := waf P x _ _ rfl
  have e0 : P ++ x :: (y :: R ++ S) = (P ++ [x]) ++ y :: (R ++ S) := by simp
  have g2 : (P ++ x :: (y :: R ++ S)).getD (P.length + 1) mk0 = y := by rw [e0]; exact waf _ y _ _ (by simp)
  have s1 : ((P ++ x :: (y :: R ++ S)).set P.length y).set (P.length + 1) x = (P ++ [y]) ++ x :: (R ++ S) := by
   rw [set_mid P x y _ rfl, show P ++ y :: (y :: R ++ S) = (P ++ [y]) ++ y :: (R ++ S) by simp, set_mid _ y x _ (by simp)]
  have h1 : P.length < P.length + (R.length + S.length + 2) := by omega
  have h2 : P.length + 1 < P.length + (R.length + S.length + 2) := by omega
  have h3 : P.length < P.length + (R.length + 1) := by omega
  have e1 : ((P.length : Int) + 1) = ((P.length + 1 : Nat) : Int) := by omega
  have hfin : (P ++ [y]) ++ (R ++ x :: S) = P ++ (y :: R ++ x :: S) := by simp
  rw [hfin, show ((P ++ [y]).length : Int) = ((P.length + 1 : Nat) : Int) by simp] at hih
  have hi2 : -9223372036854775808 ≤ i - 1 ∧ i - 1 < 9223372036854775808 := by omega
  generalize (P ++ x :: (y :: R ++ S)) = D at hl g1 g2 s1
  unfold wdl at hih ⊢
  rw [iter_eq]
  have e : (wdk rec_ i ((P.length : Int), D)).ev = some (.inl (((P.length + 1 : Nat) : Int), (P ++ [y]) ++ x :: (R ++ S))) := by
   simp (disch := omega) only [EV, wdk, hi, h3, e1, hl, g1, g2, h1, h2, List.length_set, s1]
  rw [e]
  exact hih
theorem wsv (i : Nat) : ∀ (n : Nat) (L P S : List Mk) (y : Mk), L.length = n → i = P.length → P.length + L.length + S.length < 4611686018427387904 →
  wdp rec_ (i : Int) (((P.length + L.length : Nat) : Int), P ++ (L ++ y :: S)) = some (P ++ y :: (L ++ S)) := by
 intro n
 induction n with
 | zero =>
  intro L P S y hn hi hlt
  have := List.eq_nil_of_length_eq_zero hn
  subst this
  subst hi
  unfold wdp
  rw [iter_eq]
  simp (disch := omega) only [EV, wdo, List.length_nil, Nat.add_zero, Nat.lt_irrefl]
  rfl
 | succ n ih =>
  intro L P S y hn hi hlt
  obtain ⟨q, x, rfl⟩ : ∃ q x, L = q ++ [x] := by
   rcases List.eq_nil_or_concat L with h | ⟨q, x, h⟩
   ·rw [h] at hn; cases hn
   ·exact ⟨q, x, by simpa using h⟩
  have hq : q.length = n := by simpa using hn
  simp only [List.length_append, List.length_cons, List.length_nil] at hlt
  have hih := ih q P (x :: S) y hq hi (by simp; omega)
  have hl : (P ++ (q ++ [x] ++ y :: S)).length = P.length + n + S.length + 2 := by simp; omega
  have g1 : (P ++ (q ++ [x] ++ y :: S)).getD (P.length + n + 1) mk0 = y := by
   rw [show P ++ (q ++ [x] ++ y :: S) = (P ++ (q ++ [x])) ++ y :: S by simp]; exact waf _ y _ _ (by simp; omega)
  have g2 : (P ++ (q ++ [x] ++ y :: S)).getD (P.length + n) mk0 = x := by
   rw [show P ++ (q ++ [x] ++ y :: S) = (P ++ q) ++ x :: (y :: S) by simp]; exact waf _ x _ _ (by simp; omega)
  have s1 : ((P ++ (q ++ [x] ++ y :: S)).set (P.length + n + 1) x).set (P.length + n) y = P ++ (q ++ y :: x :: S) := by
   rw [show P ++ (q ++ [x] ++ y :: S) = (P ++ (q ++ [x])) ++ y :: S by simp, set_mid _ y x _ (by simp; omega), show (P ++ (q ++ [x])) ++ x :: S = (P ++ q) ++ x :: (x :: S) by simp, set_mid _ x y _ (by simp; omega)]
   simp
  have h1 : P.length + n + 1 < P.length + n + S.length + 2 := by omega
  have h2 : P.length + n < P.length + n + S.length + 2 := by omega
  have h3 : P.length < P.length + n + 1 := by omega
  have e1 : ((P.length + n + 1 : Nat) : Int) - 1 = ((P.length + n : Nat) : Int) := by omega
  have e2 : ((P.length + (q ++ [x]).length : Nat) : Int) = ((P.length + n + 1 : Nat) : Int) := by simp; omega
  have s2 : P ++ y :: (q ++ [x] ++ S) = P ++ y :: (q ++ x :: S) := by simp
  rw [e2, s2]
  rw [hq] at hih
  subst hi
  generalize (P ++ (q ++ [x] ++ y :: S)) = D at hl g1 g2 s1
  unfold wdp at hih ⊢
  rw [iter_eq]
  have hb : P.length + n + 1 < 4611686018427387904 := by omega
  have e : (wdo rec_ (P.length : Int) (((P.length + n + 1 : Nat) : Int), D)).ev = some (.inl (((P.length + n : Nat) : Int), P ++ (q ++ y :: x :: S))) := by
   simp (disch := omega) only [EV, wdo, h3, e1, hl, g1, g2, h1, h2, List.length_set, s1]
  rw [e]
  exact hih
end
end
end Go.Proofs.YtnagpmhaddfgmaaGreat
