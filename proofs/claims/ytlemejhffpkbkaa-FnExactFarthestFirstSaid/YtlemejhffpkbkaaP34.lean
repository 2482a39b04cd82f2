/-
  Plain laws: the sets of a size.
-/
import Derived.Test.YtlemejhffpkbkaaP28
import Derived.Test.YtlemejhffpkbkaaP8
namespace Go.Proofs.Ytlemejhffpkbkaa
theorem setP_places {n : Nat} (h7 : n ≤ 7) (hS : SetsP n) {s : List Int} (hs : s ∈ setsOf n) : Places s n ∧ 0 < s.length ∧ Low1 s := by
  obtain ⟨h1, h2, h3⟩ := hS.rising s hs
  have hl : Low1 s := by unfold Low1; omega
  exact ⟨Places.of hl h1, h2, hl⟩
def ofSz (n : Nat) (k : Int) : List (List Int) := (setsOf n).filter fun s => decide ((s.length : Int) = k)
def chkNE (n : Nat) : Bool := (List.range n).all fun k => (setsOf n).any fun s => Nat.beq s.length (k + 1)
theorem chkNE_all : ∀ n : Nat, n ≤ 7 → chkNE n = true
  | 0, _ => by kernel_rfl
  | 1, _ => by kernel_rfl
  | 2, _ => by kernel_rfl
  | 3, _ => by kernel_rfl
  | 4, _ => by kernel_rfl
  | 5, _ => by kernel_rfl
  | 6, _ => by kernel_rfl
  | 7, _ => by kernel_rfl
  | n + 8, h => by omega
theorem ofSz_ne {n : Nat} (h7 : n ≤ 7) {k : Int} (h1 : 1 ≤ k) (hk : k ≤ (n : Int)) : ofSz n k ≠ [] := by
  have h := chkNE_all n h7
  unfold chkNE at h
  have h2 := List.all_eq_true.1 h (k.toNat - 1) (List.mem_range.2 (by omega))
  obtain ⟨s, hs, e⟩ := List.any_eq_true.1 h2
  have e2 := Nat.eq_of_beq_eq_true e
  intro h3
  have h4 : s ∈ ofSz n k := List.mem_filter.2 ⟨hs, by simp; omega⟩
  rw [h3] at h4
  cases h4
theorem ofSz_mem {n : Nat} {k : Int} {s : List Int} : s ∈ ofSz n k ↔ s ∈ setsOf n ∧ (s.length : Int) = k := by
  unfold ofSz
  rw [List.mem_filter, decide_eq_true_eq]
theorem ofSize_eq {n : Nat} (h1 : 1 ≤ n) (h7 : n ≤ 7) (k : Int) : ∃ y, F_zo (n : Int) k = some y ∧ HG y ∧ permL y.1 y.2 = ofSz n k ∧ y.1.length = (ofSz n k).length ∧ (y.1.length : Int) ≤ 128 := by
  have hS := setsP h1 h7
  obtain ⟨x, e1, e2, e3⟩ := hS.im
  have hl128 := setsP_len hS h7
  have hxl : x.1.length = (setsOf n).length := by rw [← e3, permL_len]
  obtain ⟨y, k1, k2, k3⟩ := deleteFunc_eq (x := x) e2 (by omega) (p := fun h3_ => Option.bind (F_zp h3_.1 k) fun y4_ => some y4_) (q := fun s => !decide ((s.length : Int) = k)) fun s hs => by
    rw [e3] at hs
    obtain ⟨p1, p2, p3⟩ := setP_places h7 hS hs
    unfold Low1 at p3
    show Option.bind (F_zp s k) _ = _
    unfold F_zp T_zp
    simp (disch := omega) only [EV]
    by_cases h : (s.length : Int) = k <;> simp [h]
  have hk : permL y.1 y.2 = ofSz n k := by
    rw [k3, e3]
    unfold ofSz
    congr 1
    funext s
    simp
  have hyl : y.1.length = (ofSz n k).length := by rw [← hk, permL_len]
  have hle : (ofSz n k).length ≤ (setsOf n).length := List.length_filter_le _ _
  unfold F_zo T_zo
  simp (disch := omega) only [EV, e1, k1]
  exact ⟨_, rfl, k2, hk, hyl, by omega⟩
end Go.Proofs.Ytlemejhffpkbkaa
/-
  Plain laws: pairs with the greatest distance, and farthest places.
-/
namespace Go.Proofs.Ytlemejhffpkbkaa
theorem foldl_ge {α : Type} (g : Int → α → Int) {c : Int} : ∀ (l : List α) (b : Int), (∀ a i, i ∈ l → c ≤ a → c ≤ g a i) → c ≤ b → c ≤ l.foldl g b
  | [], _, _, h => h
  | x :: l, b, hg, h => foldl_ge g l _ (fun a i hi => hg a i (List.mem_cons_of_mem _ hi)) (hg b x List.mem_cons_self h)
theorem disp_ge {m : List (List Int)} {s : List Int} {c b : Int} (h : ∀ i j, i < s.length → j < i → c ≤ at2 m (pl s i) (pl s j)) (hb : c ≤ b) : c ≤ disp m s b :=
  foldl_ge _ _ _ (fun a i hi ha => foldl_ge _ _ _ (fun a' j hj ha' => by
    have := h i j (List.mem_range.1 hi) (List.mem_range.1 hj)
    show c ≤ min a' _
    omega) ha) hb
theorem disp_in {m : List (List Int)} (hm : Ground m) {s : List Int} (hs : Places s m.length) : 0 ≤ disp m s 100 ∧ disp m s 100 ≤ 100 :=
  ⟨disp_ge (fun i j hi hj => (hm.in (hs.pl hi).2 (hs.pl (show j < s.length by omega)).2).1) (by omega), foldl_min_le _ (fun a i => foldl_min_le _ (fun a j => by omega) _ _) _ _⟩
def pairsOf (n : Nat) : List (List Int) := (List.range n).flatMap fun i => (List.range (n - (i + 1))).map fun k => [(i : Int), ((i + 1 + k : Nat) : Int)]
theorem pairs_eq : ∀ n : Nat, n ≤ 7 → ofSz n 2 = pairsOf n
  | 0, _ => by kernel_rfl
  | 1, _ => by kernel_rfl
  | 2, _ => by kernel_rfl
  | 3, _ => by kernel_rfl
  | 4, _ => by kernel_rfl
  | 5, _ => by kernel_rfl
  | 6, _ => by kernel_rfl
  | 7, _ => by kernel_rfl
  | n + 8, h => by omega
theorem pairs_head : ∀ n : Nat, 2 ≤ n → n ≤ 7 → ∃ r, pairsOf n = [(0 : Int), 1] :: r
  | 0, h, _ => by omega
  | 1, h, _ => by omega
  | 2, _, _ => ⟨_, rfl⟩
  | 3, _, _ => ⟨_, rfl⟩
  | 4, _, _ => ⟨_, rfl⟩
  | 5, _, _ => ⟨_, rfl⟩
  | 6, _, _ => ⟨_, rfl⟩
  | 7, _, _ => ⟨_, rfl⟩
  | n + 8, _, h => by omega
theorem foldl_first {g : List Int → Int} (a : List Int) : ∀ l : List (List Int), l.foldl (fun b s => if g s < g b then s else b) a = firstMin g (a :: l) := by
  have key : ∀ (n : Nat) (l : List (List Int)), l.length = n → l.foldl (fun b s => if g s < g b then s else b) a = firstMin g (a :: l) := by
    intro n
    induction n with
    | zero =>
      intro l hl
      have : l = [] := List.eq_nil_of_length_eq_zero hl
      subst this
      rw [firstMin_one]
      rfl
    | succ n ih =>
      intro l hl
      obtain ⟨l', s, rfl⟩ : ∃ l' s, l = l' ++ [s] := ⟨l.dropLast, l.getLast (fun e => by rw [e] at hl; simp at hl), (List.dropLast_concat_getLast _).symm⟩
      have h1 := ih l' (by simpa using hl)
      rw [List.foldl_append, h1, List.foldl_cons, List.foldl_nil, ← List.cons_append, firstMin_snoc (by simp)]
  exact fun l => key l.length l rfl
theorem foldl_head {g : List Int → Int} {l r : List (List Int)} {a : List Int} (h : l = a :: r) : l.foldl (fun b s => if g s < g b then s else b) a = firstMin g l := by
  subst h
  rw [List.foldl_cons, ite_self, foldl_first]
theorem foldl_nest {α β σ : Type} (f : σ → β → σ) (h : α → List β) : ∀ (l : List α) (s : σ), (l.flatMap h).foldl f s = l.foldl (fun s a => (h a).foldl f s) s
  | [], s => rfl
  | a :: l, s => by rw [List.flatMap_cons, List.foldl_append, List.foldl_cons, foldl_nest f h l]
theorem disp_pair {m : List (List Int)} (hm : Ground m) {i j : Nat} (hi : i < m.length) (hj : j < m.length) : disp m [(i : Int), (j : Int)] 100 = at2 m i j := by
  have h1 : disp m [(i : Int), (j : Int)] 100 = min 100 (at2 m j i) := rfl
  have h2 := hm.in hi hj
  rw [h1, hm.sym _ _ hj hi]
  omega
def farD (m : List (List Int)) (out : List Int) (a : Nat) : Int := out.foldl (fun w b => min w (at2 m a b.toNat)) 99
def farStep (m : List (List Int)) (out : List Int) : Int :=
  (List.range m.length).foldl (fun (best : Int) (a : Nat) => bif out.contains (a : Int) then best else if best < 0 ∨ farD m out best.toNat < farD m out a then (a : Int) else best) (-1)
theorem farD_ge {m : List (List Int)} (hm : Ground m) {out : List Int} {a : Nat} (ha : a < m.length) (ho : ∀ x ∈ out, 0 ≤ x ∧ x < (m.length : Int)) : 0 ≤ farD m out a := by
  have key : ∀ (l : List Int) (w : Int), (∀ x ∈ l, 0 ≤ x ∧ x < (m.length : Int)) → 0 ≤ w → 0 ≤ l.foldl (fun w b => min w (at2 m a b.toNat)) w := by
    intro l
    induction l with
    | nil => intro w _ h; exact h
    | cons x l ih =>
      intro w hl hw
      have hx := hl x List.mem_cons_self
      have := hm.in ha (show x.toNat < m.length by omega)
      exact ih _ (fun y hy => hl y (List.mem_cons_of_mem _ hy)) (show 0 ≤ min w (at2 m a x.toNat) by omega)
  exact key out 99 ho (by omega)
theorem cover_len : ∀ (n : Nat) (l : List Int), (∀ a, a < n → (a : Int) ∈ l) → n ≤ l.length
  | 0, _, _ => Nat.zero_le _
  | n + 1, l, h => by
    have h1 := h n (Nat.lt_succ_self n)
    have h2 := cover_len n (l.erase (n : Int)) fun a ha => (List.mem_erase_of_ne (by omega)).2 (h a (by omega))
    have h3 := List.length_erase_of_mem h1
    have h4 : 0 < l.length := List.length_pos_of_mem h1
    omega
def FarI (m : List (List Int)) (out : List Int) (i : Nat) (b : Int) : Prop :=
  (b = -1 ∧ ∀ a, a < i → (a : Int) ∈ out) ∨ ∃ q : Nat, b = (q : Int) ∧ q < i ∧ (q : Int) ∉ out ∧ ∀ a, a < i → (a : Int) ∉ out → farD m out a ≤ farD m out q
theorem farI_step {m : List (List Int)} {out : List Int} {i : Nat} {b : Int} (h : FarI m out i b) :
    FarI m out (i + 1) (bif out.contains (i : Int) then b else if b < 0 ∨ farD m out b.toNat < farD m out i then (i : Int) else b) := by
  cases hc : out.contains (i : Int) with
  | true =>
    have hi : (i : Int) ∈ out := by simpa using hc
    rw [cond_true]
    rcases h with ⟨rfl, h⟩ | ⟨q, rfl, h1, h2, h3⟩
    · exact .inl ⟨rfl, fun a ha => by
        by_cases e : a = i
        · rw [e]; exact hi
        · exact h a (by omega)⟩
    · exact .inr ⟨q, rfl, by omega, h2, fun a ha hn => by
        by_cases e : a = i
        · rw [e] at hn; exact absurd hi hn
        · exact h3 a (by omega) hn⟩
  | false =>
    have hi : (i : Int) ∉ out := by simpa using hc
    rw [cond_false]
    rcases h with ⟨rfl, h⟩ | ⟨q, rfl, h1, h2, h3⟩
    · rw [if_pos (.inl (by omega))]
      exact .inr ⟨i, rfl, by omega, hi, fun a ha hn => by
        by_cases e : a = i
        · rw [e]; exact Int.le_refl _
        · exact absurd (h a (by omega)) hn⟩
    · rw [Int.toNat_natCast]
      by_cases hq : farD m out q < farD m out i
      · rw [if_pos (.inr hq)]
        exact .inr ⟨i, rfl, by omega, hi, fun a ha hn => by
          by_cases e : a = i
          · rw [e]; exact Int.le_refl _
          · have := h3 a (by omega) hn; omega⟩
      · rw [if_neg (by omega)]
        exact .inr ⟨q, rfl, by omega, h2, fun a ha hn => by
          by_cases e : a = i
          · rw [e]; omega
          · exact h3 a (by omega) hn⟩
theorem farI_all (m : List (List Int)) (out : List Int) : ∀ i : Nat, FarI m out i ((List.range i).foldl (fun (best : Int) (a : Nat) => bif out.contains (a : Int) then best else if best < 0 ∨ farD m out best.toNat < farD m out a then (a : Int) else best) (-1))
  | 0 => .inl ⟨rfl, fun a ha => absurd ha (Nat.not_lt_zero a)⟩
  | i + 1 => by
    rw [foldl_range_succ]
    exact farI_step (farI_all m out i)
theorem farStep_spec {m : List (List Int)} {out : List Int} (hl : out.length < m.length) : ∃ q : Nat, farStep m out = (q : Int) ∧ q < m.length ∧ (q : Int) ∉ out ∧ ∀ a, a < m.length → (a : Int) ∉ out → farD m out a ≤ farD m out q := by
  rcases farI_all m out m.length with ⟨_, h⟩ | ⟨q, h1, h2, h3, h4⟩
  · have := cover_len m.length out h
    omega
  · exact ⟨q, h1, h2, h3, h4⟩
def farOf (m : List (List Int)) (k : Nat) : List Int := (List.range k).foldl (fun out _ => out ++ [farStep m out]) (firstMin (fun s => -disp m s 100) (ofSz m.length 2))
structure FarL (m : List (List Int)) (k : Nat) (out : List Int) : Prop where
  len : out.length = k
  mem : ∀ x ∈ out, 0 ≤ x ∧ x < (m.length : Int)
theorem FarL.snoc {m : List (List Int)} {k : Nat} {out : List Int} (h : FarL m k out) (hk : k < m.length) : FarL m (k + 1) (out ++ [farStep m out]) := by
  obtain ⟨q, e, h1, h2, _⟩ := farStep_spec (m := m) (out := out) (by rw [h.len]; exact hk)
  refine ⟨by simp [h.len], fun x hx => ?_⟩
  rcases List.mem_append.1 hx with h3 | h3
  · exact h.mem x h3
  · rw [List.mem_singleton.1 h3, e]
    omega
end Go.Proofs.Ytlemejhffpkbkaa
