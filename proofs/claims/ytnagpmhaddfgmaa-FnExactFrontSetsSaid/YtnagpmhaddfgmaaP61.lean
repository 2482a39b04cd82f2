/-
 Plain laws: a stable order by any comparison, lists merged; rounds that halve a range.
-/
import Derived.Test.YtnagpmhaddfgmaaPM
namespace Go.Proofs.Ytnagpmhaddfgmaa
section
variable {α : Type} {le : α → α → Bool}
def wdu (le : α → α → Bool) (x : α) : List α → List α
 | [] => [x]
 | a :: l => match le a x with
  | true => a :: wdu le x l
  | false => x :: a :: l
def mrg (le : α → α → Bool) (L R : List α) : List α := R.foldl (fun acc x => wdu le x acc) L
def wdv (le : α → α → Bool) (l : List α) : List α := mrg le [] l
structure TO (le : α → α → Bool) : Prop where
 tot : ∀ x y, le x y = false → le y x = true
 tr : ∀ x y z, le x y = true → le y z = true → le x z = true
abbrev Srt (le : α → α → Bool) (l : List α) : Prop := l.Pairwise fun a b => le a b = true
theorem wqc (L : List α) : mrg le L [] = L := rfl
theorem wby (L : List α) (x : α) (R : List α) : mrg le L (x :: R) = mrg le (wdu le x L) R := rfl
theorem wnd (L R R' : List α) : mrg le L (R ++ R') = mrg le (mrg le L R) R' := by simp [mrg]
theorem wne (x : α) : ∀ l : List α, (wdu le x l).Perm (x :: l)
 | [] => .refl _
 | a :: l => by
  simp only [wdu]
  split
  ·exact ((wne x l).cons a).trans (.swap x a l)
  ·exact .refl _
theorem wkd : ∀ (R L : List α), (mrg le L R).Perm (L ++ R)
 | [], L => by simp [mrg]
 | x :: R, L => by
  rw [wby]
  refine (wkd R _).trans (((wne x L).append_right R).trans ?_)
  rw [List.cons_append]
  exact List.perm_middle.symm
theorem wayv (L R : List α) : (mrg le L R).length = L.length + R.length := by rw [(wkd R L).length_eq, List.length_append]
theorem wnf {x : α} : ∀ {A : List α} (B : List α), (∀ a ∈ A, le a x = true) → wdu le x (A ++ B) = A ++ wdu le x B
 | [], _, _ => rfl
 | a :: A, B, h => by
  simp only [List.cons_append, wdu, h a List.mem_cons_self]
  rw [wnf B fun y hy => h y (List.mem_cons_of_mem _ hy)]
theorem wop {x : α} : ∀ (A : List α) {B : List α}, (∀ b ∈ B, le b x = false) → wdu le x (A ++ B) = wdu le x A ++ B
 | [], [], _ => rfl
 | [], b :: B, h => by simp [wdu, h b List.mem_cons_self]
 | a :: A, B, h => by
  simp only [List.cons_append, wdu]
  split
  ·rw [wop A h]; rfl
  ·rfl
theorem whr : ∀ (R : List α) {A : List α} (B : List α), (∀ a ∈ A, ∀ x ∈ R, le a x = true) → mrg le (A ++ B) R = A ++ mrg le B R
 | [], _, _, _ => rfl
 | x :: R, A, B, h => by
  rw [wby, wnf B fun a ha => h a ha x List.mem_cons_self, whr R _ fun a ha y hy => h a ha y (List.mem_cons_of_mem _ hy), wby]
theorem wng : ∀ (R : List α) (A : List α) {B : List α}, (∀ x ∈ R, ∀ b ∈ B, le b x = false) → mrg le (A ++ B) R = mrg le A R ++ B
 | [], _, _, _ => rfl
 | x :: R, A, B, h => by
  rw [wby, wop A fun b hb => h x List.mem_cons_self b hb, wng R _ fun y hy b hb => h y (List.mem_cons_of_mem _ hy) b hb, wby]
theorem wsj {L1 L2 R1 R2 : List α} (h1 : ∀ x ∈ R1, ∀ y ∈ L2, le y x = false) (h2 : ∀ x ∈ L1, ∀ y ∈ R2, le x y = true) (h3 : ∀ x ∈ R1, ∀ y ∈ R2, le x y = true) :
  mrg le (L1 ++ L2) (R1 ++ R2) = mrg le L1 R1 ++ mrg le L2 R2 := by
 rw [wnd, wng R1 L1 h1, whr R2 L2]
 intro a ha x hx
 rcases List.mem_append.1 ((wkd R1 L1).mem_iff.1 ha) with ha | ha
 ·exact h2 a ha x hx
 ·exact h3 a ha x hx
theorem wdw : ∀ {R : List α}, Srt le R → mrg le [] R = R
 | [], _ => rfl
 | x :: R, h => by
  have h := List.pairwise_cons.1 h
  rw [wby]
  show mrg le ([x] ++ []) R = x :: R
  rw [whr R [] (fun a ha y hy => by rw [List.mem_singleton.1 ha]; exact h.1 y hy), wdw h.2]
  rfl
theorem wke (ho : TO le) {x : α} : ∀ {l : List α}, Srt le l → Srt le (wdu le x l)
 | [], _ => by simp [wdu]
 | a :: l, h => by
  have h' := List.pairwise_cons.1 h
  simp only [wdu]
  split
  next hx =>
   refine List.pairwise_cons.2 ⟨fun y hy => ?_, wke ho h'.2⟩
   rcases List.mem_cons.1 ((wne x l).mem_iff.1 hy) with e | hy
   ·rw [e]; exact hx
   ·exact h'.1 y hy
  next hx =>
   refine List.pairwise_cons.2 ⟨fun y hy => ?_, h⟩
   rcases List.mem_cons.1 hy with rfl | hy
   ·exact ho.tot _ _ hx
   ·exact ho.tr _ _ _ (ho.tot _ _ hx) (h'.1 y hy)
theorem waga (ho : TO le) : ∀ (R : List α) {L : List α}, Srt le L → Srt le (mrg le L R)
 | [], _, h => h
 | x :: R, _, h => waga ho R (wke ho h)
theorem whs (ho : TO le) (l : List α) : Srt le (wdv le l) := waga ho l List.Pairwise.nil
theorem wnh (l : List α) : (wdv le l).Perm l := by simpa [wdv] using wkd (le := le) l []
theorem wsk (ho : TO le) {z b : α} (h : le b z = false) : ∀ M : List α, wdu le b (wdu le z M) = wdu le z (wdu le b M)
 | [] => by simp [wdu, h, ho.tot _ _ h]
 | a :: M => by
  have hzb := ho.tot _ _ h
  simp only [wdu]
  cases haz : le a z with
  | true =>
   have hab := ho.tr _ _ _ haz hzb
   simp only [wdu, hab, haz]
   rw [wsk ho h M]
  | false =>
   cases hab : le a b with
   | true => simp only [wdu, hzb, hab, haz]
   | false => simp only [wdu, hzb, hab, h]
theorem wagb (ho : TO le) {z : α} : ∀ (B M : List α), (∀ b ∈ B, le b z = false) → mrg le (wdu le z M) B = wdu le z (mrg le M B)
 | [], _, _ => rfl
 | b :: B, M, h => by
  rw [wby, wsk ho (h b List.mem_cons_self), wagb ho B _ fun x hx => h x (List.mem_cons_of_mem _ hx), wby]
theorem woq (ho : TO le) (z : α) : ∀ {l : List α}, Srt le l → ∃ A B, l = A ++ B ∧ wdu le z l = A ++ z :: B ∧ ∀ b ∈ B, le b z = false
 | [], _ => ⟨[], [], rfl, rfl, fun _ h => by cases h⟩
 | a :: l, h => by
  have h' := List.pairwise_cons.1 h
  cases haz : le a z with
  | true =>
   obtain ⟨A, B, e1, e2, e3⟩ := woq ho z h'.2
   exact ⟨a :: A, B, by rw [e1]; rfl, by simp only [wdu, haz, e2, List.cons_append], e3⟩
  | false =>
   refine ⟨[], a :: l, rfl, by simp only [wdu, haz, List.nil_append], fun b hb => ?_⟩
   rcases List.mem_cons.1 hb with rfl | hb
   ·exact haz
   ·cases hbz : le b z with
    | false => rfl
    | true =>
     have := ho.tr _ _ _ (h'.1 b hb) hbz
     rw [haz] at this
     cases this
theorem walp (ho : TO le) (L : List α) (l : List α) : mrg le L (wdv le l) = mrg le L l := by
 have key : ∀ (l acc : List α), Srt le acc → mrg le L (mrg le acc l) = mrg le (mrg le L acc) l := by
  intro l
  induction l with
  | nil => intro acc _; rfl
  | cons z l ih =>
   intro acc h
   rw [wby, ih _ (wke ho h), wby]
   congr 1
   obtain ⟨A, B, e1, e2, e3⟩ := woq ho z h
   rw [e2, e1, wnd, wby, wagb ho B _ e3, wnd]
 have := key l [] List.Pairwise.nil
 rw [wqc] at this
 exact this
theorem wyp (ho : TO le) (l l' : List α) : wdv le (l ++ l') = mrg le (wdv le l) (wdv le l') := by
 rw [walp ho]
 exact wnd [] l l'
theorem wak (l : List α) : (wdv le l).length = l.length := (wnh l).length_eq
theorem wagc (l : List α) (x : α) : wdv le (l ++ [x]) = wdu le x (wdv le l) := wnd [] l [x]
end
theorem midE (i j : Nat) (h : i + j < 4611686018427387904) : IntKind.wrap .i64 (Int.fdiv (IntKind.wrap .u64 (IntKind.wrap .i64 ((i : Int) + (j : Int)))) (2 ^ (min (Int.toNat (1 : Int)) (IntKind.bits .u64)))) = (((i + j) / 2 : Nat) : Int) := by
 have e1 : IntKind.wrap .i64 ((i : Int) + (j : Int)) = ((i + j : Nat) : Int) := by rw [wrap64 (by omega) (by omega)]; omega
 have e2 : IntKind.wrap .u64 ((i + j : Nat) : Int) = ((i + j : Nat) : Int) := by
  unfold IntKind.wrap
  simp only [IntKind.bits, IntKind.signed]
  simp
  omega
 have e3 : (2 : Int) ^ (min (Int.toNat (1 : Int)) (IntKind.bits .u64)) = 2 := rfl
 rw [e1, e2, e3, Int.fdiv_eq_ediv_of_nonneg _ (by omega), wrap64 (by omega) (by omega)]
 omega
theorem wayw (i j : Nat) (h : i + j < 4611686018427387904) : IntKind.wrap .i64 (Int.fdiv (IntKind.wrap .u64 ((i : Int) + (j : Int))) (2 ^ (min (Int.toNat (1 : Int)) (IntKind.bits .u64)))) = (((i + j) / 2 : Nat) : Int) := by
 have := midE i j h
 rwa [wrap64 (n := (i : Int) + (j : Int)) (by omega) (by omega)] at this
theorem wni {f : Int × Int → Option ((Int × Int) ⊕ Int)} (p : Nat → Bool) (lo hi : Nat) (hh : hi < 2305843009213693952)
  (hf : ∀ i j : Nat, lo ≤ i → i < j → j ≤ hi → f ((i : Int), (j : Int)) = some (.inl (match p ((i + j) / 2) with | true => ((((i + j) / 2 + 1 : Nat) : Int), (j : Int)) | false => ((i : Int), (((i + j) / 2 : Nat) : Int)))))
  (he : ∀ i : Nat, f ((i : Int), (i : Int)) = some (.inr (i : Int)))
  (hp : ∀ h k : Nat, lo ≤ h → h ≤ k → k < hi → p k = true → p h = true) (hle : lo ≤ hi) :
  ∃ s : Nat, iter f ((lo : Int), (hi : Int)) = some (s : Int) ∧ lo ≤ s ∧ s ≤ hi ∧ (lo < s → p (s - 1) = true) ∧ (s < hi → p s = false) := by
 have key : ∀ (d i j : Nat), j - i ≤ d → lo ≤ i → i ≤ j → j ≤ hi → (lo < i → p (i - 1) = true) → (j < hi → p j = false) →
   ∃ s : Nat, iter f ((i : Int), (j : Int)) = some (s : Int) ∧ lo ≤ s ∧ s ≤ hi ∧ (lo < s → p (s - 1) = true) ∧ (s < hi → p s = false) := by
  intro d
  induction d with
  | zero =>
   intro i j hd h1 h2 h3 h4 h5
   have : i = j := by omega
   subst this
   rw [wac, he]
   exact ⟨i, rfl, h1, h3, h4, h5⟩
  | succ d ih =>
   intro i j hd h1 h2 h3 h4 h5
   rcases Nat.eq_or_lt_of_le h2 with e | hlt
   ·subst e
    rw [wac, he]
    exact ⟨i, rfl, h1, h3, h4, h5⟩
   ·rw [wac, hf i j h1 hlt h3]
    cases hq : p ((i + j) / 2) with
    | true => exact ih _ j (by omega) (by omega) (by omega) h3 (fun _ => by rw [Nat.add_sub_cancel]; exact hq) h5
    | false => exact ih i _ (by omega) h1 (by omega) (by omega) h4 (fun _ => hq)
 exact key (hi - lo) lo hi (Nat.le_refl _) (Nat.le_refl _) hle (Nat.le_refl _) (fun h => absurd h (Nat.lt_irrefl _)) (fun h => absurd h (Nat.lt_irrefl _))
section
variable {α : Type}
theorem wce (P : List α) (x : α) (r : List α) (d : α) {i : Nat} (h : i = P.length) : (P ++ x :: r).getD i d = x := by
 rw [h, List.getD_eq_getElem?_getD, List.getElem?_append_right (Nat.le_refl _), Nat.sub_self]; rfl
theorem set_mid (P : List α) (x y : α) (r : List α) {i : Nat} (h : i = P.length) : (P ++ x :: r).set i y = P ++ y :: r := by
 rw [h, List.set_append_right _ _ (Nat.le_refl _), Nat.sub_self]; rfl
end
end Go.Proofs.Ytnagpmhaddfgmaa
