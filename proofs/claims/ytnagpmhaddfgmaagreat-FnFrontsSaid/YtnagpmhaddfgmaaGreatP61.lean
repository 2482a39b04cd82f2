/-
 Plain laws: a stable order by any comparison, lists merged; rounds that halve a range.
-/
import Derived.Test.YtnagpmhaddfgmaaGreatPM
namespace Go.Proofs.YtnagpmhaddfgmaaGreat
section
variable {α : Type} {le : α → α → Bool}
def waq (le : α → α → Bool) (x : α) : List α → List α
 | [] => [x]
 | a :: l => match le a x with
  | true => a :: waq le x l
  | false => x :: a :: l
def mrg (le : α → α → Bool) (L R : List α) : List α := R.foldl (fun acc x => waq le x acc) L
def wal (le : α → α → Bool) (l : List α) : List α := mrg le [] l
structure TO (le : α → α → Bool) : Prop where
 tot : ∀ x y, le x y = false → le y x = true
 tr : ∀ x y z, le x y = true → le y z = true → le x z = true
abbrev Srt (le : α → α → Bool) (l : List α) : Prop := l.Pairwise fun a b => le a b = true
theorem wgk (L : List α) : mrg le L [] = L := rfl
theorem wae (L : List α) (x : α) (R : List α) : mrg le L (x :: R) = mrg le (waq le x L) R := rfl
theorem weg (L R R' : List α) : mrg le L (R ++ R') = mrg le (mrg le L R) R' := by simp [mrg]
theorem weh (x : α) : ∀ l : List α, (waq le x l).Perm (x :: l)
 | [] => .refl _
 | a :: l => by
  simp only [waq]
  split
  ·exact ((weh x l).cons a).trans (.swap x a l)
  ·exact .refl _
theorem wcp : ∀ (R L : List α), (mrg le L R).Perm (L ++ R)
 | [], L => by simp [mrg]
 | x :: R, L => by
  rw [wae]
  refine (wcp R _).trans (((weh x L).append_right R).trans ?_)
  rw [List.cons_append]
  exact List.perm_middle.symm
theorem wami (L R : List α) : (mrg le L R).length = L.length + R.length := by rw [(wcp R L).length_eq, List.length_append]
theorem wei {x : α} : ∀ {A : List α} (B : List α), (∀ a ∈ A, le a x = true) → waq le x (A ++ B) = A ++ waq le x B
 | [], _, _ => rfl
 | a :: A, B, h => by
  simp only [List.cons_append, waq, h a List.mem_cons_self]
  rw [wei B fun y hy => h y (List.mem_cons_of_mem _ hy)]
theorem wff {x : α} : ∀ (A : List α) {B : List α}, (∀ b ∈ B, le b x = false) → waq le x (A ++ B) = waq le x A ++ B
 | [], [], _ => rfl
 | [], b :: B, h => by simp [waq, h b List.mem_cons_self]
 | a :: A, B, h => by
  simp only [List.cons_append, waq]
  split
  ·rw [wff A h]; rfl
  ·rfl
theorem wbm : ∀ (R : List α) {A : List α} (B : List α), (∀ a ∈ A, ∀ x ∈ R, le a x = true) → mrg le (A ++ B) R = A ++ mrg le B R
 | [], _, _, _ => rfl
 | x :: R, A, B, h => by
  rw [wae, wei B fun a ha => h a ha x List.mem_cons_self, wbm R _ fun a ha y hy => h a ha y (List.mem_cons_of_mem _ hy), wae]
theorem wej : ∀ (R : List α) (A : List α) {B : List α}, (∀ x ∈ R, ∀ b ∈ B, le b x = false) → mrg le (A ++ B) R = mrg le A R ++ B
 | [], _, _, _ => rfl
 | x :: R, A, B, h => by
  rw [wae, wff A fun b hb => h x List.mem_cons_self b hb, wej R _ fun y hy b hb => h y (List.mem_cons_of_mem _ hy) b hb, wae]
theorem wio {L1 L2 R1 R2 : List α} (h1 : ∀ x ∈ R1, ∀ y ∈ L2, le y x = false) (h2 : ∀ x ∈ L1, ∀ y ∈ R2, le x y = true) (h3 : ∀ x ∈ R1, ∀ y ∈ R2, le x y = true) :
  mrg le (L1 ++ L2) (R1 ++ R2) = mrg le L1 R1 ++ mrg le L2 R2 := by
 rw [weg, wej R1 L1 h1, wbm R2 L2]
 intro a ha x hx
 rcases List.mem_append.1 ((wcp R1 L1).mem_iff.1 ha) with ha | ha
 ·exact h2 a ha x hx
 ·exact h3 a ha x hx
theorem waj : ∀ {R : List α}, Srt le R → mrg le [] R = R
 | [], _ => rfl
 | x :: R, h => by
  have h := List.pairwise_cons.1 h
  rw [wae]
  show mrg le ([x] ++ []) R = x :: R
  rw [wbm R [] (fun a ha y hy => by rw [List.mem_singleton.1 ha]; exact h.1 y hy), waj h.2]
  rfl
theorem wcq (ho : TO le) {x : α} : ∀ {l : List α}, Srt le l → Srt le (waq le x l)
 | [], _ => by simp [waq]
 | a :: l, h => by
  have h' := List.pairwise_cons.1 h
  simp only [waq]
  split
  next hx =>
   refine List.pairwise_cons.2 ⟨fun y hy => ?_, wcq ho h'.2⟩
   rcases List.mem_cons.1 ((weh x l).mem_iff.1 hy) with e | hy
   ·rw [e]; exact hx
   ·exact h'.1 y hy
  next hx =>
   refine List.pairwise_cons.2 ⟨fun y hy => ?_, h⟩
   rcases List.mem_cons.1 hy with rfl | hy
   ·exact ho.tot _ _ hx
   ·exact ho.tr _ _ _ (ho.tot _ _ hx) (h'.1 y hy)
theorem wsl (ho : TO le) : ∀ (R : List α) {L : List α}, Srt le L → Srt le (mrg le L R)
 | [], _, h => h
 | x :: R, _, h => wsl ho R (wcq ho h)
theorem wau (ho : TO le) (l : List α) : Srt le (wal le l) := wsl ho l List.Pairwise.nil
theorem wek (l : List α) : (wal le l).Perm l := by simpa [wal] using wcp (le := le) l []
theorem wip (ho : TO le) {z b : α} (h : le b z = false) : ∀ M : List α, waq le b (waq le z M) = waq le z (waq le b M)
 | [] => by simp [waq, h, ho.tot _ _ h]
 | a :: M => by
  have hzb := ho.tot _ _ h
  simp only [waq]
  cases haz : le a z with
  | true =>
   have hab := ho.tr _ _ _ haz hzb
   simp only [waq, hab, haz]
   rw [wip ho h M]
  | false =>
   cases hab : le a b with
   | true => simp only [waq, hzb, hab, haz]
   | false => simp only [waq, hzb, hab, h]
theorem wsm (ho : TO le) {z : α} : ∀ (B M : List α), (∀ b ∈ B, le b z = false) → mrg le (waq le z M) B = waq le z (mrg le M B)
 | [], _, _ => rfl
 | b :: B, M, h => by
  rw [wae, wip ho (h b List.mem_cons_self), wsm ho B _ fun x hx => h x (List.mem_cons_of_mem _ hx), wae]
theorem wfg (ho : TO le) (z : α) : ∀ {l : List α}, Srt le l → ∃ A B, l = A ++ B ∧ waq le z l = A ++ z :: B ∧ ∀ b ∈ B, le b z = false
 | [], _ => ⟨[], [], rfl, rfl, fun _ h => by cases h⟩
 | a :: l, h => by
  have h' := List.pairwise_cons.1 h
  cases haz : le a z with
  | true =>
   obtain ⟨A, B, e1, e2, e3⟩ := wfg ho z h'.2
   exact ⟨a :: A, B, by rw [e1]; rfl, by simp only [waq, haz, e2, List.cons_append], e3⟩
  | false =>
   refine ⟨[], a :: l, rfl, by simp only [waq, haz, List.nil_append], fun b hb => ?_⟩
   rcases List.mem_cons.1 hb with rfl | hb
   ·exact haz
   ·cases hbz : le b z with
    | false => rfl
    | true =>
     have := ho.tr _ _ _ (h'.1 b hb) hbz
     rw [haz] at this
     cases this
theorem wyn (ho : TO le) (L : List α) (l : List α) : mrg le L (wal le l) = mrg le L l := by
 have key : ∀ (l acc : List α), Srt le acc → mrg le L (mrg le acc l) = mrg le (mrg le L acc) l := by
  intro l
  induction l with
  | nil => intro acc _; rfl
  | cons z l ih =>
   intro acc h
   rw [wae, ih _ (wcq ho h), wae]
   congr 1
   obtain ⟨A, B, e1, e2, e3⟩ := wfg ho z h
   rw [e2, e1, weg, wae, wsm ho B _ e3, weg]
 have := key l [] List.Pairwise.nil
 rw [wgk] at this
 exact this
theorem wnx (ho : TO le) (l l' : List α) : wal le (l ++ l') = mrg le (wal le l) (wal le l') := by
 rw [wyn ho]
 exact weg [] l l'
theorem wu (l : List α) : (wal le l).length = l.length := (wek l).length_eq
theorem wsn (l : List α) (x : α) : wal le (l ++ [x]) = waq le x (wal le l) := weg [] l [x]
end
theorem midE (i j : Nat) (h : i + j < 4611686018427387904) : IntKind.wrap .i64 (Int.fdiv (IntKind.wrap .u64 (IntKind.wrap .i64 ((i : Int) + (j : Int)))) (2 ^ (min (Int.toNat (1 : Int)) (IntKind.bits .u64)))) = (((i + j) / 2 : Nat) : Int) := by
 have e1 : IntKind.wrap .i64 ((i : Int) + (j : Int)) = ((i + j : Nat) : Int) := by rw [wrap64 (by omega) (by omega)]; omega
 have e2 : IntKind.wrap .u64 ((i + j : Nat) : Int) = ((i + j : Nat) : Int) := by
  unfold IntKind.wrap
  simp only [IntKind.bits, IntKind.signed]
  simp
  omega
 have e3 : (2 : Int) ^ (min (Int.toNat (1 : Int)) (IntKind.bits .u64)) = 2 := rfl
 rw [e1, e2, e3, Int.fdiv_eq_ediv_of_nonneg _ (by omega), wrap64 (by omega) (by omega)]
 omega
theorem wamj (i j : Nat) (h : i + j < 4611686018427387904) : IntKind.wrap .i64 (Int.fdiv (IntKind.wrap .u64 ((i : Int) + (j : Int))) (2 ^ (min (Int.toNat (1 : Int)) (IntKind.bits .u64)))) = (((i + j) / 2 : Nat) : Int) := by
 have := midE i j h
 rwa [wrap64 (n := (i : Int) + (j : Int)) (by omega) (by omega)] at this
theorem wel {f : Int × Int → Option ((Int × Int) ⊕ Int)} (p : Nat → Bool) (lo hi : Nat) (hh : hi < 2305843009213693952)
  (hf : ∀ i j : Nat, lo ≤ i → i < j → j ≤ hi → f ((i : Int), (j : Int)) = some (.inl (match p ((i + j) / 2) with | true => ((((i + j) / 2 + 1 : Nat) : Int), (j : Int)) | false => ((i : Int), (((i + j) / 2 : Nat) : Int)))))
  (he : ∀ i : Nat, f ((i : Int), (i : Int)) = some (.inr (i : Int)))
  (hp : ∀ h k : Nat, lo ≤ h → h ≤ k → k < hi → p k = true → p h = true) (hle : lo ≤ hi) :
  ∃ s : Nat, iter f ((lo : Int), (hi : Int)) = some (s : Int) ∧ lo ≤ s ∧ s ≤ hi ∧ (lo < s → p (s - 1) = true) ∧ (s < hi → p s = false) := by
 have key : ∀ (d i j : Nat), j - i ≤ d → lo ≤ i → i ≤ j → j ≤ hi → (lo < i → p (i - 1) = true) → (j < hi → p j = false) →
   ∃ s : Nat, iter f ((i : Int), (j : Int)) = some (s : Int) ∧ lo ≤ s ∧ s ≤ hi ∧ (lo < s → p (s - 1) = true) ∧ (s < hi → p s = false) := by
  intro d
  induction d with
  | zero =>
   intro i j hd h1 h2 h3 h4 h5
   have : i = j := by omega
   subst this
   rw [iter_eq, he]
   exact ⟨i, rfl, h1, h3, h4, h5⟩
  | succ d ih =>
   intro i j hd h1 h2 h3 h4 h5
   rcases Nat.eq_or_lt_of_le h2 with e | hlt
   ·subst e
    rw [iter_eq, he]
    exact ⟨i, rfl, h1, h3, h4, h5⟩
   ·rw [iter_eq, hf i j h1 hlt h3]
    cases hq : p ((i + j) / 2) with
    | true => exact ih _ j (by omega) (by omega) (by omega) h3 (fun _ => by rw [Nat.add_sub_cancel]; exact hq) h5
    | false => exact ih i _ (by omega) h1 (by omega) (by omega) h4 (fun _ => hq)
 exact key (hi - lo) lo hi (Nat.le_refl _) (Nat.le_refl _) hle (Nat.le_refl _) (fun h => absurd h (Nat.lt_irrefl _)) (fun h => absurd h (Nat.lt_irrefl _))
section
variable {α : Type}
theorem waf (P : List α) (x : α) (r : List α) (d : α) {i : Nat} (h : i = P.length) : (P ++ x :: r).getD i d = x := by
 rw [h, List.getD_eq_getElem?_getD, List.getElem?_append_right (Nat.le_refl _), Nat.sub_self]; rfl
theorem set_mid (P : List α) (x y : α) (r : List α) {i : Nat} (h : i = P.length) : (P ++ x :: r).set i y = P ++ y :: r := by
 rw [h, List.set_append_right _ _ (Nat.le_refl _), Nat.sub_self]; rfl
end
end Go.Proofs.YtnagpmhaddfgmaaGreat
