/-
  Regions: the evaluator's answer holds, whether the order is the text's or drawn.
-/
import Derived.Test.YtafcpibodfbjnaaB20
namespace Go.Proofs.Ytafcpibodfbjnaa
open Go.RowKit (Below)

section
variable {P : Program} {E : Env} {tt : Nat → TD} {fz : Nat → List Nat} {ops : Array Oper} {p : Nat} {s0 : St} {σ : Nat → St} {D : Nat → Nat} {Q : Nat → QR} {B : Nat → Bool}
  {X : Nat → Prop} {lo N : Nat} {w0 : World}

structure Inv (P : Program) (X : Nat → Prop) (lo N : Nat) (w0 : World) (ops : Array Oper) (p : Nat) (s0 : St) (G : Nat → Option Ob) (D : Nat → Nat) (Q : Nat → QR) (listed : Array Bool) (a : Act) (w : World) : Prop where
  size : listed.size = ops.size
  low : ∀ i, p ≤ i → listed[i]? ≠ some true
  closed : ∀ (i : Nat) (o : Oper), listed[i]? = some true → ops[i]? = some o → ∀ e ∈ edgesOf o, listed[e]? = some true
  bel : Below lo w0 w
  df : a.defers = []
  sz : a.tmps.size = N
  mem : ∃ μ, Mem P X lo G μ w ∧ (∀ t, RelV P w lo μ (SS X μ) (SL p s0 D Q listed t) (a.tmps.getD t undef)) ∧ ∀ i, i < p → listed[i]? ≠ some true → ∀ x ∈ (Q i).2, μ x.1 = none

theorem looks_opd {o : Oper} {t : Nat} (h : Operand.tmp t ∈ o.op.operands) : t ∈ o.looksAt ops := by
  unfold Oper.looksAt
  refine List.mem_append_left _ (List.mem_filterMap.2 ⟨.tmp t, by simpa using h, rfl⟩)
theorem looks_guard {o : Oper} {j dj : Nat} {want : Bool} (h : o.guard = some (j, want)) (hj : (ops[j]?).bind (·.dst) = some dj) : dj ∈ o.looksAt ops := by
  unfold Oper.looksAt
  refine List.mem_append_right _ ?_
  simp only [h, hj]
  simp

theorem Inv.step (hE : EnvOK P E) (hT : TabOK P tt) (hN : ∀ (j : Nat) (o : Oper) d, ops[j]? = some o → o.dst = some d → d < N) (h : Plan E tt fz ops p s0 σ D Q B) {listed : Array Bool} {a : Act} {w : World}
    (hi : Inv P X lo N w0 ops p s0 (σ p).g D Q listed a w) {i : Nat} (hip : i < p) (hr : i ∈ Region.ready .any ops listed) {K : Act → World → Prop} {Qx : Exit → Act → World → Prop}
    (hK : ∀ a' w', Inv P X lo N w0 ops p s0 (σ p).g D Q (listed.setIfInBounds i true) a' w' → K a' w') : wpOp P ops Qx i K a w := by
  obtain ⟨o, ho, hn, he⟩ := (ready_spec hi.size).1 hr
  have hst := h.step i o hip ho
  have hil : i < listed.size := by
    rw [hi.size]
    exact Nat.lt_of_lt_of_le hip h.ok.le
  have hlook : ∀ t, t ∈ o.looksAt ops → SL p s0 D Q listed t = (σ i).slot t := fun t ht => h.sl_looks hi.closed hip ho hn he ht
  obtain ⟨μ, hm, hsl, hfr⟩ := hi.mem
  have hdN := hN i o _ ho hst.dst
  have put : ∀ {x : Value} {w' : World} {μ' : Nat → Option Value}, Mem P X lo (σ p).g μ' w' → (∀ t, RelV P w' lo μ' (SS X μ') (SL p s0 D Q listed t) (a.tmps.getD t undef)) → Below lo w0 w' → RelV P w' lo μ' (SS X μ') (Q i).1 x →
      (∀ j, j < p → j ≠ i → listed[j]? ≠ some true → ∀ y ∈ (Q j).2, μ' y.1 = none) → K (a.put o.dst x) w' := by
    intro x w' μ' k1 k2 k3 k4 k5
    refine hK _ _ ⟨by simp [hi.size], fun j hj => ?_, fun j oj hj hoj e hee => ?_, k3, by simpa [Act.put, hst.dst] using hi.df, by simp [Act.put, hst.dst, hi.sz], μ', k1, fun t => ?_, fun j hj hjl => ?_⟩
    · rw [set_at hil, if_neg (by omega)]
      exact hi.low j hj
    · rw [set_at hil] at hj ⊢
      split
      · rfl
      · split at hj
        next e' => subst e'; rw [ho] at hoj; cases hoj; exact he e hee
        next => exact hi.closed j oj hj hoj e hee
    · rw [h.sl_set hip hil]
      simp only [hst.dst, Act.put]
      by_cases e : D i = t
      · subst e
        have hd' : D i < a.tmps.size := by rw [hi.sz]; exact hdN
        rw [if_pos rfl]
        simpa [hd'] using k4
      · rw [if_neg e]
        have := k2 t
        simpa [Array.getElem?_setIfInBounds_ne e] using this
    · rw [set_at hil] at hjl
      split at hjl
      next => exact absurd rfl hjl
      next e' => exact k5 j hj (fun e => e' e.symm) hjl
  unfold wpOp
  simp only [ho]
  have hyes : B i = true → o.wp P a w K Qx := by
    intro hb
    have hrun := hst.run hb
    have e1 : aq E tt (σ i).g (opd (σ i).slot) o = aq E tt (σ i).g (opd (SL p s0 D Q listed)) o := aq_congr fun x hx => by
      cases x with
      | tmp t => exact (hlook t (looks_opd hx)).symm
      | _ => rfl
    rw [e1] at hrun
    have hrun' := aq_mono (g' := (σ p).g) (fun o x hx => h.mono (k := i) (by omega) (Nat.le_refl _) o x hx) hrun
    refine aq_ok hE hT hm (opd_rel hsl) hrun' (hfr i hip hn) K Qx fun x w' hx => ?_
    obtain ⟨μ', h1, h2, h3, h4, h5⟩ := hx
    have hmem := h4 (σ p).g (fun y hy => h.made hip (Nat.le_refl _) hy) fun _ _ _ => rfl
    have hw := Mem.grow (X := X) h3 (μ := μ) (μ' := μ') fun o mv ho => (h2 o mv ho).imp id fun h => h.2
    refine put hmem (fun t => (hsl t).step h1 hm.hlo hw fun b hb => h3.block b (Nat.lt_of_lt_of_le hb hm.hlo)) (hi.bel.trans (h3.mono hm.hlo)) h5 fun j hj hne hjl y hy => ?_
    cases hmy : μ' y.1 with
    | none => rfl
    | some mv =>
      rcases h2 _ _ hmy with h6 | ⟨⟨z, hz, e⟩, _⟩
      · rw [hfr j hj hjl y hy] at h6; cases h6
      · exact absurd e (h.dis hip hj (Ne.symm hne) hz hy)
  have hno : B i = false → K (a.put o.dst undef) w := fun hb =>
    put hm hsl hi.bel (by rw [hst.skip hb]; exact .skip) fun j hj _ hjl y hy => hfr j hj hjl y hy
  have hw := hst.want
  unfold Want at hw
  unfold Region.wanted
  cases hg : o.guard with
  | none =>
    rw [hg] at hw
    simp only [if_true]
    exact .inl (hyes hw)
  | some gd =>
    obtain ⟨j, want⟩ := gd
    rw [hg] at hw
    obtain ⟨dj, hdj, hw⟩ := hw
    rcases hw with ⟨v, hv, hb⟩ | ⟨hv, hb⟩
    case inr =>
      have hrel := hsl dj
      rw [hlook dj (looks_guard hg hdj), hv] at hrel
      generalize hyv : a.tmps.getD dj undef = y at hrel
      cases hrel
      have hy : yielded ops a.tmps j = none := by
        unfold yielded
        rw [hdj]
        cases hgt : a.tmps[dj]? with
        | none => simp [hgt]
        | some v =>
          have : v = undef := by rw [← hyv, Array.getD_eq_getD_getElem?, hgt]; rfl
          subst this
          simp [hgt]
          rfl
      simp only [hy]
      rw [if_neg (by simp)]
      exact hno hb
    have hrel := hsl dj
    rw [hlook dj (looks_guard hg hdj), hv] at hrel
    have hvv := hrel.bool
    have hdjN : dj < a.tmps.size := by
      rw [hi.sz]
      cases hoj : ops[j]? with
      | none => rw [hoj] at hdj; cases hdj
      | some oj => rw [hoj] at hdj; exact hN j oj dj hoj hdj
    have hy : yielded ops a.tmps j = some v := by
      have hget : a.tmps[dj]? = some (.bool v) := by
        have e : a.tmps.getD dj undef = a.tmps[dj] := by simp [hdjN]
        rw [e] at hvv
        rw [Array.getElem?_eq_getElem hdjN, hvv]
      simp [yielded, hdj, hget]
    simp only [hy]
    cases hbi : B i with
    | true =>
      rw [hbi] at hb
      have : v = want := by simpa using hb.symm
      rw [if_pos (by rw [this]; simp)]
      exact .inl (hyes hbi)
    | false =>
      rw [hbi] at hb
      have : v ≠ want := by simpa using hb.symm
      rw [if_neg (by simpa using this)]
      exact hno hbi

/-- From p on the order is forced. -/
theorem chain_any (hok : DrawOK fz ops p) {Qx : Exit → Act → World → Prop} : ∀ (fuel m : Nat) {listed : Array Bool} {a : Act} {w : World}, p ≤ m → ops.size - m ≤ fuel → listed.size = ops.size → (∀ i, i < ops.size → listed[i]? = some (decide (i < m))) →
    wpList P ops Qx (ops.toList.drop m) a w → wpAny P .any ops Qx fuel listed a w := by
  intro fuel
  have nil : ∀ {m : Nat} {listed : Array Bool} {a : Act} {w : World}, ops.size ≤ m → listed.size = ops.size → (∀ i, i < ops.size → listed[i]? = some (decide (i < m))) → wpList P ops Qx (ops.toList.drop m) a w → Region.ready .any ops listed = [] ∧ Qx .normal a w := by
    intro m listed a w hm hs hl h
    refine ⟨List.eq_nil_iff_forall_not_mem.2 fun i hi => ?_, ?_⟩
    · obtain ⟨o, ho, hn, _⟩ := (ready_spec hs).1 hi
      have hlt : i < ops.size := by
        rcases Nat.lt_or_ge i ops.size with h | h
        · exact h
        · rw [Array.getElem?_eq_none h] at ho; cases ho
      exact hn (by rw [hl i hlt]; simp; omega)
    · rw [List.drop_eq_nil_of_le (by simpa using hm)] at h
      exact h
  induction fuel with
  | zero => intro m listed a w _ hf hs hl h; exact nil (by omega) hs hl h
  | succ fuel ih =>
    intro m listed a w hp hf hs hl h
    rcases Nat.lt_or_ge m ops.size with hm | hm
    · have hready : ∀ i, i ∈ Region.ready .any ops listed → i = m := fun i hi => by
        obtain ⟨o, ho, hn, he⟩ := (ready_spec hs).1 hi
        have hlt : i < ops.size := by
          rcases Nat.lt_or_ge i ops.size with h | h
          · exact h
          · rw [Array.getElem?_eq_none h] at ho; cases ho
        rw [hl i hlt] at hn
        have him : m ≤ i := by simpa using hn
        by_cases e : i = m
        · exact e
        · have := he _ (hok.chain i o ho (by omega))
          rw [hl (i - 1) (by omega)] at this
          simp at this
          omega
      have ho : ops[m]? = some ops[m] := Array.getElem?_eq_getElem hm
      have hmr : m ∈ Region.ready .any ops listed := (ready_spec hs).2 ⟨_, ho, by rw [hl m hm]; simp, fun e he => by
        have := hok.back m _ ho e he
        rw [hl e (by omega)]; simpa using this⟩
      refine ⟨fun e => (by rw [e] at hmr; cases hmr), fun i hi => ?_⟩
      rw [hready i hi]
      have hd : ops.toList.drop m = ops[m] :: ops.toList.drop (m + 1) := by
        rw [← Array.getElem_toList hm]
        exact List.drop_eq_getElem_cons (by simpa using hm)
      rw [hd] at h
      have hnext : ∀ a w, wpList P ops Qx (ops.toList.drop (m + 1)) a w → wpAny P .any ops Qx fuel (listed.setIfInBounds m true) a w := fun a w h => ih (m + 1) (by omega) (by omega) (by simp [hs]) (fun i hi => by
        rw [set_at (by omega)]
        split
        next e => subst e; simp
        next e => rw [hl i hi]; simp; omega) h
      refine wpOp_mono hnext ?_
      unfold wpOp
      simp only [ho]
      exact h
    · obtain ⟨h1, h2⟩ := nil hm hs hl h
      exact ⟨fun _ => h2, fun i hi => by rw [h1] at hi; cases hi⟩

theorem filter_lt {α : Type} {f g : α → Bool} : ∀ {l : List α} {x : α}, (∀ y ∈ l, g y = true → f y = true) → x ∈ l → f x = true → g x = false → (l.filter g).length < (l.filter f).length
  | [], _, _, h, _, _ => by cases h
  | y :: l, x, hs, hx, h1, h2 => by
    have hle : ∀ {l : List α}, (∀ y ∈ l, g y = true → f y = true) → (l.filter g).length ≤ (l.filter f).length := by
      intro l
      induction l with
      | nil => intro _; exact Nat.le_refl _
      | cons z l ih =>
        intro hs
        have := ih fun y hy => hs y (List.mem_cons_of_mem _ hy)
        simp only [List.filter_cons]
        cases hg : g z with
        | true => rw [hs z (List.mem_cons_self ..) hg]; simpa using this
        | false =>
          simp only [Bool.false_eq_true, if_false]
          split
          · simp only [List.length_cons]; omega
          · omega
    have hs' : ∀ y ∈ l, g y = true → f y = true := fun y hy => hs y (List.mem_cons_of_mem _ hy)
    simp only [List.filter_cons]
    rcases List.mem_cons.1 hx with rfl | hx
    · rw [h1, h2]
      have := hle hs'
      simp
      omega
    · have := filter_lt hs' hx h1 h2
      cases hg : g y with
      | true => rw [hs y (List.mem_cons_self ..) hg]; simpa using this
      | false =>
        simp only [Bool.false_eq_true, if_false]
        split
        · simp only [List.length_cons]; omega
        · omega

/-- How many of the first p have not come. -/
def left (p : Nat) (listed : Array Bool) : Nat := ((List.range p).filter fun i => listed[i]? != some true).length

theorem Inv.any (hE : EnvOK P E) (hT : TabOK P tt) (hN : ∀ (j : Nat) (o : Oper) d, ops[j]? = some o → o.dst = some d → d < N) (h : Plan E tt fz ops p s0 σ D Q B) {Qx : Exit → Act → World → Prop}
    (hend : ∀ a w μ, Rel P X lo N w0 (σ p) a w μ → wpList P ops Qx (ops.toList.drop p) a w) : ∀ (fuel : Nat) {listed : Array Bool} {a : Act} {w : World}, Inv P X lo N w0 ops p s0 (σ p).g D Q listed a w → left p listed + (ops.size - p) ≤ fuel →
    wpAny P .any ops Qx fuel listed a w := by
  intro fuel
  have full : ∀ (fuel : Nat) {listed : Array Bool} {a : Act} {w : World}, Inv P X lo N w0 ops p s0 (σ p).g D Q listed a w → ops.size - p ≤ fuel → (∀ i, i < p → listed[i]? = some true) → wpAny P .any ops Qx fuel listed a w := by
    intro fuel listed a w hi hf hall
    obtain ⟨μ, hm, hsl, _⟩ := hi.mem
    refine chain_any h.ok fuel p (Nat.le_refl _) hf hi.size (fun i hlt => ?_) (hend a w μ ⟨hm, fun t => ?_, hi.bel, hi.df, hi.sz⟩)
    · by_cases e : i < p
      · rw [hall i e]; simp [e]
      · have h1 := hi.low i (by omega)
        have h2 : i < listed.size := by rw [hi.size]; exact hlt
        rw [Array.getElem?_eq_getElem h2] at h1 ⊢
        simp only [Option.some.injEq, ne_eq, Bool.not_eq_true] at h1
        simp [h1, e]
    · have := hsl t
      have e : SL p s0 D Q listed t = (σ p).slot t := by
        obtain ⟨k1, k2⟩ := h.slot p (Nat.le_refl _)
        by_cases hex : ∃ j, j < p ∧ D j = t
        · obtain ⟨j, hj, rfl⟩ := hex
          rw [h.sl_in hj (hall j hj), k1 j hj]
        · rw [k2 t fun i hi e => hex ⟨i, hi, e⟩]
          exact sl_out fun j hj _ e => hex ⟨j, hj, e⟩
      rw [← e]
      exact this
  have split : ∀ listed : Array Bool, (∀ i, i < p → listed[i]? = some true) ∨ ∃ i, i < p ∧ listed[i]? ≠ some true ∧ ∀ j, j < i → listed[j]? = some true := by
    intro listed
    have : ∀ m, m ≤ p → (∀ i, i < m → listed[i]? = some true) ∨ ∃ i, i < p ∧ listed[i]? ≠ some true ∧ ∀ j, j < i → listed[j]? = some true := by
      intro m
      induction m with
      | zero => exact fun _ => .inl fun i hi => absurd hi (Nat.not_lt_zero _)
      | succ m ih =>
        intro hm
        rcases ih (by omega) with h1 | h1
        · by_cases e : listed[m]? = some true
          · refine .inl fun i hi => ?_
            by_cases e' : i = m
            · rw [e']; exact e
            · exact h1 i (by omega)
          · exact .inr ⟨m, by omega, e, h1⟩
        · exact .inr h1
    exact this p (Nat.le_refl _)
  induction fuel with
  | zero =>
    intro listed a w hi hf
    rcases split listed with hall | ⟨i, h1, h2, _⟩
    · exact full 0 hi (by omega) hall
    · have : i ∈ (List.range p).filter fun i => listed[i]? != some true := List.mem_filter.2 ⟨List.mem_range.2 h1, by simpa using h2⟩
      have := List.length_pos_of_mem this
      unfold left at hf
      omega
  | succ fuel ih =>
    intro listed a w hi hf
    rcases split listed with hall | ⟨i, h1, h2, h3⟩
    · exact full (fuel + 1) hi (by omega) hall
    · have hnone : ¬ Region.ready .any ops listed = [] := fun e => by
        obtain ⟨o, ho⟩ := h.oper h1
        have : i ∈ Region.ready .any ops listed := (ready_spec hi.size).2 ⟨o, ho, h2, fun e he => h3 e (h.ok.back i o ho e he)⟩
        rw [e] at this; cases this
      refine ⟨fun e => absurd e hnone, fun j hj => ?_⟩
      obtain ⟨o, ho, hn, he⟩ := (ready_spec hi.size).1 hj
      have hjs : j < ops.size := by
        rcases Nat.lt_or_ge j ops.size with h | h
        · exact h
        · rw [Array.getElem?_eq_none h] at ho; cases ho
      have hjp : j < p := by
        rcases Nat.lt_or_ge j p with h | h
        · exact h
        · exfalso
          by_cases e : j = p
          · subst e
            have key : ∀ m, m ≤ j → ∀ i, j - m ≤ i → i < j → listed[i]? = some true := by
              intro m
              induction m with
              | zero => intro _ i h1 h2; omega
              | succ m ihm =>
                intro hm i h1' h2'
                by_cases e : j - m ≤ i
                · exact ihm (by omega) i e h2'
                · obtain ⟨k, ok, k1, k2, k3, k4⟩ := ‹Plan E tt fz ops j s0 σ D Q B›.ok.sink hjs i h2'
                  by_cases ek : k = j
                  · subst ek; rw [ho] at k3; cases k3; exact he i k4
                  · exact hi.closed k ok (ihm (by omega) k (by omega) (by omega)) k3 i k4
            exact h2 (key j (Nat.le_refl _) i (by omega) h1)
          · have := he _ (‹Plan E tt fz ops p s0 σ D Q B›.ok.chain j o ho (by omega))
            exact hi.low (j - 1) (by omega) this
      refine hi.step hE hT hN h hjp hj fun a' w' hi' => ih hi' ?_
      have hlt : left p (listed.setIfInBounds j true) < left p listed := by
        unfold left
        have hjl : j < listed.size := by rw [hi.size]; exact hjs
        refine filter_lt (x := j) (fun y _ hy => ?_) (List.mem_range.2 hjp) (by simpa using hn) (by rw [set_at hjl]; simp)
        rw [set_at hjl] at hy
        split at hy
        · simp at hy
        · exact hy
      omega

/-- A region. 'draw': the order is drawn. -/
theorem region_ok (hm : P.follows .mixedOrders = true) (hE : EnvOK P E) (hT : TabOK P tt) (hN : ∀ (j : Nat) (o : Oper) d, ops[j]? = some o → o.dst = some d → d < N) {id : Nat} {draw : Bool} (hd : draw = true → ∃ p, drawOK fz ops p = true)
    {s s' : St} {a : Act} {w : World} {μ : Nat → Option Value} (h : Rel P X lo N w0 s a w μ) (hq : (aops E tt fz (fun j => ops[j]?) ops.toList 0 s).ev = some s') {Qx : Exit → Act → World → Prop} (hQ : ∀ a' w' μ', Rel P X lo N w0 s' a' w' μ' → Qx .normal a' w') :
    (Code.region id ops draw).wp P Qx a w := by
  cases draw with
  | false => exact wp_region_list (aops_ok hE hT hN (fun j => by simp) h hq hQ)
  | true =>
    obtain ⟨p, hp⟩ := hd rfl
    have hok := drawOK_spec hp
    obtain ⟨σ, D, Q, B, h1, h2, h3⟩ := aops_trace p (fun k o hk ho => by
      have := hok.quiet k o hk (by simpa using ho)
      simpa using this) (by simpa using hok.le) hq
    have hplan : Plan E tt fz ops p s σ D Q B := ⟨hok, h1, fun k o hk ho => h2 k o hk (by simpa using ho)⟩
    refine wp_region_any hm (Inv.any hE hT hN hplan (fun a w μ hr => aops_ok (i := p) hE hT hN (fun j => by simp) hr (by rw [Nat.zero_add] at h3; exact h3) hQ) ops.size (listed := Array.replicate ops.size false) ?_ ?_)
    · have hrep : ∀ i : Nat, (Array.replicate ops.size false)[i]? ≠ some true := fun i e => by
        rw [Array.getElem?_replicate] at e
        split at e <;> simp at e
      refine ⟨by simp, fun i _ => hrep i, fun i o hi => absurd hi (hrep i), h.bel.drew, h.df, h.sz, μ, ?_, fun t => ?_, fun i hi _ x hx => ?_⟩
      · have hm' : Mem P X lo (σ p).g μ w := h.mem.other fun o mv ho => by
          obtain ⟨x, hx, _⟩ := h.mem.ob o mv ho
          rw [hx]
          exact hplan.mono (Nat.zero_le _) (Nat.le_refl _) o x (by rw [h1]; exact hx)
        exact ⟨hm'.hX, hm'.hlo, fun o mv ho => by
          obtain ⟨x, hx, hob⟩ := hm'.ob o mv ho
          exact ⟨x, hx, hob.step hm'.hlo (fun _ _ h => h) (fun _ _ h => ⟨h, rfl⟩) (fun _ _ => rfl) fun _ _ => rfl⟩, hm'.dis⟩
      · rw [sl_out fun i _ hi => absurd hi (hrep i)]
        exact (h.fr t).step (fun _ _ h => h) h.mem.hlo (fun _ _ h => ⟨h, rfl⟩) fun _ _ => rfl
      · cases hmx : μ x.1 with
        | none => rfl
        | some mv =>
          obtain ⟨y, hy, _⟩ := h.mem.ob _ _ hmx
          have := hplan.fresh hi (Nat.zero_le i) hx
          rw [h1, hy] at this
          cases this
    · have : left p (Array.replicate ops.size false) ≤ p := by
        unfold left
        exact Nat.le_trans (List.length_filter_le _ _) (by simp)
      have := hok.le
      omega
end
end Go.Proofs.Ytafcpibodfbjnaa
