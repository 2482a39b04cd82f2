/-
  One operation; the operations of a region in the order of the text.
-/
import Derived.Test.YtafcpibodfbjnaaB15
namespace Go.Proofs.Ytafcpibodfbjnaa
open Go.RowKit (Below)

section
variable {P : Program} {tt : Nat → TD} {w : World} {lo N : Nat} {μ : Nat → Option Value} {S : Nat → Prop} {X : Nat → Prop} {g : Nat → Option Ob} {a : Act} {E : Env} {w0 : World}

/-- One value of an owned thing is said anew. -/
def again (μ : Nat → Option Value) (o : Nat) (v : Value) (p : Nat) : Option Value := if p = o then some v else μ p

theorem again_ne {o p : Nat} {v mv : Value} (h : p ≠ o) (hp : μ p = some mv) : again μ o v p = some mv := by simp [again, h, hp]
theorem again_self {o : Nat} {v : Value} : again μ o v o = some v := by simp [again]
theorem again_inv {o p : Nat} {v mv : Value} (h : again μ o v p = some mv) : (p = o ∧ mv = v) ∨ (p ≠ o ∧ μ p = some mv) := by
  unfold again at h
  split at h
  · cases h; exact .inl ⟨by assumption, rfl⟩
  · exact .inr ⟨by assumption, h⟩

theorem SS_again {o : Nat} {v' : Value} {w : World} (hroot : ∀ k, rootV v' = some k → (∃ mv, μ o = some mv ∧ rootV mv = some k) ∨ w.heap.size ≤ k) {b : Nat} (hb : b < w.heap.size) (h : SS X μ b) : SS X (again μ o v') b := by
  refine ⟨h.1, fun p mv hp e => ?_⟩
  rcases again_inv hp with ⟨rfl, rfl⟩ | ⟨_, hp⟩
  · rcases hroot b e with ⟨mv, h1, h2⟩ | h1
    · exact h.2 _ mv h1 h2
    · omega
  · exact h.2 p mv hp e

theorem append_shape {e sz n : Nat} {mv : Value} {xs : List Value} (h : w.ownsRow lo e sz mv n xs) : ∃ a c, mv = .slice a n c := by
  rcases h.2 with ⟨rfl, rfl⟩ | ⟨gb, cap, cur, rfl, _⟩
  · exact ⟨_, _, rfl⟩
  · exact ⟨_, _, rfl⟩

theorem aappend_ok (hT : TabOK P tt) {s s' : St} (h : Rel P X lo N w0 s a w μ) {d ty rt : Nat} (hdN : d < N) {av xv : AV} (hq : (aappend tt d ty av xv s).ev = some s') {va x : Value} (ha : RelV P w lo μ (SS X μ) av va) (hx : RelV P w lo μ (SS X μ) xv x) :
    ∃ v' w' μ', (Builtin.append_ #[ty, ty] rt #[va, x]).run P w = .ok v' w' ∧ Rel P X lo N w0 s' (a.put (some d) v') w' μ' := by
  have hd := hT ty
  unfold aappend at hq
  split at hq
  · rename_i e t b he
    rw [he] at hd
    obtain ⟨hu, ⟨i, z, hi, hs, hby, hz, hzz⟩, _⟩ := hd
    have hzc : z.cells.size = t.size := by simpa using isZ_len hzz
    split at hq
    next src hsrc =>
      obtain ⟨ax, c, news, rfl, hnr, hn0, hnews⟩ := srcOf_ok h.mem hsrc hx
      have hnl := hnr.len
      split at hq
      · rename_i o
        split at hq
        next e' t' l hg =>
          split at hq
          next l' hcast =>
            obtain ⟨et, hl'⟩ := Ty.cast_spec hcast
            cases et
            have hl' : l' = l := hl'
            subst hl'
            split at hq
            next hee =>
              obtain ⟨rfl, hb0⟩ := hee
              obtain ⟨hle, hq⟩ := ev_g hq
              simp only [decide_eq_true_eq] at hle
              simp only [Tr.ev_l, Option.some.injEq] at hq
              subst hq
              cases ha with
              | @arr _ _ a0 n0 c0 hμ =>
                obtain ⟨y, hy, hob⟩ := h.mem.ob _ _ hμ
                rw [hg] at hy
                cases hy
                obtain ⟨xs, hown, hrep⟩ := hob
                obtain ⟨v', w', h1, h2, h3, h4, h5, h6, h7, h8, h9⟩ := append_own (rt := rt) hu hi hs hby hz hzc hown (m := src.length) (by rw [hnl]) hn0 hnews hnr.one hle hb0 h.mem.hlo
                have hroot : ∀ k, rootV v' = some k → (∃ mv, μ o = some mv ∧ rootV mv = some k) ∨ w.heap.size ≤ k := fun k hk => (h8 k hk).imp (fun h => ⟨_, hμ, h⟩) id
                have hsame : ∀ k, k < w.heap.size → SS X μ k → SS X (again μ o v') k ∧ w'.heap[k]? = w.heap[k]? := fun k hk hS => ⟨SS_again hroot hk hS, h7 k hk (hS.2 o _ hμ)⟩
                have hlow : ∀ k, k < lo → w'.heap[k]? = w.heap[k]? := fun k hk => h7 k (Nat.lt_of_lt_of_le hk h.mem.hlo) fun e => by have := (h.mem.lt hμ e).1; omega
                have hμ' : ∀ p mv, p ≠ o → μ p = some mv → again μ o v' p = some mv := fun p mv hne hp => again_ne hne hp
                obtain ⟨a', n', c', hv'⟩ := h9
                refine ⟨v', w', again μ o v', h1, ?_⟩
                have hrel : Rel P X lo N w0 { fr := s.fr.map (fun p => (p.1, frz2 o .undef p.2)), ob := (o, .arr e' t (l' ++ src)) :: (s.ob.filter fun p => !(Nat.beq p.1 o)).map fun p => (p.1, frzOb o .undef p.2) } a w' (again μ o v') := by
                  refine ⟨⟨h.mem.hX, Nat.le_trans h.mem.hlo h6, fun p mv hp => ?_, fun p p' mv mv' k hp hp' hk hk' => ?_⟩, fun i => ?_, h.bel.trans ⟨h3, h4, h5, h6, hlow⟩, h.df, h.sz⟩
                  · rcases again_inv hp with ⟨rfl, rfl⟩ | ⟨hne, hp⟩
                    · refine ⟨.arr e' t (l' ++ src), by simp [St.g, look], xs ++ news, ?_, ?_⟩
                      · rw [List.length_append]; exact h2
                      · exact (hrep.step fun k hk hS => hsame k hk hS).append (hnr.step fun k hk hS => hsame k hk hS)
                    · obtain ⟨y, hy, hyo⟩ := h.mem.ob p mv hp
                      refine ⟨frzOb o .undef y, ?_, ?_⟩
                      · simp only [St.g, look, beq_ne (Ne.symm hne), look_map]
                        rw [look_filter o s.ob p hne]
                        simp only [St.g] at hy
                        rw [hy]; rfl
                      · refine (frzOb_rel (d := .undef) h.mem.hlo hμ' (fun _ _ => .undef) (fun _ _ h => h) hyo).step h.mem.hlo (fun _ _ h => h) hsame hlow fun k hk => h7 k (h.mem.lt hp hk).2 fun e => hne (h.mem.dis p o mv _ k hp hμ hk e)
                  · rcases again_inv hp with ⟨rfl, rfl⟩ | ⟨hne, hp1⟩ <;> rcases again_inv hp' with ⟨rfl, rfl⟩ | ⟨hne', hp1'⟩
                    · rfl
                    · rcases hroot k hk with ⟨mv1, e1, e2⟩ | hge
                      · exact h.mem.dis _ _ _ _ k e1 hp1' e2 hk'
                      · have := (h.mem.lt hp1' hk').2; omega
                    · rcases hroot k hk' with ⟨mv1, e1, e2⟩ | hge
                      · exact h.mem.dis _ _ _ _ k hp1 e1 hk e2
                      · have := (h.mem.lt hp1 hk).2; omega
                    · exact h.mem.dis _ _ _ _ k hp1 hp1' hk hk'
                  · simp only [St.slot, look_map]
                    have := frz2_rel (d := .undef) h.mem.hlo hμ' (fun _ _ => .undef) (fun _ _ h => h) (h.fr i)
                    simp only [St.slot] at this
                    cases hl : look s.fr i with
                    | none => exact .undef
                    | some v => rw [hl] at this; exact this.step (fun _ _ h => h) h.mem.hlo hsame hlow
                exact hrel.put hdN (by rw [hv']; exact .arr (by rw [again_self]))
            next => cases hq
          next => cases hq
        next => cases hq
      · split at hq
        next hg =>
          split at hq
          next hb0 =>
            obtain ⟨hle, hq⟩ := ev_g hq
            simp only [decide_eq_true_eq] at hle
            simp only [Tr.ev_l, Option.some.injEq] at hq
            subst hq
            cases ha
            have hμ0 : μ d = none := by
              cases hm : μ d with
              | none => rfl
              | some mv => obtain ⟨y, hy, _⟩ := h.mem.ob d mv hm; rw [hg] at hy; cases hy
            obtain ⟨v', w', h1, h2, h3, h4, h5, h6, h7, h8, h9⟩ := append_own (rt := rt) hu hi hs hby hz hzc (World.ownsRow_nil w lo e t.size) (m := src.length) (by rw [hnl]) hn0 hnews hnr.one (by simpa using hle) hb0 h.mem.hlo
            have hroot : ∀ k, rootV v' = some k → (∃ mv, μ d = some mv ∧ rootV mv = some k) ∨ w.heap.size ≤ k := fun k hk => (h8 k hk).elim (fun h => by simp [rootV] at h) .inr
            have h7' : ∀ k, k < w.heap.size → w'.heap[k]? = w.heap[k]? := fun k hk => h7 k hk (by simp [rootV])
            have hsame : ∀ k, k < w.heap.size → SS X μ k → SS X (again μ d v') k ∧ w'.heap[k]? = w.heap[k]? := fun k hk hS => ⟨SS_again hroot hk hS, h7' k hk⟩
            have hlow : ∀ k, k < lo → w'.heap[k]? = w.heap[k]? := fun k hk => h7' k (Nat.lt_of_lt_of_le hk h.mem.hlo)
            have hμ' : ∀ p mv, μ p = some mv → again μ d v' p = some mv := fun p mv hp => again_ne (fun e => by rw [e, hμ0] at hp; cases hp) hp
            obtain ⟨a', n', c', hv'⟩ := h9
            refine ⟨v', w', again μ d v', h1, ?_⟩
            have hrel : Rel P X lo N w0 { fr := s.fr, ob := (d, .arr e t src) :: s.ob } a w' (again μ d v') := by
              refine ⟨⟨h.mem.hX, Nat.le_trans h.mem.hlo h6, fun p mv hp => ?_, fun p p' mv mv' k hp hp' hk hk' => ?_⟩, fun i => (h.fr i).step hμ' h.mem.hlo hsame hlow, h.bel.trans ⟨h3, h4, h5, h6, hlow⟩, h.df, h.sz⟩
              · rcases again_inv hp with ⟨rfl, rfl⟩ | ⟨hne, hp⟩
                · refine ⟨.arr e t src, by simp [St.g, look], news, ?_, ?_⟩
                  · simpa using h2
                  · exact hnr.step fun k hk hS => hsame k hk hS
                · obtain ⟨y, hy, hyo⟩ := h.mem.ob p mv hp
                  refine ⟨y, ?_, hyo.step h.mem.hlo hμ' hsame hlow fun k hk => h7' k (h.mem.lt hp hk).2⟩
                  simp only [St.g, look, beq_ne (Ne.symm hne)]
                  exact hy
              · rcases again_inv hp with ⟨rfl, rfl⟩ | ⟨hne, hp1⟩ <;> rcases again_inv hp' with ⟨rfl, rfl⟩ | ⟨hne', hp1'⟩
                · rfl
                · rcases hroot k hk with ⟨mv1, e1, e2⟩ | hge
                  · exact h.mem.dis _ _ _ _ k e1 hp1' e2 hk'
                  · have := (h.mem.lt hp1' hk').2; omega
                · rcases hroot k hk' with ⟨mv1, e1, e2⟩ | hge
                  · exact h.mem.dis _ _ _ _ k hp1 e1 hk e2
                  · have := (h.mem.lt hp1 hk).2; omega
                · exact h.mem.dis _ _ _ _ k hp1 hp1' hk hk'
            exact hrel.put hdN (by rw [hv']; exact .arr (by rw [again_self]))
          next => cases hq
        next => cases hq
      · cases hq
    next => cases hq
  · cases hq

/-- An operation, and what is known behind it. -/
theorem aop_ok (hE : EnvOK P E) (hT : TabOK P tt) {fz : Nat → List Nat} {o : Oper} {i : Nat} {s s' : St} (hN : ∀ d, o.dst = some d → d < N) (h : Rel P X lo N w0 s a w μ) (hq : (aop E tt fz o i s).ev = some s')
    {K : Act → World → Prop} {Q : Exit → Act → World → Prop} (hK : ∀ a' w' μ', Rel P X lo N w0 s' a' w' μ' → K a' w') : o.wp P a w K Q := by
  obtain ⟨μ1, h1⟩ := h.freezes ((fz i).flatMap fun k => arrsOf (s.slot k))
  unfold aop at hq
  simp only at hq
  split at hq
  · rename_i ty av vv ho hd
    obtain ⟨w', h2, h3⟩ := astore_ok hT h1 hq (opd_rel h1.fr av) (opd_rel h1.fr vv)
    unfold Oper.wp execOp
    simp only [ho, Sem.run_bind, h2, Result.andThen_ok, Sem.run_pure]
    have : a.put o.dst undef = a := by rw [hd]; rfl
    exact hK _ w' μ1 (by rw [this]; exact h3)
  · rename_i as ts d ho hd
    split at hq
    next x y ty ty' has hts =>
      split at hq
      next hty =>
        subst hty
        have e1 : as = #[x, y] := by rw [← Array.toArray_toList (xs := as), has]
        have e2 : ts = #[ty, ty] := by rw [← Array.toArray_toList (xs := ts), hts]
        obtain ⟨v', w', μ', h2, h3⟩ := aappend_ok (rt := o.type) hT h1 (hN d hd) hq (opd_rel h1.fr x) (opd_rel h1.fr y)
        unfold Oper.wp execOp
        simp only [ho, e1, e2, resolve, invoke, builtin, Sem.run_bind, Sem.run_pure, Result.andThen_ok, List.map_toArray, List.map_cons, List.map_nil, h2]
        exact hK _ w' μ' (by rw [hd]; exact h3)
      next => cases hq
    next => cases hq
  · rename_i d hd _
    rw [Tr.ev_bind] at hq
    cases hqq : (aq E tt (s.freezes ((fz i).flatMap fun k => arrsOf (s.slot k))).g (opd (s.freezes ((fz i).flatMap fun k => arrsOf (s.slot k))).slot) o).ev with
    | none => rw [hqq] at hq; cases hq
    | some q =>
      rw [hqq] at hq
      simp only [Option.bind_some] at hq
      split at hq
      next hc =>
        simp only [Tr.ev_l, Option.some.injEq] at hq
        subst hq
        simp only [Bool.and_eq_true, List.all_eq_true, decide_eq_true_eq] at hc
        have hfree : ∀ p ∈ q.2, (s.freezes ((fz i).flatMap fun k => arrsOf (s.slot k))).g p.1 = none := fun p hp => by
          have := hc.1 p hp
          split at this
          · assumption
          · cases this
        have hμf : ∀ p ∈ q.2, μ1 p.1 = none := fun p hp => by
          cases hm : μ1 p.1 with
          | none => rfl
          | some mv => obtain ⟨y, hy, _⟩ := h1.mem.ob _ mv hm; rw [hfree p hp] at hy; cases hy
        refine aq_ok hE hT h1.mem (opd_rel h1.fr) hqq hμf K Q fun x w' hx => ?_
        obtain ⟨μ', h2⟩ := h1.next (hN d hd) hc.2 hfree hx
        rw [hd]
        exact hK _ w' μ' h2
      next => cases hq
  · cases hq

theorem yielded_ok {s : St} (h : Rel P X lo N w0 s a w μ) {ops : Array Oper} {j dj : Nat} (hj : (ops[j]?).bind (·.dst) = some dj) (hN : dj < N) {b : Bool} (hb : s.slot dj = .dat .bool b) : yielded ops a.tmps j = some b ∧ a.tmps.getD dj undef = .bool b := by
  have hr := h.fr dj
  rw [hb] at hr
  have := hr.bool
  have hlt : dj < a.tmps.size := by rw [h.sz]; exact hN
  have hget : a.tmps[dj]? = some (.bool b) := by
    have e : a.tmps.getD dj undef = a.tmps[dj] := by simp [hlt]
    rw [e] at this
    rw [Array.getElem?_eq_getElem hlt, this]
  exact ⟨by simp [yielded, hj, hget], this⟩

theorem yielded_skip {s : St} (h : Rel P X lo N w0 s a w μ) {ops : Array Oper} {j dj : Nat} (hj : (ops[j]?).bind (·.dst) = some dj) (hb : s.slot dj = .skip) : yielded ops a.tmps j = none := by
  have hr := h.fr dj
  rw [hb] at hr
  generalize hy : a.tmps.getD dj undef = y at hr
  cases hr
  unfold yielded
  rw [hj]
  cases hg : a.tmps[dj]? with
  | none => simp [hg]
  | some v =>
    have : v = undef := by rw [← hy, Array.getD_eq_getD_getElem?, hg]; rfl
    subst this
    simp [hg]
    rfl

/-- The operations of a region in the order of the text. -/
theorem aops_ok (hE : EnvOK P E) (hT : TabOK P tt) {fz : Nat → List Nat} {ops : Array Oper} (hN : ∀ (j : Nat) (o : Oper) d, ops[j]? = some o → o.dst = some d → d < N) {Q : Exit → Act → World → Prop} : ∀ {l : List Oper} {i : Nat} {s s' : St} {a : Act} {w : World} {μ : Nat → Option Value},
    (∀ j, l[j]? = ops[i + j]?) → Rel P X lo N w0 s a w μ → (aops E tt fz (fun j => ops[j]?) l i s).ev = some s' → (∀ a' w' μ', Rel P X lo N w0 s' a' w' μ' → Q .normal a' w') → wpList P ops Q l a w
  | [], i, s, s', a, w, μ, _, h, hq, hQ => by
    simp only [aops, Tr.ev_l, Option.some.injEq] at hq
    subst hq
    exact hQ a w μ h
  | o :: l, i, s, s', a, w, μ, hl, h, hq, hQ => by
    have h0 : ops[i]? = some o := by simpa using (hl 0).symm
    have hl' : ∀ j, l[j]? = ops[i + 1 + j]? := fun j => by have := hl (j + 1); simpa [Nat.add_assoc, Nat.add_comm 1 j] using this
    have hNo := fun d hd => hN i o d h0 hd
    simp only [aops] at hq
    refine wpList_step fun K hK => ?_
    have run : ∀ {s1 : St} {a : Act} {w : World} {μ : Nat → Option Value}, Rel P X lo N w0 s1 a w μ → ((aop E tt fz o i s1).bind (aops E tt fz (fun j => ops[j]?) l (i + 1))).ev = some s' → (∀ a w, wpList P ops Q l a w → K a w) → o.wp P a w K Q := by
      intro s1 a w μ h1 hq1 hK
      rw [Tr.ev_bind] at hq1
      cases hs : (aop E tt fz o i s1).ev with
      | none => rw [hs] at hq1; cases hq1
      | some s2 =>
        rw [hs] at hq1
        exact aop_ok hE hT hNo h1 hs fun a' w' μ' h2 => hK _ _ (aops_ok hE hT hN hl' h2 hq1 hQ)
    cases hg : o.guard with
    | none =>
      rw [hg] at hq
      simp only at hq
      simp only [Region.wanted, hg, if_true]
      exact run h hq hK
    | some gd =>
      obtain ⟨j, want⟩ := gd
      rw [hg] at hq
      simp only at hq
      split at hq
      next dj hdj =>
        have skip : ∀ {s1 : St} {a : Act}, Rel P X lo N w0 s1 a w μ → (match o.dst with
            | some d => aops E tt fz (fun j => ops[j]?) l (i + 1) { s1 with fr := (d, .skip) :: s1.fr }
            | none => aops E tt fz (fun j => ops[j]?) l (i + 1) s1).ev = some s' → K (a.put o.dst undef) w := by
          intro s1 a h1 hq1
          cases hd : o.dst with
          | none => rw [hd] at hq1; exact hK _ _ (aops_ok hE hT hN hl' (by simpa [Act.put] using h1) hq1 hQ)
          | some d => rw [hd] at hq1; exact hK _ _ (aops_ok hE hT hN hl' (h1.put (hNo d hd) .skip) hq1 hQ)
        split at hq
        next b hb =>
          have hdN : dj < N := by
            cases hoj : ops[j]? with
            | none => rw [hoj] at hdj; cases hdj
            | some oj => rw [hoj] at hdj; exact hN j oj dj hoj hdj
          obtain ⟨hy, hv⟩ := yielded_ok h hdj hdN hb
          simp only [Region.wanted, hg, hy]
          have hknow : Rel P X lo N w0 { s with fr := (dj, .dat .bool b) :: s.fr } a w μ := h.know (by rw [hv]; exact rel_bool _)
          cases want <;> cases b
          · simp only [Tr.ev_t, cond_false] at hq
            simp only [beq_self_eq_true, if_true]
            exact run hknow hq hK
          · simp only [Tr.ev_t, cond_true] at hq
            rw [if_neg (by simp)]
            refine skip (s1 := { s with fr := (dj, .dat .bool true) :: s.fr }) hknow ?_
            cases hd : o.dst <;> rw [hd] at hq <;> exact hq
          · simp only [Tr.ev_t, cond_false] at hq
            rw [if_neg (by simp)]
            refine skip (s1 := { s with fr := (dj, .dat .bool false) :: s.fr }) hknow ?_
            cases hd : o.dst <;> rw [hd] at hq <;> exact hq
          · simp only [Tr.ev_t, cond_true] at hq
            simp only [beq_self_eq_true, if_true]
            exact run hknow hq hK
        next hb =>
          simp only [Region.wanted, hg, yielded_skip h hdj hb]
          rw [if_neg (by simp)]
          refine skip h ?_
          cases hd : o.dst <;> rw [hd] at hq <;> exact hq
        next => cases hq
      next => cases hq
end
end Go.Proofs.Ytafcpibodfbjnaa
