/-
  One operation; the operations of a region in the order of the text.
-/
import Derived.Test.YtakbhfnndcnopaaDoorB15
namespace Go.Proofs.YtakbhfnndcnopaaDoor
open Go.RowKit (Below)

section
variable {P : Program} {tt : Nat → TD} {w : World} {lo : Nat → Prop} {N : Par} {μ : Nat → Option MV} {S : Nat → Prop} {X : Nat → Prop} {g : Nat → Option Ob} {a : Act} {E : Env} {w0 : World}

/-- One value of an owned thing is said anew. -/
def again (μ : Nat → Option MV) (o : Nat) (v : MV) (p : Nat) : Option MV := if p = o then some v else μ p

theorem again_ne {o p : Nat} {v mv : MV} (h : p ≠ o) (hp : μ p = some mv) : again μ o v p = some mv := by simp [again, h, hp]
theorem again_self {o : Nat} {v : MV} : again μ o v o = some v := by simp [again]
theorem again_inv {o p : Nat} {v mv : MV} (h : again μ o v p = some mv) : (p = o ∧ mv = v) ∨ (p ≠ o ∧ μ p = some mv) := by
  unfold again at h
  split at h
  · cases h; exact .inl ⟨by assumption, rfl⟩
  · exact .inr ⟨by assumption, h⟩

/-- One owned array takes another header. -/
structure NxA (P : Program) (X : Nat → Prop) (lo : Nat → Prop) (μ : Nat → Option MV) (w : World) (o : Nat) (x : Ob) (w' : World) (mv : MV) : Prop where
  kept : Kept lo w w'
  data : ∀ b, b < w.heap.size → SS X μ b → SS X (again μ o mv) b ∧ w'.heap[b]? = w.heap[b]?
  ob : ObOK P w' lo (again μ o mv) (SS X (again μ o mv)) x mv
  roots : ∀ k, k ∈ mv.rs → (∃ mv0, μ o = some mv0 ∧ k ∈ mv0.rs) ∨ w.heap.size ≤ k
  same : ∀ k, k < w.heap.size → (∀ mv0, μ o = some mv0 → k ∉ mv0.rs) → w'.heap[k]? = w.heap[k]?

theorem NxA.dis [Tabs] (hm : Mem P X lo g μ w) {o : Nat} {x : Ob} {w' : World} {mv : MV} (h : NxA P X lo μ w o x w' mv) : ∀ p q mv1 mv2 k, again μ o mv p = some mv1 → again μ o mv q = some mv2 → k ∈ mv1.rs → k ∈ mv2.rs → p = q := by
  intro p q mv1 mv2 k h1 h2 h3 h4
  rcases again_inv h1 with ⟨e1, e2⟩ | ⟨hne, k1⟩ <;> rcases again_inv h2 with ⟨e3, e4⟩ | ⟨hne', k2⟩
  · rw [e1, e3]
  · rw [e2] at h3
    rcases h.roots k h3 with ⟨mv0, z1, z2⟩ | hge
    · rw [e1]; exact hm.dis _ _ _ _ k z1 k2 z2 h4
    · have := (hm.lt k2 h4).2; omega
  · rw [e4] at h4
    rcases h.roots k h4 with ⟨mv0, z1, z2⟩ | hge
    · rw [e3]; exact hm.dis _ _ _ _ k k1 z1 h3 z2
    · have := (hm.lt k1 h3).2; omega
  · exact hm.dis _ _ _ _ k k1 k2 h3 h4

/-- The others' blocks have not turned. -/
theorem NxA.other [Tabs] (hm : Mem P X lo g μ w) {o : Nat} {x : Ob} {w' : World} {mv : MV} (h : NxA P X lo μ w o x w' mv) {p : Nat} {mv1 : MV} (hp : μ p = some mv1) (hne : p ≠ o) : ∀ k, k ∈ mv1.rs → w'.heap[k]? = w.heap[k]? := fun k hk =>
  h.same k (hm.lt hp hk).2 fun mv0 h0 hk0 => hne (hm.dis p o mv1 mv0 k hp h0 hk hk0)

theorem append_arr [Tabs] (hT : TabOK P tt) (hm : Mem P X lo g μ w) {ty rt e b : Nat} {t : Ty} (he : tt ty = .sl e t b) {o : Nat} {l src : List t.I} (hg : g o = some (.arr e t l)) (hb0 : 0 < b) (hle : (l.length + src.length) * b ≤ 140737488355328)
    {xv : AV} (hsrc : srcOf g t xv = some src) {va x : Value} (ha : RelV P w lo μ (SS X μ) (.arr o) va) (hx : RelV P w lo μ (SS X μ) xv x) :
    ∃ v' w' mv', (Builtin.append_ #[ty, ty] rt #[va, x]).run P w = .ok v' w' ∧ NxA P X lo μ w o (.arr e t (l ++ src)) w' mv' ∧ RelV P w' lo (again μ o mv') (SS X (again μ o mv')) (.arr o) v' := by
  have hd := hT ty
  rw [he] at hd
  obtain ⟨hu, ⟨i, z, hi, hs, hby, hz, hzz⟩, _⟩ := hd
  have hzc : z.cells.size = t.size := by simpa using isZ_len hzz
  obtain ⟨ax, c, news, rfl, hnr, hn0, hnews⟩ := srcOf_ok hm hsrc hx
  have hnl := hnr.len
  cases ha with
  | @arr _ _ a0 n0 c0 rs hμ =>
    obtain ⟨y, hy, hob⟩ := hm.ob _ _ hμ
    rw [hg] at hy
    cases hy
    obtain ⟨hrs, hnl0, xs, hown, hrep⟩ := hob
    simp only at hrs hnl0 hown
    obtain ⟨v', w', h1, h2, h3, h4, h5, h6, h7, h8, a', n', c', hv'⟩ := append_own (rt := rt) (c := c) hu hi hs hby hz hzc hown (m := src.length) (by rw [hnl]) hn0 hnews hnr.one hle hb0
    have hroot : ∀ k, rootV v' = some k → (∃ mv0, μ o = some mv0 ∧ k ∈ mv0.rs) ∨ w.heap.size ≤ k := fun k hk => (h8 k hk).imp (fun h => ⟨_, hμ, by rw [hrs, h]; simp⟩) id
    have hsame : ∀ k, k < w.heap.size → (∀ mv0, μ o = some mv0 → k ∉ mv0.rs) → w'.heap[k]? = w.heap[k]? := fun k hk hn => h7 k hk fun e => hn _ hμ (by rw [hrs, e]; simp)
    have hdata : ∀ k, k < w.heap.size → SS X μ k → SS X (again μ o ⟨v', (rootV v').toList⟩) k ∧ w'.heap[k]? = w.heap[k]? := fun k hk hS => ⟨⟨hS.1, fun p mv hp hkm => by
      rcases again_inv hp with ⟨rfl, rfl⟩ | ⟨_, hp⟩
      · have hkm : rootV v' = some k := by simpa using hkm
        rcases hroot k hkm with ⟨mv0, e1, e2⟩ | h
        · exact hS.2 _ mv0 e1 e2
        · omega
      · exact hS.2 p mv hp hkm⟩, hsame k hk fun mv0 h => hS.2 o mv0 h⟩
    have hkept : Kept lo w w' := ⟨h3, h4, h5, h6, fun k hk => hsame k (hm.hlo k hk) fun mv0 h hkm => (hm.lt h hkm).1 hk⟩
    refine ⟨v', w', ⟨v', (rootV v').toList⟩, h1, ⟨hkept, hdata, ⟨rfl, fun k hk hl => ?_, xs ++ news, ?_, ?_⟩, fun k hk => hroot k (by simpa using hk), hsame⟩, ?_⟩
    · rcases hroot k hk with ⟨mv0, e1, e2⟩ | h
      · exact (hm.lt e1 e2).1 hl
      · have := hm.hlo k hl; omega
    · rw [List.length_append]; exact h2
    · exact (hrep.step fun k hk hS => hdata k hk hS).append (hnr.step fun k hk hS => hdata k hk hS)
    · rw [hv']
      exact .arr (rs := (rootV v').toList) (by rw [again_self, hv'])

theorem append_nil [Tabs] (hT : TabOK P tt) (hm : Mem P X lo g μ w) {ty rt e b d : Nat} {t : Ty} (he : tt ty = .sl e t b) {src : List t.I} (hd0 : g d = none) (hb0 : 0 < b) (hle : src.length * b ≤ 140737488355328)
    {xv : AV} (hsrc : srcOf g t xv = some src) {va x : Value} (ha : RelV P w lo μ (SS X μ) .nilsl va) (hx : RelV P w lo μ (SS X μ) xv x) :
    ∃ v' w' μ', (Builtin.append_ #[ty, ty] rt #[va, x]).run P w = .ok v' w' ∧ NxU P X lo g μ w [(d, .arr e t src)] w' μ' ∧ RelV P w' lo μ' (SS X μ') (.arr d) v' := by
  have hd := hT ty
  rw [he] at hd
  obtain ⟨hu, ⟨i, z, hi, hs, hby, hz, hzz⟩, _⟩ := hd
  have hzc : z.cells.size = t.size := by simpa using isZ_len hzz
  obtain ⟨ax, c, news, rfl, hnr, hn0, hnews⟩ := srcOf_ok hm hsrc hx
  have hnl := hnr.len
  cases ha
  have hμ0 : μ d = none := by
    cases hm' : μ d with
    | none => rfl
    | some mv => obtain ⟨y, hy, _⟩ := hm.ob d mv hm'; rw [hd0] at hy; cases hy
  obtain ⟨v', w', h1, h2, h3, h4, h5, h6, h7, h8, a', n', c', hv'⟩ := append_own (rt := rt) (c := c) hu hi hs hby hz hzc (World.ownsRow_nil w 0 e t.size) (m := src.length) (by rw [hnl]) hn0 hnews hnr.one (by simpa using hle) hb0
  have hnew : ∀ k, rootV v' = some k → w.heap.size ≤ k := fun k hk => (h8 k hk).elim (fun h => by simp [rootV] at h) id
  have hsame : ∀ k, k < w.heap.size → w'.heap[k]? = w.heap[k]? := fun k hk => h7 k hk (by simp [rootV])
  have hkept : Kept lo w w' := ⟨h3, h4, h5, h6, fun k hk => hsame k (hm.hlo k hk)⟩
  have hdata : ∀ k, k < w.heap.size → SS X μ k → SS X (again μ d ⟨v', (rootV v').toList⟩) k ∧ w'.heap[k]? = w.heap[k]? := fun k hk hS => ⟨⟨hS.1, fun p mv hp hkm => by
    rcases again_inv hp with ⟨rfl, rfl⟩ | ⟨_, hp⟩
    · have hkm : rootV v' = some k := by simpa using hkm
      have := hnew k hkm
      omega
    · exact hS.2 p mv hp hkm⟩, hsame k hk⟩
  have hs' : ∀ p mv, μ p = some mv → again μ d ⟨v', (rootV v').toList⟩ p = some mv := fun p mv hp => again_ne (fun e => by rw [e, hμ0] at hp; cases hp) hp
  refine ⟨v', w', again μ d ⟨v', (rootV v').toList⟩, h1, ⟨fun p mv hp => ⟨mv.rs, hs' p mv hp⟩, fun p mv hp => ?_, fun p mv k hp hk => ?_, hkept, fun k hk _ => hsame k hk, fun g' k1 k2 => ⟨hm.hX, fun b hb => Nat.lt_of_lt_of_le (hm.hlo b hb) h6, fun p mv hp => ?_, fun p q mv1 mv2 k hp hq hk1 hk2 => ?_, hm.tab.step hkept.block⟩⟩, ?_⟩
  · rcases again_inv hp with ⟨rfl, rfl⟩ | ⟨_, hp⟩
    · exact .inr ⟨_, List.mem_cons_self, rfl⟩
    · exact .inl ⟨mv, hp⟩
  · rcases again_inv hp with ⟨rfl, rfl⟩ | ⟨_, hp⟩
    · exact .inl (hnew k (by simpa using hk))
    · exact .inr ⟨p, mv, hp, hk⟩
  · rcases again_inv hp with ⟨rfl, rfl⟩ | ⟨hne, hp⟩
    · refine ⟨_, k1 (p, .arr e t src) (by simp), rfl, fun k hk hl => ?_, news, ?_, hnr.step fun k hk hS => hdata k hk hS⟩
      · have := hnew k hk
        have := hm.hlo k hl
        omega
      · simpa using h2
    · obtain ⟨y, hy, hyo⟩ := hm.ob p mv hp
      have hne' : ∀ q ∈ [(d, Ob.arr e t src)], q.1 ≠ p := fun q hq e => by
        simp only [List.mem_singleton] at hq
        subst hq
        exact hne e.symm
      exact ⟨y, by rw [k2 p mv hp hne']; exact hy, hyo.step hm.hlo hs' hdata hkept.block fun k hk => hsame k (hm.lt hp hk).2⟩
  · rcases again_inv hp with ⟨e1, e2⟩ | ⟨hne, z1⟩ <;> rcases again_inv hq with ⟨e3, e4⟩ | ⟨hne', z2⟩
    · rw [e1, e3]
    · rw [e2] at hk1
      have := hnew k (by simpa using hk1)
      have := (hm.lt z2 hk2).2
      omega
    · rw [e4] at hk2
      have := hnew k (by simpa using hk2)
      have := (hm.lt z1 hk1).2
      omega
    · exact hm.dis _ _ _ _ k z1 z2 hk1 hk2
  · rw [hv']
    exact .arr (rs := (rootV v').toList) (by rw [again_self, hv'])

theorem aappend_ok [Tabs] (hT : TabOK P tt) {s s' : St} (h : Rel P X lo N w0 s a w μ) {d ty rt : Nat} (hdN : N.has d) {av xv : AV} (hq : (aappend tt d ty av xv s).ev = some s') {va x : Value} (ha : RelV P w lo μ (SS X μ) av va) (hx : RelV P w lo μ (SS X μ) xv x) :
    ∃ v' w' μ', (Builtin.append_ #[ty, ty] rt #[va, x]).run P w = .ok v' w' ∧ Rel P X lo N w0 s' (a.put (some d) v') w' μ' := by
  unfold aappend at hq
  split at hq
  · rename_i e t b he
    split at hq
    next src hsrc =>
      split at hq
      · rename_i o
        split at hq
        next e' t' l hg =>
          split at hq
          next l' hcast =>
            obtain ⟨et, hl'⟩ := Ty.cast_spec hcast
            cases et
            have hl' : l' = l := hl'
            subst hl'
            split at hq
            next hee =>
              obtain ⟨rfl, hb0⟩ := hee
              obtain ⟨hle, hq⟩ := ev_g hq
              simp only [decide_eq_true_eq] at hle
              simp only [Tr.ev_l, Option.some.injEq] at hq
              subst hq
              obtain ⟨v', w', mv', h1, h2, h3⟩ := append_arr (rt := rt) hT h.mem he hg hb0 hle hsrc ha hx
              have hμ' : ∀ p mv, p ≠ o → μ p = some mv → again μ o mv' p = some mv := fun p mv hne hp => again_ne hne hp
              have hlow := h2.kept.block
              refine ⟨v', w', again μ o mv', h1, ?_⟩
              have hrel : Rel P X lo N w0 { fr := s.fr.map (fun p => (p.1, frz2 o .undef p.2)), ob := (o, .arr e' t (l' ++ src)) :: (s.ob.filter fun p => !(Nat.beq p.1 o)).map fun p => (p.1, frzOb o .undef p.2) } a w' (again μ o mv') := by
                refine ⟨⟨h.mem.hX, fun b hb => Nat.lt_of_lt_of_le (h.mem.hlo b hb) h2.kept.size, fun p mv hp => ?_, h2.dis h.mem, h.mem.tab.step h2.kept.block⟩, fun i => ?_, h.bel.trans h2.kept, h.df, h.sz⟩
                · rcases again_inv hp with ⟨rfl, rfl⟩ | ⟨hne, hp⟩
                  · exact ⟨.arr e' t (l' ++ src), by simp [St.g, look], h2.ob⟩
                  · obtain ⟨y, hy, hyo⟩ := h.mem.ob p mv hp
                    refine ⟨frzOb o .undef y, ?_, ?_⟩
                    · simp only [St.g, look, beq_ne (Ne.symm hne), look_map]
                      rw [look_filter o s.ob p hne]
                      simp only [St.g] at hy
                      rw [hy]; rfl
                    · exact (frzOb_rel (d := .undef) h.mem.hlo hμ' (fun _ _ => .undef) (fun _ _ h => h) hyo).step h.mem.hlo (fun _ _ h => h) h2.data hlow (h2.other h.mem hp hne)
                · simp only [St.slot, look_map]
                  have := frz2_rel (d := .undef) h.mem.hlo hμ' (fun _ _ => .undef) (fun _ _ h => h) (h.fr i)
                  simp only [St.slot] at this
                  cases hl : look s.fr i with
                  | none => exact .undef
                  | some v => rw [hl] at this; exact this.step (fun _ _ h => h) h.mem.hlo h2.data hlow
              exact hrel.put hdN h3
            next => cases hq
          next => cases hq
        next => cases hq
      · split at hq
        next hg =>
          split at hq
          next hb0 =>
            obtain ⟨hle, hq⟩ := ev_g hq
            simp only [decide_eq_true_eq] at hle
            simp only [Tr.ev_l, Option.some.injEq] at hq
            subst hq
            obtain ⟨v', w', μ', h1, h2, h3⟩ := append_nil (rt := rt) hT h.mem he hg hb0 hle hsrc ha hx
            exact ⟨v', w', μ', h1, h.upd (u := ⟨some (d, .arr d), none, [(d, .arr e t src)]⟩) (by simp) rfl h2 rfl (fun d' hd' => by cases hd'; exact hdN) fun p hp => by cases hp; exact h3⟩
          next => cases hq
        next => cases hq
      · cases hq
    next => cases hq
  · cases hq

theorem fresh_spec {g : Nat → Option Ob} {l : List (Nat × Ob)} (h : fresh g l = true) : (∀ p ∈ l, g p.1 = none) ∧ (l.map (·.1)).Nodup := by
  simp only [fresh, Bool.and_eq_true, List.all_eq_true, decide_eq_true_eq] at h
  refine ⟨fun p hp => ?_, h.2⟩
  have := h.1 p hp
  split at this
  · assumption
  · cases this

theorem mem_none [Tabs] (hm : Mem P X lo g μ w) {o : Nat} (h : g o = none) : μ o = none := by
  cases hμ : μ o with
  | none => rfl
  | some mv => obtain ⟨y, hy, _⟩ := hm.ob _ mv hμ; rw [h] at hy; cases hy

theorem adopt_ids [Tabs] {ρ : List Nat} {d : Nat} {res : List AV × List (Nat × Ob)} (hn : ρ.Nodup) (hok : okRes ρ.length res = true) (hf : fresh g (adopt ρ d res).1.2 = true) (hρ : ∀ o ∈ ρ, ∃ x, g o = some x) :
    (((adopt ρ d res).1.2 ++ (adopt ρ d res).2).map (·.1)).Nodup := by
  obtain ⟨h1, h2⟩ := fresh_spec hf
  simp only [okRes, Bool.and_eq_true, List.all_eq_true, decide_eq_true_eq] at hok
  obtain ⟨⟨⟨hok1, hok2⟩, _⟩, _⟩ := hok
  have hin : ∀ q ∈ res.2, 64 ≤ q.1 → ∃ o, nth ρ (q.1 - 64) = some o ∧ rn ρ d q.1 = o := fun q hq hge => by
    have hl := (hok1 q hq).1
    have hx : nth ρ (q.1 - 64) = some (ρ[q.1 - 64]'(by omega)) := by rw [nth_eq]; simp
    exact ⟨_, hx, by unfold rn; rw [if_neg (by omega), hx]; rfl⟩
  rw [List.map_append]
  refine List.nodup_append.2 ⟨h2, ?_, fun o ho p hp e => ?_⟩
  · have : ∀ l : List (Nat × Ob), (∀ q ∈ l, q ∈ res.2 ∧ 64 ≤ q.1) → (l.map (·.1)).Nodup → ((l.map fun p => (rn ρ d p.1, renOb ρ d p.2)).map (·.1)).Nodup := by
      intro l
      induction l with
      | nil => intro _ _; exact List.nodup_nil
      | cons q l ih =>
        intro hl hnd
        simp only [List.map_cons, List.nodup_cons] at hnd ⊢
        refine ⟨fun hmem => ?_, ih (fun q hq => hl q (List.mem_cons_of_mem _ hq)) hnd.2⟩
        rw [List.map_map] at hmem
        obtain ⟨q', hq', e⟩ := List.mem_map.1 hmem
        obtain ⟨o1, k1, k2⟩ := hin q (hl q (List.mem_cons_self)).1 (hl q (List.mem_cons_self)).2
        obtain ⟨o2, k3, k4⟩ := hin q' (hl q' (List.mem_cons_of_mem _ hq')).1 (hl q' (List.mem_cons_of_mem _ hq')).2
        simp only [Function.comp_apply] at e
        rw [k2, k4] at e
        subst e
        have e1 := ixOf_nth (k := 64) hn k1
        have e2 := ixOf_nth (k := 64) hn k3
        rw [e1] at e2
        have := (hl q (List.mem_cons_self)).2
        have := (hl q' (List.mem_cons_of_mem _ hq')).2
        have e3 : q.1 = q'.1 := by
          have : 64 + (q.1 - 64) = 64 + (q'.1 - 64) := Option.some.inj e2
          omega
        exact hnd.1 (by rw [e3]; exact List.mem_map_of_mem hq')
    simp only [adopt]
    refine this _ (fun q hq => ?_) ?_
    · obtain ⟨k1, k2⟩ := List.mem_filter.1 hq
      exact ⟨k1, by simpa using k2⟩
    · exact List.Sublist.nodup (List.Sublist.map _ List.filter_sublist) hok2
  · subst e
    obtain ⟨q, hq, rfl⟩ := List.mem_map.1 ho
    obtain ⟨q', hq', e⟩ := List.mem_map.1 hp
    obtain ⟨q2, hq2, rfl⟩ := List.mem_map.1 hq'
    obtain ⟨k1, k2⟩ := List.mem_filter.1 hq2
    obtain ⟨o, k3, k4⟩ := hin q2 k1 (by simpa using k2)
    simp only at e
    rw [k4] at e
    rw [nth_eq] at k3
    obtain ⟨x, hx⟩ := hρ o (List.mem_of_getElem? k3)
    have := h1 q hq
    rw [← e, hx] at this
    cases this

theorem acall_ids [Tabs] {d : Nat} {h : AV} {args : List AV} {q : QR × List (Nat × Ob)} (hq : (acall E g d h args).ev = some q) (hf : fresh g q.1.2 = true) : ((q.1.2 ++ q.2).map (·.1)).Nodup := by
  unfold acall at hq
  split at hq
  · split at hq
    next ρ hρ =>
      split at hq
      next hchk =>
        simp only [Bool.and_eq_true, decide_eq_true_eq, List.all_eq_true] at hchk
        split at hq
        next cr hcr =>
          simp only [Tr.ev_c] at hq
          cases hx0 : cr.x with
          | none => rw [hx0] at hq; cases hq
          | some r =>
            rw [hx0] at hq
            simp only [Option.bind_some] at hq
            obtain ⟨hc1, hq⟩ := ev_g hq
            simp only [Tr.ev_l, Option.some.injEq] at hq
            subst hq
            simp only [Bool.and_eq_true] at hc1
            refine adopt_ids hchk.1.2 hc1.1 hf fun o ho => ?_
            have := hchk.2 o ho
            unfold lentOK at this
            split at this
            · exact ⟨_, by assumption⟩
            · exact ⟨_, by assumption⟩
            · cases this
            · cases this
        next => cases hq
      next => cases hq
    next => cases hq
  · split at hq
    next =>
      split at hq
      next =>
        simp only [Tr.ev_c] at hq
        obtain ⟨y, _, hq⟩ := Option.bind_eq_some_iff.1 hq
        simp only [Tr.ev_l, Option.some.injEq] at hq
        subst hq
        exact List.nodup_nil
      next => cases hq
    next => cases hq
  · cases hq

/-- What an operation that turns no header does. -/
theorem alu_ok [Tabs] (hE : EnvOK P E) (hT : TabOK P tt) (hm : Mem P X lo g μ w) {f : Operand → AV} (hf : ∀ x, RelV P w lo μ (SS X μ) (f x) (a.eval x)) {o : Oper} (hna : isAppend o = false) {u : LU} (h : (alu E tt g f o).ev = some u) :
    u.und = none ∧ o.dst = u.d.map (·.1) ∧ (u.objs.map (·.1)).Nodup ∧ QOK P o a w (fun x w' => ∃ μ', NxU P X lo g μ w u.objs w' μ' ∧ ∀ p, u.d = some p → RelV P w' lo μ' (SS X μ') p.2 x) := by
  unfold alu at h
  split at h
  · rename_i ty av vv ho hd
    obtain ⟨w', h1, h2, h3, h4, h5⟩ := astore_ok hT hm h (hf av) (hf vv)
    refine ⟨h4, by rw [hd, h3]; rfl, h5, ?_⟩
    intro K Q hK
    unfold Oper.wp execOp
    simp only [ho, Sem.run_bind, h1, Result.andThen_ok, Sem.run_pure]
    exact hK _ w' ⟨μ, h2, fun p hp => by rw [h3] at hp; cases hp⟩
  · rename_i ho _
    unfold isAppend at hna
    rw [ho] at hna
    cases hna
  · rename_i H as ts d ho hd
    rw [Tr.ev_bind] at h
    cases hq : (acall E g d (f H) (as.toList.map f)).ev with
    | none => rw [hq] at h; cases h
    | some q =>
      rw [hq] at h
      simp only [Option.bind_some] at h
      split at h
      next hfr =>
        simp only [Tr.ev_l, Option.some.injEq] at h
        subst h
        obtain ⟨h1, h2⟩ := fresh_spec hfr
        obtain ⟨_, h3⟩ := map_eval a hf as
        refine ⟨rfl, by rw [hd]; rfl, acall_ids hq hfr, ?_⟩
        have := acall_ok hE hm hq (fun p hp => mem_none hm (h1 p hp)) ho rfl (hf H) (by simp) h3
        exact fun K Q hK => this K Q fun x w' ⟨μ', k1, k2⟩ => hK x w' ⟨μ', k1, fun p hp => by cases hp; exact k2⟩
      next => cases h
  · rename_i d hd _ _
    rw [Tr.ev_bind] at h
    cases hq : (aq tt g f o).ev with
    | none => rw [hq] at h; cases h
    | some q =>
      rw [hq] at h
      simp only [Option.bind_some] at h
      split at h
      next hfr =>
        simp only [Tr.ev_l, Option.some.injEq] at h
        subst h
        obtain ⟨h1, h2⟩ := fresh_spec hfr
        refine ⟨rfl, by rw [hd]; rfl, h2, ?_⟩
        have hμ : ∀ p ∈ q.2, μ p.1 = none := fun p hp => mem_none hm (h1 p hp)
        have := aq_ok hT hm hf hq hμ
        exact fun K Q hK => this K Q fun x w' hx => by
          obtain ⟨μ', k1, k2⟩ := NxU.of hm hμ hx
          exact hK x w' ⟨μ', k1, fun p hp => by cases hp; exact k2⟩
      next => cases h
  · cases h

/-- An operation, and what is known behind it. -/
theorem aop_ok [Tabs] (hE : EnvOK P E) (hT : TabOK P tt) {fz : Nat → List Nat} {o : Oper} {i : Nat} {s s' : St} (hN : ∀ d, o.dst = some d → N.has d) (h : Rel P X lo N w0 s a w μ) (hq : (aop E tt fz o i s).ev = some s')
    {K : Act → World → Prop} {Q : Exit → Act → World → Prop} (hK : ∀ a' w' μ', Rel P X lo N w0 s' a' w' μ' → K a' w') : o.wp P a w K Q := by
  obtain ⟨μ1, h1⟩ := h.freezes ((fz i).flatMap fun k => arrsOf (s.slot k))
  unfold aop at hq
  simp only at hq
  split at hq
  · split at hq
    · rename_i as ts d ho hd
      split at hq
      next x y ty ty' has hts =>
        split at hq
        next hty =>
          subst hty
          have e1 : as = #[x, y] := by rw [← Array.toArray_toList (xs := as), has]
          have e2 : ts = #[ty, ty] := by rw [← Array.toArray_toList (xs := ts), hts]
          obtain ⟨v', w', μ', h2, h3⟩ := aappend_ok (rt := o.type) hT h1 (hN d hd) hq (opd_rel h1.fr x) (opd_rel h1.fr y)
          unfold Oper.wp execOp
          simp only [ho, e1, e2, resolve, invoke, builtin, Sem.run_bind, Sem.run_pure, Result.andThen_ok, List.map_toArray, List.map_cons, List.map_nil, h2]
          exact hK _ w' μ' (by rw [hd]; exact h3)
        next => cases hq
      next => cases hq
    · cases hq
  · rename_i hna
    rw [Tr.ev_bind] at hq
    cases hu : (alu E tt (s.freezes ((fz i).flatMap fun k => arrsOf (s.slot k))).g (opd (s.freezes ((fz i).flatMap fun k => arrsOf (s.slot k))).slot) o).ev with
    | none => rw [hu] at hq; cases hq
    | some u =>
      rw [hu] at hq
      simp only [Option.bind_some, Tr.ev_l, Option.some.injEq] at hq
      subst hq
      obtain ⟨k1, k2, k3, k4⟩ := alu_ok hE hT h1.mem (opd_rel h1.fr) hna hu
      exact k4 K Q fun x w' ⟨μ', k5, k6⟩ => hK _ w' μ' (h1.upd k3 k1 k5 k2 hN k6)

theorem yielded_ok [Tabs] {s : St} (h : Rel P X lo N w0 s a w μ) {ops : Array Oper} {j dj : Nat} (hj : (ops[j]?).bind (·.dst) = some dj) (hN : N.has dj) {b : Bool} (hb : s.slot dj = .dat .bool b) : yielded ops a.tmps j = some b ∧ a.tmps.getD dj undef = .bool b := by
  have hr := h.fr dj
  rw [hb] at hr
  have := hr.bool
  have hlt : dj < a.tmps.size := by rw [h.sz.n]; exact hN.2
  have hget : a.tmps[dj]? = some (.bool b) := by
    have e : a.tmps.getD dj undef = a.tmps[dj] := by simp [hlt]
    rw [e] at this
    rw [Array.getElem?_eq_getElem hlt, this]
  exact ⟨by simp [yielded, hj, hget], this⟩

theorem yielded_skip [Tabs] {s : St} (h : Rel P X lo N w0 s a w μ) {ops : Array Oper} {j dj : Nat} (hj : (ops[j]?).bind (·.dst) = some dj) (hb : s.slot dj = .skip) : yielded ops a.tmps j = none := by
  have hr := h.fr dj
  rw [hb] at hr
  generalize hy : a.tmps.getD dj undef = y at hr
  cases hr
  unfold yielded
  rw [hj]
  cases hg : a.tmps[dj]? with
  | none => simp [hg]
  | some v =>
    have : v = undef := by rw [← hy, Array.getD_eq_getD_getElem?, hg]; rfl
    subst this
    simp [hg]
    rfl

/-- The operations of a region in the order of the text. -/
theorem aops_ok [Tabs] (hE : EnvOK P E) (hT : TabOK P tt) {fz : Nat → List Nat} {ops : Array Oper} (hN : ∀ (j : Nat) (o : Oper) d, ops[j]? = some o → o.dst = some d → N.has d) {Q : Exit → Act → World → Prop} : ∀ {l : List Oper} {i : Nat} {s s' : St} {a : Act} {w : World} {μ : Nat → Option MV},
    (∀ j, l[j]? = ops[i + j]?) → Rel P X lo N w0 s a w μ → (aops E tt fz (fun j => ops[j]?) l i s).ev = some s' → (∀ a' w' μ', Rel P X lo N w0 s' a' w' μ' → Q .normal a' w') → wpList P ops Q l a w
  | [], i, s, s', a, w, μ, _, h, hq, hQ => by
    simp only [aops, Tr.ev_l, Option.some.injEq] at hq
    subst hq
    exact hQ a w μ h
  | o :: l, i, s, s', a, w, μ, hl, h, hq, hQ => by
    have h0 : ops[i]? = some o := by simpa using (hl 0).symm
    have hl' : ∀ j, l[j]? = ops[i + 1 + j]? := fun j => by have := hl (j + 1); simpa [Nat.add_assoc, Nat.add_comm 1 j] using this
    have hNo := fun d hd => hN i o d h0 hd
    simp only [aops] at hq
    refine wpList_step fun K hK => ?_
    have run : ∀ {s1 : St} {a : Act} {w : World} {μ : Nat → Option MV}, Rel P X lo N w0 s1 a w μ → ((aop E tt fz o i s1).bind (aops E tt fz (fun j => ops[j]?) l (i + 1))).ev = some s' → (∀ a w, wpList P ops Q l a w → K a w) → o.wp P a w K Q := by
      intro s1 a w μ h1 hq1 hK
      rw [Tr.ev_bind] at hq1
      cases hs : (aop E tt fz o i s1).ev with
      | none => rw [hs] at hq1; cases hq1
      | some s2 =>
        rw [hs] at hq1
        exact aop_ok hE hT hNo h1 hs fun a' w' μ' h2 => hK _ _ (aops_ok hE hT hN hl' h2 hq1 hQ)
    cases hg : o.guard with
    | none =>
      rw [hg] at hq
      simp only at hq
      simp only [Region.wanted, hg, if_true]
      exact run h hq hK
    | some gd =>
      obtain ⟨j, want⟩ := gd
      rw [hg] at hq
      simp only at hq
      split at hq
      next dj hdj =>
        have skip : ∀ {s1 : St} {a : Act}, Rel P X lo N w0 s1 a w μ → (match o.dst with
            | some d => aops E tt fz (fun j => ops[j]?) l (i + 1) { s1 with fr := (d, .skip) :: s1.fr }
            | none => aops E tt fz (fun j => ops[j]?) l (i + 1) s1).ev = some s' → K (a.put o.dst undef) w := by
          intro s1 a h1 hq1
          cases hd : o.dst with
          | none => rw [hd] at hq1; exact hK _ _ (aops_ok hE hT hN hl' (by simpa [Act.put] using h1) hq1 hQ)
          | some d => rw [hd] at hq1; exact hK _ _ (aops_ok hE hT hN hl' (h1.put (hNo d hd) .skip) hq1 hQ)
        split at hq
        next b hb =>
          have hdN : N.has dj := by
            cases hoj : ops[j]? with
            | none => rw [hoj] at hdj; cases hdj
            | some oj => rw [hoj] at hdj; exact hN j oj dj hoj hdj
          obtain ⟨hy, hv⟩ := yielded_ok h hdj hdN hb
          simp only [Region.wanted, hg, hy]
          have hknow : Rel P X lo N w0 { s with fr := (dj, .dat .bool b) :: s.fr } a w μ := h.know (by rw [hv]; exact rel_bool _)
          cases want <;> cases b
          · simp only [Tr.ev_t, cond_false] at hq
            simp only [beq_self_eq_true, if_true]
            exact run hknow hq hK
          · simp only [Tr.ev_t, cond_true] at hq
            rw [if_neg (by simp)]
            refine skip (s1 := { s with fr := (dj, .dat .bool true) :: s.fr }) hknow ?_
            cases hd : o.dst <;> rw [hd] at hq <;> exact hq
          · simp only [Tr.ev_t, cond_false] at hq
            rw [if_neg (by simp)]
            refine skip (s1 := { s with fr := (dj, .dat .bool false) :: s.fr }) hknow ?_
            cases hd : o.dst <;> rw [hd] at hq <;> exact hq
          · simp only [Tr.ev_t, cond_true] at hq
            simp only [beq_self_eq_true, if_true]
            exact run hknow hq hK
        next hb =>
          simp only [Region.wanted, hg, yielded_skip h hdj hb]
          rw [if_neg (by simp)]
          refine skip h ?_
          cases hd : o.dst <;> rw [hd] at hq <;> exact hq
        next => cases hq
      next => cases hq
end
end Go.Proofs.YtakbhfnndcnopaaDoor
