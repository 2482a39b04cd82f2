/-
  All operations that write nothing: what the evaluator computes is what the model does.
-/
import Derived.Test.YtafcpibodfbjnaaB10
namespace Go.Proofs.Ytafcpibodfbjnaa
open Go.RowKit (Below)

section
variable {P : Program} {tt : Nat → TD} {w : World} {lo : Nat} {μ : Nat → Option Value} {S : Nat → Prop} {X : Nat → Prop} {g : Nat → Option Ob} {o : Oper} {a : Act} {E : Env}

theorem rep_cells : ∀ {t : Ty} {v : t.I} {x : Value}, t.size = 1 → Rep S w t v [x] → x.cells = #[x]
  | .int k, _, _, _, hr => by simp [Rep] at hr; subst hr; rfl
  | .bool, _, _, _, hr => by simp [Rep] at hr; subst hr; rfl
  | .str, _, _, _, hr => by simp [Rep] at hr; subst hr; rfl
  | .slice t, _, _, _, hr => by simp only [Rep] at hr; obtain ⟨a, cap, e, _⟩ := hr; simp at e; subst e; rfl
  | .pair a b, _, _, ht, _ => by
    have := a.size_pos
    have := b.size_pos
    simp only [Ty.size] at ht
    omega

theorem get1_rel {t : Ty} {v : AV} {x : t.I} (h : get1 t v = some x) {y : Value} (hr : RelV P w lo μ S v y) : Rep S w t x [y] ∧ y.cells = #[y] := by
  unfold get1 at h
  split at h
  · obtain ⟨e, rfl⟩ := Ty.cast_spec h
    subst e
    refine ⟨by cases hr with | dat _ hr => exact hr, ?_⟩
    cases hr with
    | dat ht hr => exact rep_cells ht hr
  · split at h
    · cases h
      cases hr
      exact ⟨Rep.nil, rfl⟩
    · cases h
  · cases h

theorem getA_rel {t : Ty} {v : AV} {x : t.I} (h : getA t v = some x) {y : Value} (hr : RelV P w lo μ S v y) : Rep S w t x y.cells.toList ∧ (t.size = 1 → y.cells = #[y]) ∧ (t.size ≠ 1 → ∃ cs, y = .agg cs) := by
  unfold getA at h
  split at h
  · split at h
    · cases h
    next hs =>
      cases hr with
      | agg hl hv =>
        exact ⟨unflat_rel h (by simpa [Value.cells] using hl.symm) (by simpa [Value.cells] using hv), fun e => absurd e hs, fun _ => ⟨_, rfl⟩⟩
  · split at h
    next hs =>
      obtain ⟨h1, h2⟩ := get1_rel h hr
      exact ⟨by rw [h2]; exact h1, fun _ => h2, fun e => absurd hs e⟩
    · cases h

theorem hlOf_rel : ∀ {ts : List Ty} {vs : List AV} {h : HL ts}, hlOf ts vs = some h → ∀ {ys : List Value}, vs.length = ys.length → (∀ j v, nth vs j = some v → RelV P w lo μ S v (ys.getD j undef)) → HRel w ts h ys
  | [], [], _, _, ys, hl, _ => by simpa [HRel] using hl.symm
  | [], _ :: _, _, h, ys, hl, _ => by simp [hlOf] at h
  | _ :: _, [], _, h, ys, hl, _ => by simp [hlOf] at h
  | t :: ts, v :: vs, h, hh, [], hl, _ => by simp at hl
  | t :: ts, v :: vs, h, hh, y :: ys, hl, hv => by
    simp only [hlOf] at hh
    split at hh
    next x r h1 h2 =>
      cases hh
      obtain ⟨h3, h4, h5⟩ := getA_rel h1 (hv 0 v rfl)
      exact ⟨y, ys, rfl, h3.step fun b _ _ => ⟨trivial, rfl⟩, h4, h5, hlOf_rel h2 (by simpa using hl) fun j v hj => hv (j + 1) v hj⟩
    next => cases hh

theorem inj_one {t : Ty} (ht : t.size = 1) (x : t.I) : inj t x = .dat t x := by
  cases t with
  | pair a b =>
    have := a.size_pos
    have := b.size_pos
    simp only [Ty.size] at ht
    omega
  | _ => rfl

theorem acall_ok (hE : EnvOK P E) (hm : Mem P X lo g μ w) {d : Nat} {h : AV} {args : List AV} {q : QR} (hq : (acall E g d h args).ev = some q) (hfree : ∀ p ∈ q.2, μ p.1 = none) {c : Call} {H : Operand}
    (ho : o.op = .call c) (hc : c.callee = .value H) (hH : RelV P w lo μ (SS X μ) h (a.eval H)) (hl : args.length = c.args.size) (ha : ∀ j v, nth args j = some v → RelV P w lo μ (SS X μ) v ((c.args.map a.eval).getD j undef)) :
    QOK P o a w (Nx P X lo g μ w q) := by
  unfold acall at hq
  split at hq
  · rename_i f caps
    split at hq
    case isFalse => cases hq
    split at hq
    next cr hcr =>
      cases hH' : a.eval H with
      | func fn first xs =>
        rw [hH'] at hH
        cases hH with
        | fn hxl hx =>
          simp only [Tr.ev_c] at hq
          cases hx0 : cr.x with
          | none => rw [hx0] at hq; cases hq
          | some r =>
            rw [hx0] at hq
            simp only [Option.bind_some] at hq
            obtain ⟨hc1, hq⟩ := ev_g hq
            simp only [Tr.ev_l, Option.some.injEq] at hq
            subst hq
            simp only [Bool.and_eq_true, Bool.or_eq_true, Bool.not_eq_true'] at hc1
            obtain ⟨hok, hbd⟩ := hc1
            -- what the result may not touch
            obtain ⟨Xc, hXc, hX1, hX2, hargs, hcaps⟩ : ∃ Xc : Nat → Prop, (∀ b, Xc b → X b ∨ ∃ o mv, μ o = some mv ∧ rootV mv = some b) ∧ (∀ b, X b → Xc b) ∧
                (((cr.emb r).1.any deep1 || (cr.emb r).2.any fun p => deepOb p.2) = false ∨ ∀ o mv b, μ o = some mv → rootV mv = some b → Xc b) ∧
                (∀ v ∈ args, isArr v = false ∨ ∀ o mv b, μ o = some mv → rootV mv = some b → ¬ Xc b) ∧ (∀ v ∈ caps, capArr g v = false ∨ ∀ o mv b, μ o = some mv → rootV mv = some b → ¬ Xc b) := by
              rcases hbd with hb | hb
              · simp only [Bool.or_eq_false_iff, List.any_eq_false] at hb
                exact ⟨fun b => X b ∨ ∃ o mv, μ o = some mv ∧ rootV mv = some b, fun b h => h, fun b h => .inl h, .inr fun o mv b h1 h2 => .inr ⟨o, mv, h1, h2⟩, fun v hv => .inl (by simpa using hb.1 v hv), fun v hv => .inl (by simpa using hb.2 v hv)⟩
              · refine ⟨X, fun b h => .inl h, fun b h => h, .inl hb, fun v _ => .inr fun o mv b h1 h2 h3 => ?_, fun v _ => .inr fun o mv b h1 h2 h3 => ?_⟩
                · have := hm.hX b h3; have := (hm.lt h1 h2).1; omega
                · have := hm.hX b h3; have := (hm.lt h1 h2).1; omega
            have hSS : ∀ b, b < w.heap.size → SS X μ b → ¬ Xc b := fun b _ hS hx => (hXc b hx).elim hS.1 fun ⟨o, mv, h1, h2⟩ => hS.2 o mv h1 h2
            have hcall := hE f _ cr hcr r hx0 w Xc (c.args.map a.eval ++ xs)
              (fun b hb => (hXc b hb).elim (fun h => Nat.lt_of_lt_of_le (hm.hX b h) hm.hlo) fun ⟨o, mv, h1, h2⟩ => (hm.lt h1 h2).2)
              (by simp [hl, hxl])
              (fun j v hv => by
                rw [nth_eq] at hv
                by_cases hj : j < args.length
                · rw [List.getElem?_append_left (by simpa using hj), List.getElem?_map] at hv
                  cases hu : args[j]? with
                  | none => rw [hu] at hv; cases hv
                  | some u =>
                    rw [hu] at hv
                    simp only [Option.map_some, Option.some.injEq] at hv
                    subst hv
                    have := extA_rel hm hSS (hargs u (List.mem_of_getElem? hu)) (ha j u (by rw [nth_eq]; exact hu))
                    have hjs : j < (c.args.map a.eval).size := by simpa [← hl] using hj
                    rwa [Array.getD_eq_getD_getElem?, Array.getElem?_append_left hjs, ← Array.getD_eq_getD_getElem?]
                · rw [List.getElem?_append_right (by simp; omega), List.length_map, List.getElem?_map] at hv
                  cases hu : caps[j - args.length]? with
                  | none => rw [hu] at hv; cases hv
                  | some u =>
                    rw [hu] at hv
                    simp only [Option.map_some, Option.some.injEq] at hv
                    subst hv
                    have := extC_rel (p := false) hm hSS (fun e => by cases e) (hcaps u (List.mem_of_getElem? hu)) (hx _ u (by rw [nth_eq]; exact hu))
                    have hjs : (c.args.map a.eval).size ≤ j := by simp [← hl]; omega
                    rwa [Array.getD_eq_getD_getElem?, Array.getElem?_append_right hjs, ← Array.getD_eq_getD_getElem?, show j - (c.args.map a.eval).size = j - args.length by simp [hl]])
            obtain ⟨hrun, hcalls⟩ := hcall
            intro K Q hK
            have he : (execOp a.eval o).run P w = .ok (.enter f (c.args.map a.eval ++ xs)) w := by
              simp [execOp, ho, resolve, hc, hH', Deferred.ofValue, invoke, hrun]
            unfold Oper.wp
            rw [he]
            refine hcalls.mono fun e w' ⟨x, hx', hres⟩ => ?_
            subst hx'
            exact hK x w' (adopt_ok hm hX1 hX2 hok hres fun p hp => hfree _ (List.mem_map_of_mem (f := fun p : Nat × Ob => (d * 64 + p.1, p.2)) hp))
      | _ => rw [hH'] at hH; cases hH
    next => cases hq
  · rename_i ts r p
    split at hq
    case isFalse => cases hq
    split at hq
    next hl' hhl =>
      simp only [Tr.ev_c] at hq
      cases hp : p hl' with
      | none => rw [hp] at hq; cases hq
      | some y =>
        rw [hp] at hq
        simp only [Option.bind_some] at hq
        have := ev_vq hq; subst this
        cases hH with
        | clo hclo =>
          obtain ⟨hd, hs, f, xs, he, hcl⟩ := hclo
          have hrel := hlOf_rel (P := P) (w := w) (lo := w.heap.size) (μ := fun _ => none) (S := fun _ => True) hhl (ys := (c.args.map a.eval).toList) (by simp [hl]) (fun j v hv => by
            rw [nth_eq, List.getElem?_map] at hv
            cases hu : args[j]? with
            | none => rw [hu] at hv; cases hv
            | some u =>
              rw [hu] at hv
              simp only [Option.map_some, Option.some.injEq] at hv
              subst hv
              have := ext1_rel (S' := fun _ => True) hm (fun _ _ _ => trivial) (.inr fun _ _ _ _ _ => trivial) (ha j u (by rw [nth_eq]; exact hu))
              simpa using this)
          obtain ⟨hrun, hcalls⟩ := hcl w hm.hlo (fun _ _ => rfl) hl' _ hrel y hp
          simp only [Array.toArray_toList] at hrun hcalls
          intro K Q hK
          have hex : (execOp a.eval o).run P w = .ok (.enter f (c.args.map a.eval ++ xs)) w := by
            simp [execOp, ho, resolve, hc, he, Deferred.ofValue, invoke, hrun]
          unfold Oper.wp
          rw [hex]
          refine hcalls.mono fun e w' ⟨x, hx', hres, hb⟩ => ?_
          subst hx'
          refine hK x w' ⟨μ, fun _ _ h => h, fun _ _ h => .inl h, hb, fun g' _ h2 => ?_, ?_⟩
          · have hw := Mem.grow (X := X) (μ := μ) hb (μ' := μ) fun _ _ h => .inl h
            exact ⟨hm.hX, Nat.le_trans hm.hlo hb.size, fun o mv ho => by
              obtain ⟨z, hz, hob⟩ := hm.ob o mv ho
              exact ⟨z, by rw [h2 o mv ho]; exact hz, hob.step hm.hlo (fun _ _ h => h) hw (fun b hlt => hb.block b (Nat.lt_of_lt_of_le hlt hm.hlo)) fun b hrb => hb.block b (hm.lt ho hrb).2⟩, hm.dis⟩
          · rw [inj_one hs]
            exact .dat hs (hres.plain hd)
    next => cases hq
  · cases hq
end
end Go.Proofs.Ytafcpibodfbjnaa
