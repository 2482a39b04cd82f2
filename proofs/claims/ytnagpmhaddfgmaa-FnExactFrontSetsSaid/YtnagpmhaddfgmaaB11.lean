/-
 Calls: what the evaluator computes is what the model does.
-/
import Derived.Test.YtnagpmhaddfgmaaB10
namespace Go.Proofs.Ytnagpmhaddfgmaa
open Go.RowKit (Below)
section
variable {P : Program} {tt : Nat → TD} {w : World} {lo : Nat → Prop} {μ : Nat → Option MV} {S : Nat → Prop} {X : Nat → Prop} {g : Nat → Option Ob} {o : Oper} {a : Act} {E : Env} {ρ : List Nat}
theorem waca : ∀ {t : Ty} {v : t.I} {x : Value}, t.size = 1 → Rep S w t v [x] → x.cells = #[x]
 | .int k, _, _, _, hr => by simp [Rep] at hr; subst hr; rfl
 | .bool, _, _, _, hr => by simp [Rep] at hr; subst hr; rfl
 | .str, _, _, _, hr => by simp [Rep] at hr; subst hr; rfl
 | .hdr, _, _, _, hr => by
  simp only [Rep] at hr
  obtain ⟨_, _, e, _⟩ := hr
  simp at e
  rw [e]
  rfl
 | .seq _, _, _, _, hr => by simp only [Rep] at hr; obtain ⟨_, _, _, e, _⟩ := hr; simp at e; subst e; rfl
 | .slice t, _, _, _, hr => by simp only [Rep] at hr; obtain ⟨a, cap, e, _⟩ := hr; simp at e; subst e; rfl
 | .pair a b, _, _, ht, _ => by
  have := a.size_pos
  have := b.size_pos
  simp only [Ty.size] at ht
  omega
theorem wdy [Tabs] {t : Ty} {v : AV} {x : t.I} (h : get1 t v = some x) {y : Value} (hr : RelV P w lo μ S v y) : Rep S w t x [y] ∧ y.cells = #[y] := by
 unfold get1 at h
 split at h
 ·obtain ⟨e, rfl⟩ := Ty.cast_spec h
  subst e
  refine ⟨by cases hr with | dat _ hr => exact hr, ?_⟩
  cases hr with
  | dat ht hr => exact waca ht hr
 ·split at h
  ·cases h
   cases hr
   exact ⟨Rep.nil, rfl⟩
  ·cases h
 ·cases h
theorem waib [Tabs] {t : Ty} {v : AV} {x : t.I} (h : getA t v = some x) {y : Value} (hr : RelV P w lo μ S v y) : Rep S w t x y.cells.toList ∧ (t.size = 1 → y.cells = #[y]) ∧ (t.size ≠ 1 → ∃ cs, y = .agg cs) := by
 unfold getA at h
 split at h
 ·split at h
  ·cases h
  next hs =>
   cases hr with
   | agg hl hv =>
    exact ⟨wck h (by simpa [Value.cells] using hl.symm) (by simpa [Value.cells] using hv), fun e => absurd e hs, fun _ => ⟨_, rfl⟩⟩
 ·split at h
  next hs =>
   obtain ⟨h1, h2⟩ := wdy h hr
   exact ⟨by rw [h2]; exact h1, fun _ => h2, fun e => absurd hs e⟩
  ·cases h
theorem wvs [Tabs] : ∀ {ts : List Ty} {vs : List AV} {h : HL ts}, hlOf ts vs = some h → ∀ {ys : List Value}, vs.length = ys.length → (∀ j v, nth vs j = some v → RelV P w lo μ S v (ys.getD j undef)) → HRel w ts h ys
 | [], [], _, _, ys, hl, _ => by simpa [HRel] using hl.symm
 | [], _ :: _, _, h, ys, hl, _ => by simp [hlOf] at h
 | _ :: _, [], _, h, ys, hl, _ => by simp [hlOf] at h
 | t :: ts, v :: vs, h, hh, [], hl, _ => by simp at hl
 | t :: ts, v :: vs, h, hh, y :: ys, hl, hv => by
  simp only [hlOf] at hh
  split at hh
  next x r h1 h2 =>
   cases hh
   obtain ⟨h3, h4, h5⟩ := waib h1 (hv 0 v rfl)
   exact ⟨y, ys, rfl, h3.step fun b _ _ => ⟨trivial, rfl⟩, h4, h5, wvs h2 (by simpa using hl) fun j v hj => hv (j + 1) v hj⟩
  next => cases hh
theorem wacb {t : Ty} (ht : t.size = 1) (x : t.I) : inj t x = .dat t x := by
 cases t with
 | pair a b =>
  have := a.size_pos
  have := b.size_pos
  simp only [Ty.size] at ht
  omega
 | _ => rfl
theorem wtn [Tabs] (hm : Mem P X lo g μ w) (hn : ρ.Nodup) : LendOK X lo μ w ρ (old w (wdm μ ρ)) (wdm μ ρ) where
 mi := fun o i mv hi ho => by rw [wpk hi]; exact ho
 le := fun b hb => ⟨hm.hlo b hb, fun o mv h hbm => by
  obtain ⟨o', _, h'⟩ := wbx hn h
  exact (hm.lt h' hbm).1 hb⟩
 rest := fun o mv b h hi hb => ⟨(hm.lt h hb).2, fun i mv' h' hb' => by
  obtain ⟨o', hi', ho'⟩ := wbx hn h'
  have := hm.dis o o' mv mv' b h ho' hb hb'
  subst this
  rw [hi] at hi'
  cases hi'⟩
 dat := fun b hb hS => ⟨hb, fun i mv h hbm => by
  obtain ⟨o', _, h'⟩ := wbx hn h
  exact hS.2 o' mv h' hbm⟩
theorem wob {ρ : List Nat} : ∀ {r : List Nat} {k j o : Nat} {x : Ob}, nth r j = some o → g o = some x → look (insOf ρ g r k) (k + j) = some (wyx ρ g x)
 | [], _, _, _, _, h, _ => by simp [nth] at h
 | y :: r, k, 0, o, x, h, hg => by
  simp only [nth, Option.some.injEq] at h
  subst h
  simp only [insOf, hg, look, Nat.add_zero]
  simp
 | y :: r, k, j + 1, o, x, h, hg => by
  simp only [nth] at h
  have ih := wob (ρ := ρ) (k := k + 1) h hg
  rw [show k + (j + 1) = k + 1 + j by omega]
  simp only [insOf]
  cases hy : g y with
  | none => exact ih
  | some z =>
   simp only [look]
   have : Nat.beq k (k + 1 + j) = false := by
    cases hb : Nat.beq k (k + 1 + j) with
    | true => have := Nat.eq_of_beq_eq_true hb; omega
    | false => rfl
   rw [this]
   exact ih
theorem wkt {ρ : List Nat} : ∀ {r : List Nat} {k : Nat} {p : Nat × Ob}, p ∈ insOf ρ g r k → ∃ j o, nth r j = some o ∧ p.1 = k + j
 | [], _, _, h => by simp [insOf] at h
 | y :: r, k, p, h => by
  simp only [insOf] at h
  split at h
  next x hx =>
   rcases List.mem_cons.1 h with rfl | h
   ·exact ⟨0, y, rfl, rfl⟩
   ·obtain ⟨j, o, h1, h2⟩ := wkt h
    exact ⟨j + 1, o, h1, by omega⟩
  next =>
   obtain ⟨j, o, h1, h2⟩ := wkt h
   exact ⟨j + 1, o, h1, by omega⟩
theorem wcl [Tabs] (hm : Mem P X lo g μ w) {fs as : List AV} (hfs : ∀ v ∈ fs, ∀ f cs j o, v = .fn f cs → nth cs j = some (.box o 0) → ∃ mv, μ o = some mv) (has : ∀ v ∈ as, (∀ o k, v = .box o k → ∃ mv, μ o = some mv) ∧ (∀ o, v = .arr o → ∃ mv, μ o = some mv) ∧ ∀ cs j o, v = .agg cs → nth cs j = some (.arr o) → ∃ mv, μ o = some mv) : ∀ {l : List LP} {acc ρ : List Nat}, (∀ o ∈ acc, ∃ mv, μ o = some mv) → wax g fs as l acc = some ρ → ∀ o ∈ ρ, ∃ mv, μ o = some mv
 | [], acc, ρ, hacc, h, o, ho => by
  simp only [wax, Option.some.injEq] at h
  subst h
  exact hacc o ho
 | .arg i :: r, acc, ρ, hacc, h, o, ho => by
  simp only [wax] at h
  have more : ∀ p, (∃ mv, μ p = some mv) → ∀ o ∈ acc ++ [p], ∃ mv, μ o = some mv := fun p hp o ho => by
   rcases List.mem_append.1 ho with ho | ho
   ·exact hacc o ho
   ·rw [List.mem_singleton.1 ho]; exact hp
  split at h
  next p hp =>
   rw [wo] at hp
   exact wcl hm hfs has (more p ((has _ (List.mem_of_getElem? hp)).1 p 0 rfl)) h o ho
  next p hp =>
   rw [wo] at hp
   exact wcl hm hfs has (more p ((has _ (List.mem_of_getElem? hp)).2.1 p rfl)) h o ho
  next => cases h
 | .cell j k :: r, acc, ρ, hacc, h, o, ho => by
  simp only [wax] at h
  have more : ∀ p, (∃ mv, μ p = some mv) → ∀ o ∈ acc ++ [p], ∃ mv, μ o = some mv := fun p hp o ho => by
   rcases List.mem_append.1 ho with ho | ho
   ·exact hacc o ho
   ·rw [List.mem_singleton.1 ho]; exact hp
  split at h
  next p hp =>
   rw [wo] at hp
   obtain ⟨mv, hmv⟩ := hacc p (List.mem_of_getElem? hp)
   split at h
   next cs hg =>
    obtain ⟨y, hy, hob⟩ := hm.ob _ _ hmv
    rw [hg] at hy
    cases hy
    obtain ⟨b, vs, e, _, _, _, _, hv⟩ := hob
    split at h
    next q hq =>
     have := hv k _ hq
     generalize vs.getD k undef = z at this
     cases this with
     | box hb => exact wcl hm hfs has (more q ⟨_, hb⟩) h o ho
    next q hq =>
     have := hv k _ hq
     generalize vs.getD k undef = z at this
     cases this with
     | arr hb => exact wcl hm hfs has (more q ⟨_, hb⟩) h o ho
    next => cases h
   next => cases h
  next => cases h
 | .comp i j :: r, acc, ρ, hacc, h, o, ho => by
  simp only [wax] at h
  have more : ∀ p, (∃ mv, μ p = some mv) → ∀ o ∈ acc ++ [p], ∃ mv, μ o = some mv := fun p hp o ho => by
   rcases List.mem_append.1 ho with ho | ho
   ·exact hacc o ho
   ·rw [List.mem_singleton.1 ho]; exact hp
  split at h
  next cs hp =>
   rw [wo] at hp
   split at h
   next p hj => exact wcl hm hfs has (more p ((has _ (List.mem_of_getElem? hp)).2.2 cs j p rfl hj)) h o ho
   next => cases h
  next => cases h
 | .cap i j :: r, acc, ρ, hacc, h, o, ho => by
  simp only [wax] at h
  have more : ∀ p, (∃ mv, μ p = some mv) → ∀ o ∈ acc ++ [p], ∃ mv, μ o = some mv := fun p hp o ho => by
   rcases List.mem_append.1 ho with ho | ho
   ·exact hacc o ho
   ·rw [List.mem_singleton.1 ho]; exact hp
  split at h
  next f cs hp =>
   rw [wo] at hp
   split at h
   next p hj => exact wcl hm hfs has (more p (hfs _ (List.mem_of_getElem? hp) f cs j p rfl hj)) h o ho
   next => cases h
  next => cases h
theorem wazx {v : AV} {x : Value} (h : RelV P w lo μ S v x) : ∀ f cs j o, v = .fn f cs → nth cs j = some (.box o 0) → ∃ mv, μ o = some mv := fun f cs j o e hj => by
 cases h with
 | fn hl hv =>
  cases e
  have := hv j _ hj
  generalize Array.getD _ j undef = z at this
  cases this with
  | box h => exact ⟨_, h⟩
 | _ => cases e
theorem named {v : AV} {x : Value} (h : RelV P w lo μ S v x) : (∀ o k, v = .box o k → ∃ mv, μ o = some mv) ∧ (∀ o, v = .arr o → ∃ mv, μ o = some mv) ∧ ∀ cs j o, v = .agg cs → nth cs j = some (.arr o) → ∃ mv, μ o = some mv := by
 cases h with
 | box h => exact ⟨fun o k e => (by cases e; exact ⟨_, h⟩), fun o e => (by cases e), fun cs j o e => (by cases e)⟩
 | arr h => exact ⟨fun o k e => (by cases e), fun o e => (by cases e; exact ⟨_, h⟩), fun cs j o e => (by cases e)⟩
 | agg hl hv => exact ⟨fun o k e => (by cases e), fun o e => (by cases e), fun cs j o e hj => (by
   cases e
   have := hv j _ hj
   generalize Array.getD _ j undef = z at this
   cases this with
   | arr h => exact ⟨_, h⟩)⟩
 | _ => exact ⟨fun o k e => (by cases e), fun o e => (by cases e), fun cs j o e => (by cases e)⟩
theorem waic [Tabs] (hm : Mem P X lo g μ w) (hn : ρ.Nodup) (hρ : ∀ o ∈ ρ, ∃ mv, μ o = some mv) {Xc : Nat → Prop} (hX : ∀ b, Xc b → old w (wdm μ ρ) b) (hS : ∀ b, b < w.heap.size → SS X μ b → SS Xc (wdm μ ρ) b) :
  Mem P Xc (old w (wdm μ ρ)) (look (insOf ρ g ρ 64)) (wdm μ ρ) w := by
 have hL := wtn hm hn
 refine ⟨hX, fun b hb => hb.1, fun i mv h => ?_, fun i j mv mv' b h1 h2 h3 h4 => ?_, hm.tab.le hL.le⟩
 ·obtain ⟨o, hi, ho⟩ := wbx hn h
  obtain ⟨y, hy, hob⟩ := hm.ob o mv ho
  obtain ⟨k1, k2⟩ := wcd hi
  refine ⟨wyx ρ g y, ?_, ?_⟩
  ·have := wob (ρ := ρ) (k := 64) k2 hy
   rw [show 64 + (i - 64) = i by omega] at this
   exact this
  ·have hno : ∀ b, b ∈ mv.rs → ¬ old w (wdm μ ρ) b := fun b hb hol => hol.2 i mv h hb
   cases y with
   | arr e t l =>
    obtain ⟨⟨hhs, hrs⟩, hnl, xs, hown, hrep⟩ := hob
    exact ⟨⟨hhs, hrs⟩, fun b hb => hno b (by rw [hrs, hb]; simp), xs, hown, hrep.step fun b hb hs => ⟨hS b hb hs, rfl⟩⟩
   | txt e l =>
    obtain ⟨b, cap, cur, fr, rfl, h2, h3⟩ := hob
    exact ⟨b, cap, cur, fr, rfl, hno b (by simp), h3⟩
   | rows e e2 t l hh =>
    obtain ⟨hr, _⟩ := hob
    have hin : ∀ j, wcf (hh.map fun p => (p.1, (none : Option Nat))) j → wcf hh j := fun j hj i k hk => by
     subst hk
     exact hj i none rfl
    have hr' : RowsOK w lo (SS X μ) e e2 t l (wcf (hh.map fun p => (p.1, (none : Option Nat)))) mv mv.hs := ⟨hr.own, hr.top, hr.low, hr.slc, fun j x r hj hx hl => hr.row j x r (hin j hj) hx hl, fun j k x y b hj hk => hr.apart j k x y b (hin j hj) (hin k hk)⟩
    refine ⟨hr'.step (fun b hb hs => ⟨hS b hb hs, rfl⟩) (fun _ _ => rfl) hno, fun i d hd => ?_⟩
    cases hh <;> simp at hd
   | deep e t l => exact DeepOK.step hob (fun _ _ => rfl) hno
   | perm k e e2 t ix l => exact PermOK.step hob (fun b hb hs => ⟨hS b hb hs, rfl⟩) (fun _ _ => rfl) hno
   | spent => exact SpentOK.step hob (fun _ _ => rfl) hno
   | cells cs =>
    obtain ⟨b, vs, e, rfl, h2, h3, h4, h5⟩ := hob
    refine ⟨b, vs, e, rfl, hno b (by simp), h3, by simpa using h4, fun j u hu => ?_⟩
    rw [wo, List.getElem?_map] at hu
    cases hc : cs[j]? with
    | none => rw [hc] at hu; cases hu
    | some c =>
     rw [hc] at hu
     simp only [Option.map_some, Option.some.injEq] at hu
     subst hu
     exact waht hm hL hS (h5 j c (by rw [wo]; exact hc))
 ·obtain ⟨o, hi, ho⟩ := wbx hn h1
  obtain ⟨o', hi', ho'⟩ := wbx hn h2
  have := hm.dis o o' mv mv' b ho ho' h3 h4
  subst this
  rw [hi] at hi'
  cases hi'
  rfl
theorem waid [Tabs] (hE : wfe P E) (hm : Mem P X lo g μ w) {d : Nat} {h : AV} {args : List AV} {q : QR × List (Nat × Ob)} (hq : (wkj E g d h args).ev = some q) (hfree : ∀ p ∈ q.1.2, μ p.1 = none) {c : Call} {H : Operand}
  (ho : o.op = .call c) (hc : c.callee = .value H) (hH : RelV P w lo μ (SS X μ) h (a.eval H)) (hl : args.length = c.args.size) (ha : ∀ j v, nth args j = some v → RelV P w lo μ (SS X μ) v ((c.args.map a.eval).getD j undef)) :
  QOK P o a w (fun x w' => ∃ μ', NxU P X lo g μ w (q.1.2 ++ q.2) (wbk g (q.1.2 ++ q.2)) w' μ' ∧ RelV P w' lo μ' (SS X μ') q.1.1 x) := by
 have fin : ∀ {f : Nat} {vals : Array Value} {R : Value → World → Prop}, (execOp a.eval o).run P w = (callFunc f vals).run P w → CallR P f vals w R → (∀ x w', R x w' → ∃ μ', NxU P X lo g μ w (q.1.2 ++ q.2) (wbk g (q.1.2 ++ q.2)) w' μ' ∧ RelV P w' lo μ' (SS X μ') q.1.1 x) →
   QOK P o a w (fun x w' => ∃ μ', NxU P X lo g μ w (q.1.2 ++ q.2) (wbk g (q.1.2 ++ q.2)) w' μ' ∧ RelV P w' lo μ' (SS X μ') q.1.1 x) := by
  intro f vals R hex hcr hR K Q hK
  unfold Oper.wp
  rcases hcr with ⟨h1, h2⟩ | ⟨x, w', h1, h2⟩
  ·rw [hex, h1]
   refine h2.mono fun e w' ⟨x, hx', hres⟩ => ?_
   subst hx'
   exact hK x w' (hR x w' hres)
  ·rw [hex, h1]
   exact hK x w' (hR x w' h2)
 unfold wkj at hq
 split at hq
 ·rename_i f caps
  split at hq
  case h_2 => cases hq
  rename_i ρ hlend
  split at hq
  case isFalse => cases hq
  rename_i hchk
  simp only [Bool.and_eq_true, decide_eq_true_eq] at hchk
  have hn := hchk.1.2
  split at hq
  next cr hcr =>
   cases hH' : a.eval H with
   | func fn first xs =>
    rw [hH'] at hH
    cases hH with
    | fn hxl hx =>
     simp only [Tr.ev_c] at hq
     cases hx0 : cr.x with
     | none => rw [hx0] at hq; cases hq
     | some r =>
      rw [hx0] at hq
      simp only [Option.bind_some] at hq
      rw [Tr.ev_bind, cr.spok r, Option.bind_some] at hq
      obtain ⟨hc1, hq⟩ := ev_g hq
      simp only [Tr.ev_l, Option.some.injEq] at hq
      subst hq
      simp only [Bool.and_eq_true, Bool.or_eq_true, Bool.not_eq_true'] at hc1
      obtain ⟨hok, hbd⟩ := hc1
      have hρ : ∀ o ∈ ρ, ∃ mv, μ o = some mv := wcl hm (fun v hv => by
       obtain ⟨j, hj, e⟩ := List.getElem_of_mem hv
       exact wazx (ha j v (by rw [wo, List.getElem?_eq_getElem hj, e]))) (fun v hv => by
       rcases List.mem_append.1 hv with hv | hv
       ·obtain ⟨j, hj, e⟩ := List.getElem_of_mem hv
        exact named (ha j v (by rw [wo, List.getElem?_eq_getElem hj, e]))
       ·obtain ⟨j, hj, e⟩ := List.getElem_of_mem hv
        exact named (hx j v (by rw [wo, List.getElem?_eq_getElem hj, e]))) (fun _ h => by cases h) hlend
      have hL := wtn hm hn
      -- what the result may not touch
      obtain ⟨Xc, hXc, hX1, hX2, hargs, hcaps⟩ : ∃ Xc : Nat → Prop, (∀ b, Xc b → X b ∨ ∃ o mv, μ o = some mv ∧ wcw ρ o 64 = none ∧ b ∈ mv.rs) ∧ (∀ b, X b → Xc b) ∧
        (((cr.emb r).1.any wyz || (cr.emb r).2.any fun p => wjf p.2) = false ∨ ∀ o mv b, μ o = some mv → wcw ρ o 64 = none → b ∈ mv.rs → Xc b) ∧
        (∀ v ∈ args, wyy ρ v = false ∨ ∀ o mv b, μ o = some mv → wcw ρ o 64 = none → b ∈ mv.rs → ¬ Xc b) ∧ (∀ v ∈ caps, wes ρ g v = false ∨ ∀ o mv b, μ o = some mv → wcw ρ o 64 = none → b ∈ mv.rs → ¬ Xc b) := by
       rcases hbd with hb | hb
       ·simp only [Bool.or_eq_false_iff, List.any_eq_false] at hb
        exact ⟨fun b => X b ∨ ∃ o mv, μ o = some mv ∧ wcw ρ o 64 = none ∧ b ∈ mv.rs, fun b h => h, fun b h => .inl h, .inr fun o mv b h1 h2 h3 => .inr ⟨o, mv, h1, h2, h3⟩, fun v hv => .inl (by simpa using hb.1 v hv), fun v hv => .inl (by simpa using hb.2 v hv)⟩
       ·refine ⟨X, fun b h => .inl h, fun b h => h, .inl hb, fun v _ => .inr fun o mv b h1 _ h2 h3 => ?_, fun v _ => .inr fun o mv b h1 _ h2 h3 => ?_⟩
        ·exact (hm.lt h1 h2).1 (hm.hX b h3)
        ·exact (hm.lt h1 h2).1 (hm.hX b h3)
      have hXo : ∀ b, Xc b → old w (wdm μ ρ) b := fun b hb => (hXc b hb).elim (fun h => hL.le b (hm.hX b h)) fun ⟨o, mv, h1, h2, h3⟩ => hL.rest o mv b h1 h2 h3
      have hSS : ∀ b, b < w.heap.size → SS X μ b → SS Xc (wdm μ ρ) b := fun b hb hS => ⟨fun hx => (hXc b hx).elim hS.1 fun ⟨o, mv, h1, _, h2⟩ => hS.2 o mv h1 h2, fun i mv h hbm => by
       obtain ⟨o', _, h'⟩ := wbx hn h
       exact hS.2 o' mv h' hbm⟩
      have hR : ∀ o mv b, μ o = some mv → wcw ρ o 64 = none → b ∈ mv.rs → ¬ Xc b → SS Xc (wdm μ ρ) b := fun o mv b h1 h2 h3 h4 => ⟨h4, fun i mv' h hbm => (hL.rest o mv b h1 h2 h3).2 i mv' h hbm⟩
      have hcall := hE f _ _ cr hcr r hx0 w Xc (wdm μ ρ) (c.args.map a.eval ++ xs) hXo (waic hm hn hρ hXo hSS)
       (fun p hp => by
        obtain ⟨j, o', h1, h2⟩ := wkt hp
        rw [h2, wpk (wem hn h1)]
        rw [wo] at h1
        exact hρ o' (List.mem_of_getElem? h1))
       (by simp [hl, hxl])
       (fun j v hv => by
        rw [wo] at hv
        by_cases hj : j < args.length
        ·rw [List.getElem?_append_left (by simpa using hj), List.getElem?_map] at hv
         cases hu : args[j]? with
         | none => rw [hu] at hv; cases hv
         | some u =>
          rw [hu] at hv
          simp only [Option.map_some, Option.some.injEq] at hv
          subst hv
          have := wahs hm hL hSS ((hargs u (List.mem_of_getElem? hu)).imp id fun h o mv b h1 h2 h3 => hR o mv b h1 h2 h3 (h o mv b h1 h2 h3)) (ha j u (by rw [wo]; exact hu))
          have hjs : j < (c.args.map a.eval).size := by simpa [← hl] using hj
          rwa [Array.getD_eq_getD_getElem?, Array.getElem?_append_left hjs, ← Array.getD_eq_getD_getElem?]
        ·rw [List.getElem?_append_right (by simp; omega), List.length_map, List.getElem?_map] at hv
         cases hu : caps[j - args.length]? with
         | none => rw [hu] at hv; cases hv
         | some u =>
          rw [hu] at hv
          simp only [Option.map_some, Option.some.injEq] at hv
          subst hv
          have := wqw (p := false) hm hL hSS (fun e => by cases e) ((hcaps u (List.mem_of_getElem? hu)).imp id fun h o mv b h1 h2 h3 => hR o mv b h1 h2 h3 (h o mv b h1 h2 h3)) (hx _ u (by rw [wo]; exact hu))
          have hjs : (c.args.map a.eval).size ≤ j := by simp [← hl]; omega
          rwa [Array.getD_eq_getD_getElem?, Array.getElem?_append_right hjs, ← Array.getD_eq_getD_getElem?, show j - (c.args.map a.eval).size = j - args.length by simp [hl]])
      refine fin (f := f) (vals := c.args.map a.eval ++ xs) (by simp [execOp, ho, resolve, hc, hH', Deferred.ofValue, invoke]) hcall fun x w' hres => ?_
      exact waia hm hn hX1 hX2 hok hres hfree hρ
   | _ => rw [hH'] at hH; cases hH
  next => cases hq
 ·rename_i ts r p
  split at hq
  case isFalse => cases hq
  split at hq
  next hl' hhl =>
   simp only [Tr.ev_c] at hq
   cases hp : p hl' with
   | none => rw [hp] at hq; cases hq
   | some y =>
    rw [hp] at hq
    simp only [Option.bind_some, Tr.ev_l, Option.some.injEq] at hq
    subst hq
    cases hH with
    | clo hclo =>
     obtain ⟨hs, f, fs, xs, he, hcl⟩ := hclo
     have hL := wtn (ρ := []) hm (by simp)
     have hrel := wvs (P := P) (w := w) (lo := old w (wdm μ [])) (μ := wdm μ []) (S := fun _ => True) hhl (ys := (c.args.map a.eval).toList) (by simp [hl]) (fun j v hv => by
      rw [wo, List.getElem?_map] at hv
      cases hu : args[j]? with
      | none => rw [hu] at hv; cases hv
      | some u =>
       rw [hu] at hv
       simp only [Option.map_some, Option.some.injEq] at hv
       subst hv
       have := wvo (S' := fun _ => True) hm hL (fun _ _ _ => trivial) (.inr fun _ _ _ _ _ _ => trivial) (ha j u (by rw [wo]; exact hu))
       simpa using this)
     have hcr := hcl w hm.hlo (fun _ _ => rfl) hl' _ hrel y hp
     simp only [Array.toArray_toList] at hcr
     refine fin (f := f) (vals := fs ++ c.args.map a.eval ++ xs) (by simp [execOp, ho, resolve, hc, he, Deferred.ofValue, invoke]) hcr fun x w' ⟨hres, hb⟩ => ?_
     refine NxU.of (q := (inj r y, [])) hm (fun p hp => by cases hp) ⟨μ, fun _ _ h => h, fun _ _ h => .inl h, hb, fun g' _ h2 => ?_, ?_⟩
     ·have hw := Mem.grow (X := X) (μ := μ) hb (μ' := μ) fun _ _ h => .inl h
      exact ⟨hm.hX, fun b hb' => Nat.lt_of_lt_of_le (hm.hlo b hb') hb.size, fun o mv ho => by
       obtain ⟨z, hz, hob⟩ := hm.ob o mv ho
       exact ⟨z, by rw [h2 o mv ho]; exact hz, hob.step hm.hlo (fun _ _ h => h) hw (fun b hlt => hb.block b (hm.hlo b hlt)) fun b hrb => hb.block b (hm.lt ho hrb).2⟩, hm.dis, hm.tab.step fun b hb' => hb.block b (hm.hlo b hb')⟩
     ·simp only
      rw [wacb hs]
      exact .dat hs (hres.step fun b _ hb => ⟨⟨fun hx => absurd (hm.hlo b (hm.hX b hx)) (by omega), fun o mv ho hbr => absurd (hm.lt ho hbr).2 (by omega)⟩, rfl⟩)
  next => cases hq
 ·cases hq
end
end Go.Proofs.Ytnagpmhaddfgmaa
