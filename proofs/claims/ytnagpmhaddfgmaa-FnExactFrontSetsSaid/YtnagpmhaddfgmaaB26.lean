/-
 Functions: the evaluator's answer on a function's code is an entry of the table.
-/
import Derived.Test.YtnagpmhaddfgmaaB25
namespace Go.Proofs.Ytnagpmhaddfgmaa
open Go.RowKit (Below)
section
variable {P : Program} {E : Env} {tt : Nat → TD}
theorem whl {f : FuncId} {fn : Func} {c : Code} (hf : P.funcs[f]? = some fn) (hname : (fn.name == "runtime.NumGoroutine") = false) (hb : fn.body = some c) (args : Array Value) (w : World) :
  (callFunc f args).run P w = .ok (.enter f args) w := by
 have h1 : fn.name ≠ "runtime.NumGoroutine" := by simpa using hname
 simp [callFunc, hf, h1, hb]
def pinK (l : List (Nat × Nat × Nat)) : List Nat := l.map (·.1)
def whm (x : Value) : Array Value := match x with
 | .func _ _ xs => xs
 | x => x.cells
def pinV (c : Nat) (x : Value) : Value := match c with
 | 0 => x
 | j + 1 => (whm x).getD j undef
theorem wwl {l : List (Nat × Nat × Nat)} {q : Nat × Nat × Nat} (h : q ∈ l) : q.1 ∈ pinK l := List.mem_map.2 ⟨q, h, rfl⟩
theorem wadl {w : World} {lo : Nat → Prop} {μ : Nat → Option MV} {S : Nat → Prop} {v : AV} {c o : Nat} (hp : wth v c o = true) {x : Value} (h : RelV P w lo μ S v x) : ∃ rs hs, μ o = some ⟨pinV c x, rs, hs⟩ := by
 unfold wth at hp
 split at hp
 ·split at hp
  ·have := Nat.eq_of_beq_eq_true hp
   subst this
   cases h with
   | box h => exact ⟨_, _, h⟩
  ·have := Nat.eq_of_beq_eq_true hp
   subst this
   cases h with
   | arr h => exact ⟨_, _, h⟩
  ·cases hp
 next j =>
  split at hp
  next cs =>
   split at hp
   next p hj =>
    have := Nat.eq_of_beq_eq_true hp
    subst this
    cases h with
    | agg hl hv =>
     have := hv j _ hj
     show ∃ rs hs, μ p = some ⟨Array.getD (whm _) j undef, rs, hs⟩
     simp only [whm, Value.cells]
     generalize Array.getD _ j undef = z at this
     cases this with
     | arr h => exact ⟨_, _, h⟩
   next => cases hp
  next f cs =>
   split at hp
   next p hj =>
    have := Nat.eq_of_beq_eq_true hp
    subst this
    cases h with
    | fn hl hv =>
     have := hv j _ hj
     show ∃ rs hs, μ p = some ⟨Array.getD (whm _) j undef, rs, hs⟩
     simp only [whm]
     generalize Array.getD _ j undef = z at this
     cases this with
     | box h => exact ⟨_, _, h⟩
   next => cases hp
  next => cases hp
structure FnOK (P : Program) (E : Env) (tt : Nat → TD) (f : Nat) (d : FD) (rt : RetK) (fz : Nat → Nat → List Nat) (l : List (Nat × LD)) (fn : Func) (c : Code) (T : d.T → Tr d.R) (rho : d.R → rt.T) : Prop where
 at_ : P.funcs[f]? = some fn
 name : (fn.name == "runtime.NumGoroutine") = false
 body : fn.body = some c
 res : fn.results = rt.res.toArray
 ok : rt.ok = true
 arity : ∀ x : d.T, (val d.A x.1).length ≤ fn.ntmps
 pin : ∀ x : d.T, (rt.pins.all fun q => wth ((entry d.A d.ins x).slot q.1) q.2.1 q.2.2) = true
 chk : wba fz (pinK rt.pins) fn.ntmps c = true
 loops : wz E tt fz l c
 run : ∀ x : d.T, ((wcc E tt fz (wai l) c (entry d.A d.ins x)).map (wti tt rt)).ev = ((T x).map fun r => some (rho r)).ev
 F : ∀ x, d.F x = (T x).ev
 emb : ∀ r, d.emb r = (val rt.sh (rho r).1, wew rt.obs (rho r).2 ++ rt.gone.map fun o => (o, Ob.spent))
 gone : (rt.gone.all fun o => (Nat.ble 64 o && (d.ins.map (·.1)).any (Nat.beq o)) && !(rt.obs.map (·.1)).any (Nat.beq o)) = true := by rfl
def wjr (μi μ : Nat → Option MV) (g : List Nat) (o : Nat) : Option MV := if g.any (Nat.beq o) = true then (μi o).map fun mv => ⟨mv.v, [], []⟩ else μ o
theorem wadm {μi μ : Nat → Option MV} {g : List Nat} {o : Nat} (h : ¬ g.any (Nat.beq o) = true) : wjr μi μ g o = μ o := by unfold wjr; rw [if_neg h]
theorem wfm {μi μ : Nat → Option MV} {g : List Nat} {o : Nat} {mv : MV} (h : wjr μi μ g o = some mv) : (g.any (Nat.beq o) = true ∧ ∃ mv0, μi o = some mv0 ∧ mv = ⟨mv0.v, [], []⟩) ∨ (¬ g.any (Nat.beq o) = true ∧ μ o = some mv) := by
 unfold wjr at h
 split at h
 next e =>
  obtain ⟨mv0, h1, h2⟩ := Option.map_eq_some_iff.1 h
  exact .inl ⟨e, mv0, h1, h2.symm⟩
 next e => exact .inr ⟨e, h⟩
theorem wgh {g : List Nat} {o : Nat} : g.any (Nat.beq o) = true ↔ o ∈ g := by
 rw [List.any_eq_true]
 exact ⟨fun ⟨x, hx, e⟩ => by rw [Nat.eq_of_beq_eq_true e]; exact hx, fun h => ⟨o, h, Nat.beq_refl o⟩⟩
theorem wadn {g : List Nat} {o : Nat} (h : o ∈ g) : look (g.map fun o => (o, Ob.spent)) o = some .spent := by
 induction g with
 | nil => cases h
 | cons x g ih =>
  simp only [List.map_cons, look]
  by_cases e : x = o
  ·subst e; rw [Nat.beq_refl]
  ·rw [wal e]
   exact ih ((List.mem_cons.1 h).resolve_left fun e' => e e'.symm)
theorem wamt [Tabs] (hT : waj P tt) {d : FD} {rt : RetK} {fn : Func} {x : d.T} {w : World} {X : Nat → Prop} {μi : Nat → Option MV} {vals : Array Value} (hins : ∀ p ∈ wew d.ins x.2, ∃ mv, μi p.1 = some mv)
  (hres : fn.results = rt.res.toArray) (hk : rt.ok = true) {pk : List Nat} (hpk : pk = pinK rt.pins) (hpin : (rt.pins.all fun q => wth ((entry d.A d.ins x).slot q.1) q.2.1 q.2.2) = true)
  (hg0 : (rt.gone.all fun o => (Nat.ble 64 o && (d.ins.map (·.1)).any (Nat.beq o)) && !(rt.obs.map (·.1)).any (Nat.beq o)) = true)
  (hrel : Rel P X (old w μi) ⟨fn.ntmps, pk, fun i => vals.getD i undef⟩ w (entry d.A d.ins x) { tmps := vals ++ Array.replicate (fn.ntmps - vals.size) undef, defers := [] } w μi)
  {res : List AV × List (Nat × Ob)} {t : rt.T} (hemb : res = (val rt.sh t.1, wew rt.obs t.2 ++ rt.gone.map fun o => (o, Ob.spent)))
  {s : St} {a : Act} {w' : World} {μ : Nat → Option MV} (hr : Rel P X (old w μi) ⟨fn.ntmps, pk, fun i => vals.getD i undef⟩ w s a w' μ) (ht : rt.at tt s = some t) :
  a.defers = [] ∧ ∃ v, (results fn a.tmps).run P w' = .ok v w' ∧ ∃ x, Ending.returned v = .returned x ∧ wqv P X (old w μi) w w' μi res x := by
 subst hpk
 obtain ⟨μ1, h1⟩ := Rel.acts rt.acts hr
 unfold RetK.at at ht
 split at ht
 case h_2 => cases ht
 rename_i hpins
 split at ht
 next vs hvs =>
  split at ht
  next x' hx =>
   split at ht
   next y hy =>
    simp only [Option.some.injEq] at ht
    subst ht
    have hok := hk
    simp only [RetK.ok, Bool.and_eq_true, List.all_eq_true] at hok
    obtain ⟨ys, hys⟩ : ∃ ys, RL (RelV P w' (old w μi) μ1 (SS X μ1)) vs ys ∧ (results fn a.tmps).run P w' = .ok (wom ys) w' := by
     have : ∀ F : ResultVar → Sem Value, (∀ t, F (.tmp t) = pure (a.tmps.getD t undef)) → (∀ r ty, F (.cell r ty) = (do loadVar ty (← asAddr (a.tmps.getD r undef)))) → ∃ ys, (List.mapM F rt.res).run P w' = .ok ys w' ∧ RL (RelV P w' (old w μi) μ1 (SS X μ1)) vs ys := fun F k1 k2 => wbac hT h1 F k1 k2 hvs
     obtain ⟨ys, k1, k2⟩ := this (fun | .tmp t => pure (a.tmps.getD t undef) | .cell r ty => do loadVar ty (← asAddr (a.tmps.getD r undef))) (fun _ => rfl) fun _ _ => rfl
     refine ⟨ys, k2, wub hres fun F k3 k4 => ?_⟩
     have : F = (fun | .tmp t => pure (a.tmps.getD t undef) | .cell r ty => do loadVar ty (← asAddr (a.tmps.getD r undef))) := by
      funext r
      cases r with
      | tmp t => exact k3 t
      | cell r ty => exact k4 r ty
     rw [this]
     exact k1
    have hgone : ∀ o ∈ rt.gone, (64 ≤ o ∧ ∃ p ∈ d.ins, p.1 = o) ∧ o ∉ rt.obs.map (·.1) := fun o ho => by
     have := List.all_eq_true.1 hg0 o ho
     simp only [Bool.and_eq_true, Bool.not_eq_true'] at this
     obtain ⟨⟨g1, g2⟩, g3⟩ := this
     obtain ⟨p, hp, e⟩ := List.mem_map.1 (wgh.1 g2)
     exact ⟨⟨Nat.le_of_ble_eq_true g1, p, hp, e⟩, fun hm => by rw [wgh.2 hm] at g3; cases g3⟩
    have hids : ∀ o ∈ rt.obs.map (·.1), ¬ rt.gone.any (Nat.beq o) = true := fun o ho hg => (hgone o (wgh.1 hg)).2 ho
    have hμ : ∀ o ∈ rt.obs.map (·.1), ∀ mv, μ1 o = some mv → wjr μi (only μ1 (rt.obs.map (·.1))) rt.gone o = some mv := fun o ho mv h => by rw [wadm (hids o ho)]; exact wadg ho h
    have hSS : ∀ b, SS X μ1 b → SS X (wjr μi (only μ1 (rt.obs.map (·.1))) rt.gone) b := fun b hs => ⟨hs.1, fun o mv ho hb => by
     rcases wfm ho with ⟨_, mv0, _, rfl⟩ | ⟨_, ho⟩
     ·cases hb
     ·exact (wua (ids := rt.obs.map (·.1)) hs).2 o mv ho hb⟩
    refine ⟨h1.df, _, hys.2, _, rfl, h1.bel, wjr μi (only μ1 (rt.obs.map (·.1))) rt.gone, ?_, fun o mv ho => ?_, fun p hp hge => ?_, ?_⟩
    ·rw [hemb]
     refine ⟨h1.mem.hX, h1.mem.hlo, fun o mv ho => ?_, fun o p mv mv' b h2 h3 hb1 hb2 => ?_, h1.mem.tab⟩
     ·rcases wfm ho with ⟨hg, mv0, hg0, rfl⟩ | ⟨_, ho⟩
      ·refine ⟨.spent, ?_, rfl, fun b hb => by cases hb⟩
       rw [weo]
       have hn := (hgone o (wgh.1 hg)).2
       cases hl : look (wew rt.obs y) o with
       | some z => exact absurd (by rw [← wfl (y := y)]; exact List.mem_map.2 ⟨_, wbw hl, rfl⟩) hn
       | none => exact wadn (wgh.1 hg)
      ·obtain ⟨h2, h3⟩ := wdz ho
       obtain ⟨os, x', z, k1, k2, k3, k4⟩ := whj hy o h2
       obtain ⟨x'', k5, k6⟩ := h1.mem.ob o mv h3
       rw [k5] at k2
       cases k2
       exact ⟨os.mk z, by rw [weo, k1], wadh hμ hSS (hok.1.2 _ k4) k3 k6⟩
     ·rcases wfm h2 with ⟨_, mv0, _, rfl⟩ | ⟨_, h2⟩
      ·cases hb1
      ·rcases wfm h3 with ⟨_, mv0, _, rfl⟩ | ⟨_, h3⟩
       ·cases hb2
       ·exact h1.mem.dis o p mv mv' b (wdz h2).2 (wdz h3).2 hb1 hb2
    ·rw [hemb]
     rcases wfm ho with ⟨hg, _⟩ | ⟨_, ho⟩
     ·exact ⟨(o, .spent), List.mem_append_right _ (List.mem_map.2 ⟨o, wgh.1 hg, rfl⟩), rfl⟩
     ·obtain ⟨h2, _⟩ := wdz ho
      obtain ⟨os, x', z, k1, _⟩ := whj hy o h2
      exact ⟨_, List.mem_append_left _ (wbw k1), rfl⟩
    ·rw [hemb] at hp
     rcases List.mem_append.1 hp with hp | hp
     case inr =>
      obtain ⟨o, ho, rfl⟩ := List.mem_map.1 hp
      obtain ⟨⟨_, q, hq, e⟩, _⟩ := hgone o ho
      have hqi : o ∈ (wew d.ins x.2).map (·.1) := by rw [wfl, ← e]; exact List.mem_map.2 ⟨q, hq, rfl⟩
      obtain ⟨p', hp', e'⟩ := List.mem_map.1 hqi
      obtain ⟨mv, hmv⟩ := hins p' hp'
      rw [e'] at hmv
      refine ⟨mv, [], [], hmv, ?_⟩
      show wjr μi (only μ1 (rt.obs.map (·.1))) rt.gone o = _
      unfold wjr
      rw [if_pos (wgh.2 ho), hmv]
      rfl
     have hpid : p.1 ∈ rt.obs.map (·.1) := by
      rw [← wfl (y := y)]
      exact List.mem_map.2 ⟨p, hp, rfl⟩
     obtain ⟨po, hpo, e⟩ := List.mem_map.1 hpid
     have hpp := hok.2 po hpo
     rw [e] at hpp
     simp only [Bool.or_eq_true, List.any_eq_true] at hpp
     rcases hpp with hpp | ⟨q, hq, hqe⟩
     ·have := Nat.le_of_ble_eq_true hpp
      omega
     ·have hqe' := Nat.eq_of_beq_eq_true hqe
      obtain ⟨rs1, hs1, g1⟩ := wadl (List.all_eq_true.1 hpins q hq) (h1.fr q.1)
      obtain ⟨rs0, hs0, g0⟩ := wadl (List.all_eq_true.1 hpin q hq) (hrel.fr q.1)
      have e1 := h1.sz.v q.1 (wwl hq)
      have e0 := hrel.sz.v q.1 (wwl hq)
      rw [e1, hqe'] at g1
      rw [e0, hqe'] at g0
      exact ⟨_, rs1, hs1, g0, hμ _ hpid _ g1⟩
    ·rw [hemb]
     obtain ⟨y1, y2, he, k1, k2⟩ := wlk (CloAll.none (P := P) (w := w') (lo := old w μi) (μ := μ1) (S := SS X μ1)) hx hys.1
     cases y2 with
     | cons _ _ => exact k2.elim
     | nil =>
      rw [List.append_nil] at he
      subst he
      have hrl := wdi (S' := SS X (wjr μi (only μ1 (rt.obs.map (·.1))) rt.gone)) hμ hok.1.1 hSS k1
      show RelR P w' (old w μi) (wjr μi (only μ1 (rt.obs.map (·.1))) rt.gone) (SS X (wjr μi (only μ1 (rt.obs.map (·.1))) rt.gone)) (val rt.sh x') (wom ys)
      have hlen := hrl.to.1
      match ys, hrl, hlen with
      | [], hrl, hlen =>
       refine .inr ⟨by rw [hlen]; simp, .tup (by rw [hlen]; simp) fun j v hj => ?_⟩
       rw [List.eq_nil_of_length_eq_zero hlen] at hj
       simp [nth] at hj
      | [y], hrl, hlen =>
       generalize val rt.sh x' = vs at hrl hlen
       match vs, hrl, hlen with
       | [v], hrl, _ => exact .inl ⟨v, rfl, hrl.1⟩
      | y :: z :: ys, hrl, hlen =>
       obtain ⟨k1, k2⟩ := hrl.to
       exact .inr ⟨by rw [hlen]; simp, .tup (by rw [hlen]; simp) fun j v hj => by simpa using k2 j v hj⟩
   next => cases ht
  next => cases ht
 next => cases ht
theorem wad [Tabs] (hm : P.follows .mixedOrders = true) (hE : wfe P E) (hT : waj P tt) {f : Nat} {d : FD} {rt : RetK} {fz : Nat → Nat → List Nat} {l : List (Nat × LD)} {fn : Func} {c : Code} {T : d.T → Tr d.R} {rho : d.R → rt.T}
  (h : FnOK P E tt f d rt fz l fn c T rho) : war P (f, d) := by
 intro x r hr w X μi vals hX hmem hins hsz hv
 refine .inl ⟨whl h.at_ h.name h.body vals w, calls_of_wp h.at_ h.body ?_⟩
 rw [h.F] at hr
 have hrun := h.run x
 rw [Tr.ev_map, Tr.ev_map, hr] at hrun
 obtain ⟨o, h1, h2⟩ := Option.map_eq_some_iff.1 hrun
 have har := h.arity x
 have hsz' : (val d.A x.1).length = vals.size := hsz
 have hN : (vals ++ Array.replicate (fn.ntmps - vals.size) undef).size = fn.ntmps := by
  simp only [Array.size_append, Array.size_replicate]
  omega
 have hrel : Rel P X (old w μi) ⟨fn.ntmps, pinK rt.pins, fun i => vals.getD i undef⟩ w (entry d.A d.ins x) { tmps := vals ++ Array.replicate (fn.ntmps - vals.size) undef, defers := [] } w μi := by
  refine ⟨hmem, fun i => ?_, Kept.refl _ _, rfl, hN, fun i _ => ?_⟩
  ·refine RL.zip (fun _ => .undef) (g := fun i => (vals ++ Array.replicate (fn.ntmps - vals.size) undef).getD i undef) i (RL.of (by simp) fun j v hj => ?_)
   have hlt : j < (val d.A x.1).length := by
    rw [wo] at hj
    exact (List.getElem?_eq_some_iff.1 hj).1
   have := hv j v hj
   rw [List.getD_eq_getElem?_getD, List.getElem?_map, List.getElem?_range hlt]
   simp only [Option.map_some, Option.getD_some]
   rw [Array.getD_eq_getD_getElem?, Array.getElem?_append_left (by omega), ← Array.getD_eq_getD_getElem?]
   exact this
  ·by_cases hlt : i < vals.size
   ·simp only
    rw [Array.getD_eq_getD_getElem?, Array.getElem?_append_left hlt, ← Array.getD_eq_getD_getElem?]
   ·simp only
    rw [Array.getD_eq_getD_getElem?, Array.getElem?_append_right (by omega), Array.getElem?_replicate, Array.getD_eq_getD_getElem?, Array.getElem?_eq_none (by omega)]
    split <;> rfl
 have hloops := wcu (X := X) (lo := old w μi) (w0 := w) (N := ⟨fn.ntmps, pinK rt.pins, fun i => vals.getD i undef⟩) hm hE hT c h.loops h.chk
 have hres : ∀ {s : St} {a : Act} {w' : World} {μ : Nat → Option MV}, Rel P X (old w μi) ⟨fn.ntmps, pinK rt.pins, fun i => vals.getD i undef⟩ w s a w' μ → rt.at tt s = some (rho r) → a.defers = [] ∧ ∃ v, (results fn a.tmps).run P w' = .ok v w' ∧ ∃ x, Ending.returned v = .returned x ∧ wqv P X (old w μi) w w' μi (d.emb r) x := fun hr ht => wamt hT hins h.res h.ok rfl (h.pin x) h.gone hrel (h.emb r) hr ht
 refine Code.wp_mono (fun e a w' hp => ?_) (wer hm hE hT c hloops h.chk _ _ w _ o hrel h1)
 cases e with
 | normal =>
  obtain ⟨s, μ, rfl, hr⟩ := hp
  exact hres hr h2
 | ret =>
  obtain ⟨s, μ, rfl, hr⟩ := hp
  exact hres hr h2
 | exit i =>
  obtain ⟨s, μ, rfl, _⟩ := hp
  cases h2
 | _ => exact hp.elim
structure FnOK2 (P : Program) (E : Env) (tt : Nat → TD) (f : Nat) (d : FD) (rt rt2 : RetK) (fz : Nat → Nat → List Nat) (l : List (Nat × LD)) (fn : Func) (c : Code) (T : d.T → Tr d.R) (rho : d.R → rt.T ⊕ rt2.T) : Prop where
 at_ : P.funcs[f]? = some fn
 name : (fn.name == "runtime.NumGoroutine") = false
 body : fn.body = some c
 res : fn.results = rt.res.toArray
 ok : rt.ok = true
 arity : ∀ x : d.T, (val d.A x.1).length ≤ fn.ntmps
 pin : ∀ x : d.T, (rt.pins.all fun q => wth ((entry d.A d.ins x).slot q.1) q.2.1 q.2.2) = true
 chk : wba fz (pinK rt.pins) fn.ntmps c = true
 loops : wz E tt fz l c
 run : ∀ x : d.T, ((wcc E tt fz (wai l) c (entry d.A d.ins x)).map (wahj tt rt rt2)).ev = ((T x).map fun r => some (rho r)).ev
 F : ∀ x, d.F x = (T x).ev
 emb : ∀ r, d.emb r = match rho r with
  | .inl t => (val rt.sh t.1, wew rt.obs t.2 ++ rt.gone.map fun o => (o, Ob.spent))
  | .inr t => (val rt2.sh t.1, wew rt2.obs t.2 ++ rt2.gone.map fun o => (o, Ob.spent))
 ok2 : rt2.ok = true
 res2 : rt2.res = rt.res
 pins2 : rt2.pins = rt.pins
 gone2 : (rt2.gone.all fun o => (Nat.ble 64 o && (d.ins.map (·.1)).any (Nat.beq o)) && !(rt2.obs.map (·.1)).any (Nat.beq o)) = true
 gone : (rt.gone.all fun o => (Nat.ble 64 o && (d.ins.map (·.1)).any (Nat.beq o)) && !(rt.obs.map (·.1)).any (Nat.beq o)) = true := by rfl
end
section
variable {P : Program} {tt : Nat → TD}
def noZ : Nat → Nat → List Nat := fun _ _ => []
theorem wbf (d : FD) (E : Env) (rt : RetK) (fz : Nat → Nat → List Nat) (l : List (Nat × LD)) (c : Code) {f : Nat} {fn : Func} (T : d.T → Tr d.R) (rho : d.R → rt.T) (at_ : P.funcs[f]? = some fn) (loops : wz E tt fz l c)
  (run : ∀ x : d.T, ((wcc E tt fz (wai l) c (entry d.A d.ins x)).map (wti tt rt)).ev = ((T x).map fun r => some (rho r)).ev) (F : ∀ x, d.F x = (T x).ev := by exact fun _ => rfl) (emb : ∀ r, d.emb r = (val rt.sh (rho r).1, wew rt.obs (rho r).2 ++ rt.gone.map fun o => (o, Ob.spent)) := by exact fun _ => rfl)
  (name : (fn.name == "runtime.NumGoroutine") = false := by kernel_rfl) (body : fn.body = some c := by kernel_rfl) (res : fn.results = rt.res.toArray := by kernel_rfl) (ok : rt.ok = true := by kernel_rfl)
  (arity : ∀ x : d.T, (val d.A x.1).length ≤ fn.ntmps := by exact fun _ => Nat.le_of_ble_eq_true (by kernel_rfl)) (pin : ∀ x : d.T, (rt.pins.all fun q => wth ((entry d.A d.ins x).slot q.1) q.2.1 q.2.2) = true := by exact fun _ => by kernel_rfl)
  (chk : wba fz (pinK rt.pins) fn.ntmps c = true := by kernel_rfl) (gone : (rt.gone.all fun o => (Nat.ble 64 o && (d.ins.map (·.1)).any (Nat.beq o)) && !(rt.obs.map (·.1)).any (Nat.beq o)) = true := by rfl) : FnOK P E tt f d rt fz l fn c T rho :=
 ⟨at_, name, body, res, ok, arity, pin, chk, loops, run, F, emb, gone⟩
theorem wcg {E : Env} {fz : Nat → Nat → List Nat} {orc : Orc} {b : Code} {d : LD} (eta : ∀ t, d.join (d.sk t) (d.sv t) = t) (step : ∀ k v, ((wcc E tt fz orc b (wbj d.head.S (d.join k v))).map (wie (some d.head) d.exits d.rets)).ev = ((d.step k v).bind (d.next k)).ev)
  (ok : d.head.S.ok = true := by kernel_rfl) (oke : d.exits.all (fun p => p.2.S.ok) = true := by kernel_rfl) (okr : d.rets.S.ok = true := by kernel_rfl) : d.OK E tt fz orc b := ⟨ok, oke, okr, eta, step⟩
def wab (c : Code) (n : Nat) : Code := ((wbg c).find? fun p => Nat.beq p.1 n).elim .skip (·.2)
def wwm (E : Env) (tt : Nat → TD) (fz : Nat → Nat → List Nat) (l : List (Nat × LD)) (c : Code) (L : List (Nat × LD)) : Prop := ∀ q ∈ L, q.2.OK E tt fz (wai l) (wab c q.1)
theorem wwn {α : Type} : ∀ {l : List (Nat × α)} {p : Nat × α}, (l.map (·.1)).Nodup → p ∈ l → (l.find? fun q => Nat.beq q.1 p.1) = some p
 | q :: l, p, hn, hp => by
  rw [List.map_cons, List.nodup_cons] at hn
  rw [List.find?_cons]
  rcases List.mem_cons.1 hp with rfl | hp
  ·rw [Nat.beq_refl]
  ·have hne : q.1 ≠ p.1 := fun e => hn.1 (List.mem_map.2 ⟨p, hp, e.symm⟩)
   rw [wal hne]
   exact wwn hn.2 hp
theorem wbd {E : Env} {fz : Nat → Nat → List Nat} {l : List (Nat × LD)} {c : Code} (h : decide ((wbg c).map (·.1)).Nodup = true) (H : wwm E tt fz l c l) : wz E tt fz l c := fun p hp q hq e => by
 have h1 := H q hq
 rw [e] at h1
 unfold wab at h1
 rw [wwn (of_decide_eq_true h) hp] at h1
 exact h1
theorem lpN {E : Env} {fz : Nat → Nat → List Nat} {l : List (Nat × LD)} {c : Code} : wwm E tt fz l c [] := fun _ h => absurd h List.not_mem_nil
theorem lpC {E : Env} {fz : Nat → Nat → List Nat} {l : List (Nat × LD)} {c : Code} {n : Nat} {L : List (Nat × LD)} {D : LD} (h : D.OK E tt fz (wai l) (wab c n)) (H : wwm E tt fz l c L) : wwm E tt fz l c ((n, D) :: L) := List.forall_mem_cons.2 ⟨h, H⟩
theorem fdN [Tabs] : ∀ p ∈ ([] : List (Nat × FD)), war P p := fun _ h => absurd h List.not_mem_nil
theorem fdC [Tabs] {a : Nat × FD} {l : List (Nat × FD)} (h : war P a) (H : ∀ p ∈ l, war P p) : ∀ p ∈ a :: l, war P p := List.forall_mem_cons.2 ⟨h, H⟩
end
theorem wac [Tabs] {V R : Type} (f : V → Option (V ⊕ R)) (v : V) : iter f v = match f v with
  | some (.inl v') => iter f v'
  | some (.inr r) => some r
  | none => none := by
 cases hf : f v with
 | none =>
  cases h : iter f v with
  | none => rfl
  | some r =>
   obtain ⟨n, hn⟩ := wdq.1 h
   cases n with
   | zero => cases hn
   | succ n => simp [wfz, hf] at hn
 | some x =>
  cases x with
  | inr r => exact wdq.2 ⟨1, by simp [wfz, hf]⟩
  | inl v' =>
   simp only
   cases h : iter f v' with
   | some r =>
    obtain ⟨n, hn⟩ := wdq.1 h
    exact wdq.2 ⟨n + 1, by simp [wfz, hf, hn]⟩
   | none =>
    cases h' : iter f v with
    | none => rfl
    | some r =>
     obtain ⟨n, hn⟩ := wdq.1 h'
     cases n with
     | zero => cases hn
     | succ n =>
      simp only [wfz, hf] at hn
      rw [wdq.2 ⟨n, hn⟩] at h
      cases h
end Go.Proofs.Ytnagpmhaddfgmaa
