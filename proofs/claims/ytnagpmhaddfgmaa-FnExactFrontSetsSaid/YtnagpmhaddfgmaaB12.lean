/-
 All operations that write nothing.
-/
import Derived.ChangeKeysEq
import Derived.Test.YtnagpmhaddfgmaaB11
import Derived.Laws.BytesString
import Derived.Lib.ConvBytes
import Derived.Laws.StructEq
import Derived.Laws.OwnMore
namespace Go.Proofs.Ytnagpmhaddfgmaa
open Go.RowKit (Below)
section
variable {P : Program} {tt : Nat → TD} {w : World} {lo : Nat → Prop} {μ : Nat → Option MV} {S : Nat → Prop} {X : Nat → Prop} {g : Nat → Option Ob} {o : Oper} {a : Act} {E : Env}
theorem wfu (hT : waj P tt) {ty i ft off : Nat} (h : whv tt ty i = some (ft, off)) : ∃ fields f, P.underlying ty = some (.struct fields) ∧ fields[i]? = some f ∧ f.type = ft ∧ f.offset = off ∧ ∃ t, wgv P ft t := by
 have hd := hT ty
 unfold whv at h
 split at h
 next t fs he =>
  rw [he] at hd
  obtain ⟨fields, hu, hf, _⟩ := hd
  have key : ∀ (fl : List Go.Field) (fs : List (Nat × Ty)) (o i : Nat), wft P fl fs o → wdj fs o i = some (ft, off) → ∃ f, fl[i]? = some f ∧ f.type = ft ∧ f.offset = off ∧ ∃ t, wgv P ft t := by
   intro fl
   induction fl with
   | nil =>
    intro fs o i hf h
    cases fs with
    | nil => simp [wdj] at h
    | cons _ _ => exact hf.elim
   | cons f fl ih =>
    intro fs o i hf h
    cases fs with
    | nil => exact hf.elim
    | cons p fs =>
     obtain ⟨ty', t'⟩ := p
     obtain ⟨h1, h2, h3, h4⟩ := hf
     cases i with
     | zero => simp [wdj] at h; exact ⟨f, rfl, by rw [h1, h.1], by rw [h2, h.2], t', by rw [← h.1]; exact h3⟩
     | succ i => simp only [wdj] at h; obtain ⟨f', h5, h6⟩ := ih fs _ i h4 h; exact ⟨f', by simpa using h5, h6⟩
  obtain ⟨f, h1, h2, h3, h4⟩ := key _ _ _ _ hf h
  exact ⟨fields, f, hu, by simpa using h1, h2, h3, h4⟩
 next => cases h
theorem wazy {op : UnOp} {x : AV} {q : QR} (h : (aun op x).ev = some q) {vx : Value} (hx : RelV P w lo μ S x vx) : q.2 = [] ∧ ∃ v, (Op.unary op vx).run P w = .ok v w ∧ RelV P w lo μ S q.1 v := by
 unfold aun at h
 split at h
 ·have := hx.bool; subst this
  cases op
  case not => have := wjp h; subst this; exact ⟨rfl, _, by simp [Op.unary], wbl _⟩
  all_goals cases h
 ·have := hx.int; subst this
  cases op
  case neg => have := wed h; subst this; exact ⟨rfl, _, by simp [Op.unary, Op.intArith], wbb _ _⟩
  all_goals cases h
 ·cases h
theorem wjj {S : Nat → Prop} {w : World} {k : IntKind} : ∀ l : List Int, RepL S w (.int k) l (l.map (Value.int k))
 | [] => rfl
 | x :: l => ⟨[.int k x], l.map (Value.int k), rfl, rfl, wjj l⟩
theorem wjx [Tabs] (hm : Mem P X lo g μ w) {t : Ty} {x : AV} {src : List t.I} (h : wjo g t x = some src) {vx : Value} (hx : RelV P w lo μ (SS X μ) x vx) :
  ∃ ax c news, vx = .slice ax src.length c ∧ RepL (SS X μ) w t src news ∧ (ax = none → src.length = 0) ∧ ∀ ad, ax = some ad → ∀ j u, news[j]? = some u → w.cell? (ad.add j) = some u := by
 unfold wjo at h
 split at h
 ·obtain ⟨e, he⟩ := Ty.cast_spec h
  cases e
  have he : src = _ := he
  subst he
  obtain ⟨ax, c, rfl, hr⟩ := hx.slice
  cases ax with
  | none =>
   have hl : List.length src = 0 := by
    cases src with
    | nil => rfl
    | cons y ys =>
     simp only [Rep] at hr
     obtain ⟨a', cp, e, _, hi⟩ := hr
     obtain ⟨_, _, _, e2, _⟩ := hi 0 y rfl
     simp only [List.cons.injEq, Value.slice.injEq, and_true] at e
     rw [e2] at e
     cases e.1
   have : src = [] := List.eq_nil_of_length_eq_zero hl
   subst this
   exact ⟨none, c, [], rfl, rfl, fun _ => rfl, fun _ e => by cases e⟩
  | some ad =>
   cases src with
   | nil => exact ⟨some ad, c, [], rfl, rfl, fun e => by (cases e), fun _ _ j u hu => by simp at hu⟩
   | cons y ys =>
    have hr0 := hr
    simp only [Rep] at hr
    obtain ⟨a', cp, e, _, hi⟩ := hr
    obtain ⟨b, off, _, e2, _⟩ := hi 0 y rfl
    simp only [List.cons.injEq, Value.slice.injEq, and_true] at e
    rw [e2] at e
    obtain ⟨e1, _, _⟩ := e
    cases e1
    obtain ⟨news, h1, h2⟩ := RepL.of_slice hr0
    exact ⟨_, c, news, rfl, h1, fun e => by (cases e), fun ad' e j u hu => by cases e; rw [Addr.add_lit]; exact h2 j u hu⟩
 ·cases h
  cases hx
  exact ⟨none, 0, [], rfl, rfl, fun _ => rfl, fun _ e => by cases e⟩
 ·rename_i o
  split at h
  next e t' l hg =>
   obtain ⟨e', he⟩ := Ty.cast_spec h
   cases e'
   have he : src = _ := he
   subst he
   cases hx with
   | arr hμ =>
    obtain ⟨y, hy, hob⟩ := hm.ob _ _ hμ
    rw [hg] at hy
    cases hy
    obtain ⟨⟨hhs, hrs⟩, hnl, xs, hown, hrep⟩ := hob
    rcases hown.2 with ⟨e1, e2⟩ | ⟨gb, cap, cur, e1, _⟩
    ·cases e1
     have : src = [] := List.eq_nil_of_length_eq_zero e2
     subst this
     exact ⟨none, 0, [], rfl, rfl, fun _ => rfl, fun _ e => by cases e⟩
    ·cases e1
     exact ⟨_, _, xs, rfl, hrep, fun e => by (cases e), fun ad e j u hu => by cases e; exact hown.cells (g := gb) rfl j u hu⟩
  next e l hg =>
   obtain ⟨e', he⟩ := Ty.cast_spec h
   cases e'
   have he : src = _ := he
   subst he
   cases hx with
   | arr hμ =>
    obtain ⟨y, hy, hob⟩ := hm.ob _ _ hμ
    rw [hg] at hy
    cases hy
    obtain ⟨b, cap, cur, fr, ev, _, hh, _, _, _, htk⟩ := hob
    cases ev
    refine ⟨_, _, List.map (α := Int) (Value.int .u8) src, rfl, wjj src, fun e => by (cases e), fun ad e j u hu => ?_⟩
    cases e
    rw [Addr.add_lit, Nat.zero_add, cell_of_row w b j cur _ fr hh]
    rw [← htk, List.getElem?_take] at hu
    split at hu
    ·simpa using hu
    ·cases hu
  next => cases h
 ·rename_i o i
  split at h
  next e e2 t' l hg =>
   obtain ⟨e', he⟩ := Ty.cast_spec h
   cases e'
   have he : src = l.getD i [] := he
   cases hx with
   | row hμ hxx =>
    obtain ⟨_, xs, hown, hrep⟩ := hm.rowAt hμ hxx hg
    rw [← he] at hown hrep
    rcases hown.2 with ⟨e1, e2⟩ | ⟨gb, cap, cur, e1, _⟩
    ·cases e1
     have : src = [] := List.eq_nil_of_length_eq_zero e2
     subst this
     exact ⟨none, 0, [], rfl, rfl, fun _ => rfl, fun _ e => by cases e⟩
    ·cases e1
     exact ⟨_, _, xs, rfl, hrep, fun e => by (cases e), fun ad e j u hu => by cases e; exact hown.cells (g := gb) rfl j u hu⟩
  next => cases h
 ·cases h
theorem wra : ∀ (ns : List Int) (s : ByteArray), ns.foldl (fun r n => r.push (UInt8.ofNat n.toNat)) s = ⟨s.data ++ (bytesOf ns).toArray⟩
 | [], s => by cases s; simp [bytesOf]
 | n :: ns, s => by
  rw [List.foldl_cons, wra ns]
  cases s
  simp [bytesOf, ByteArray.push]
theorem wvt [Tabs] {k : IntKind} : ∀ {l : List Int} {cs : List Value}, RepL S w (.int k) l cs → cs = l.map (Value.int k)
 | [], _, h => by simpa [RepL] using h
 | x :: l, _, ⟨c, r, e, h1, h2⟩ => by
  subst e
  have := wvt h2
  subst this
  simp only [Rep] at h1
  subst h1
  rfl
theorem waie [Tabs] (hT : waj P tt) (hm : Mem P X lo g μ w) {s d : Nat} {x : AV} {q : QR} (h : (wza tt g s d x).ev = some q) {vx : Value} (hx : RelV P w lo μ (SS X μ) x vx) : q.2 = [] ∧ ∃ v, (convert s d vx).run P w = .ok v w ∧ RelV P w lo μ (SS X μ) q.1 v := by
 unfold wza at h
 split at h
 ·have := hx.int; subst this
  split at h
  next k1 k2 hs hd =>
   have h1 := hT s
   have h2 := hT d
   rw [hs] at h1
   rw [hd] at h2
   obtain ⟨d1, e1, u1, _⟩ := h1
   obtain ⟨d2, e2, u2, _⟩ := h2
   simp only [wsx, Option.some.injEq] at e1 e2
   subst e1; subst e2
   have := wed h; subst this
   exact ⟨rfl, _, by simp [convert, run_underlying u1, run_underlying u2, Conv.intToInt], wbb _ _⟩
  next => cases h
 ·split at h
  next l e _ _ hsrc hs hd =>
   split at h
   next he =>
    have := waz h; subst this
    have h1 := hT s
    have h2 := hT d
    have h3 := hT e
    rw [hs] at h1
    rw [hd] at h2
    rw [he] at h3
    obtain ⟨u1, _⟩ := h1
    obtain ⟨d2, e2, u2, _⟩ := h2
    obtain ⟨d3, e3, u3, _⟩ := h3
    simp only [wsx, Option.some.injEq] at e2 e3
    subst e2; subst e3
    obtain ⟨ax, c, news, rfl, hr, hn, hc⟩ := wjx hm hsrc hx
    refine ⟨rfl, .string ⟨(bytesOf l).toArray⟩, ?_, wpe _⟩
    rw [run_convert_bytes_string w s d e ax _ c u1 u3 u2]
    cases ax with
    | none =>
     have : l = [] := List.eq_nil_of_length_eq_zero (hn rfl)
     subst this
     rfl
    | some ad =>
     have hnews := wvt hr
     subst hnews
     have hload := run_loadCells_list (P := P) w ad (l.map (Value.int .u8)) (hc ad rfl)
     rw [List.length_map] at hload
     rw [run_bytesToString w ad _ c l hload, wra]
     have e0 : ByteArray.empty.data = #[] := rfl
     rw [e0, Array.empty_append]
   next => cases h
  next => cases h
theorem wku [Tabs] (hT : waj P tt) {d : Nat} {as bs : List AV} {xs ys : Array Value} (ha : RelV P w lo μ S (.agg as) (.agg xs)) (hb : RelV P w lo μ S (.agg bs) (.agg ys)) :
  ∀ {fl : List Go.Field} {fs : List (Nat × Ty)} {o : Nat} {z : Bool}, wft P fl fs o → (∀ f ∈ fl, f.name ≠ "_") → scFs fs = true → wns tt fs (as.drop o) (bs.drop o) = some z → (Op.eqFields (d + 1) xs ys fl).run P w = .ok z w
 | [], [], o, z, _, _, _, h => by
  cases ha' : as.drop o with
  | nil =>
   cases hb' : bs.drop o with
   | nil => rw [ha', hb'] at h; simp only [wns, Option.some.injEq] at h; subst h; rfl
   | cons b r => rw [ha', hb'] at h; simp [wns] at h
  | cons a r => rw [ha'] at h; cases hb' : bs.drop o <;> rw [hb'] at h <;> simp [wns] at h
 | f :: fl, (ty, t) :: fs, o, z, hf, hn, hs, h => by
  obtain ⟨h1, h2, h3, h4⟩ := hf
  simp only [scFs, List.all_cons, Bool.and_eq_true] at hs
  have hsz : t.size = 1 := by cases t <;> simp [scTy] at hs <;> rfl
  rw [hsz] at h4
  have more : ∀ {l : List AV} {v : AV} {r : List AV}, l.drop o = v :: r → nth l o = some v ∧ l.drop (o + 1) = r := fun {l v r} e => by
   refine ⟨?_, ?_⟩
   ·have := congrArg (fun l => l[0]?) e
    simp only [List.getElem?_drop, Nat.add_zero, List.getElem?_cons_zero] at this
    rw [wo]; exact this
   ·rw [← List.drop_drop, e]; rfl
  have rest : ∀ {z'}, wns tt fs (as.drop (o + 1)) (bs.drop (o + 1)) = some z' → (Op.eqFields (d + 1) xs ys fl).run P w = .ok z' w := fun h' => wku hT ha hb h4 (fun f hf => hn f (List.mem_cons_of_mem _ hf)) hs.2 h'
  have key : ∀ {v u : AV} {e z' : Bool} {sz : Nat × Bool}, wbi tt ty = some sz → cut as o sz = some v → cut bs o sz = some u → (∀ x y, RelV P w lo μ S v x → RelV P w lo μ S u y → (Op.equalIn (d + 1) ty x y).run P w = .ok e w) → wns tt fs (as.drop (o + 1)) (bs.drop (o + 1)) = some z' →
    (Op.eqFields (d + 1) xs ys (f :: fl)).run P w = .ok (e && z') w := by
   intro v u e z' sz k1 k2 k3 k4 k5
   obtain ⟨x, x1, x2⟩ := wfc ha hT k1 k2
   obtain ⟨y, y1, y2⟩ := wfc hb hT k1 k3
   have hnm : f.name ≠ "_" := hn f List.mem_cons_self
   subst h1
   rw [← h2] at x1 y1
   simp only [Op.eqFields, hnm, ne_eq, not_false_eq_true, if_true, Sem.run_bind, x1, y1, Result.andThen_ok, k4 x y x2 y2]
   cases e with
   | true => simpa using rest k5
   | false => simp
  cases ha' : as.drop o with
  | nil => rw [ha'] at h; cases hb' : bs.drop o <;> rw [hb'] at h <;> simp [wns] at h
  | cons v r =>
   cases hb' : bs.drop o with
   | nil => rw [ha', hb'] at h; simp [wns] at h
   | cons u r' =>
    rw [ha', hb'] at h
    obtain ⟨a1, a2⟩ := more ha'
    obtain ⟨b1, b2⟩ := more hb'
    rw [← a2, ← b2] at h
    have hd := hT ty
    unfold wns at h
    split at h
    case h_1 => cases ‹_ :: _ = []›
    ·rename_i e1 e2 e3
     cases e1
     cases e2; cases e3
     split at h
     next k2 htt =>
      rw [htt] at hd
      obtain ⟨d2, q1, q2, _⟩ := hd
      simp only [wsx, Option.some.injEq] at q1
      subst q1
      split at h
      next hk =>
       subst hk
       split at h
       next z' hz' =>
        cases h
        refine key (sz := (1, false)) (by unfold wbi; rw [htt]; rfl) (by simpa [cut] using a1) (by simpa [cut] using b1) (fun x y hx hy => ?_) hz'
        have := hx.int; subst this
        have := hy.int; subst this
        exact run_equalIn_int w d ty _ _ _ _ q2
       next => cases h
      next => cases h
     next => cases h
    ·rename_i e1 e2 e3
     cases e1
     cases e2; cases e3
     split at h
     next htt =>
      rw [htt] at hd
      obtain ⟨d2, q1, q2, _⟩ := hd
      simp only [wsx, Option.some.injEq] at q1
      subst q1
      split at h
      next z' hz' =>
       cases h
       refine key (sz := (1, false)) (by unfold wbi; rw [htt]; rfl) (by simpa [cut] using a1) (by simpa [cut] using b1) (fun x y hx hy => ?_) hz'
       have := hx.bool; subst this
       have := hy.bool; subst this
       exact run_equalIn_bool' w d ty _ _ q2
      next => cases h
     next => cases h
    ·rename_i e1 e2 e3
     cases e1
     cases e2; cases e3
     split at h
     next htt =>
      rw [htt] at hd
      obtain ⟨d2, q1, q2, _⟩ := hd
      simp only [wsx, Option.some.injEq] at q1
      subst q1
      split at h
      next z' hz' =>
       cases h
       refine key (sz := (1, false)) (by unfold wbi; rw [htt]; rfl) (by simpa [cut] using a1) (by simpa [cut] using b1) (fun x y hx hy => ?_) hz'
       have := hx.str; subst this
       have := hy.str; subst this
       rw [run_equalIn_string w d ty _ _ q2]
       simp [ByteArray.toList_eq]
      next => cases h
     next => cases h
    ·cases h
 | [], _ :: _, _, _, hf, _, _, _ => hf.elim
 | _ :: _, [], _, _, hf, _, _, _ => hf.elim
theorem wvu {e : Nat} {k : IntKind} (hte : tt e = .sc (.int k)) {p : Ty} {fs : List (Nat × Ty)} {as bs : List AV} {z : Bool} (h : wns tt ((e, p) :: fs) as bs = some z) :
  ∃ (k1 : IntKind) (a b : Int) (r r' : List AV) (z' : Bool), as = .dat (.int k1) a :: r ∧ bs = .dat (.int k1) b :: r' ∧ wns tt fs r r' = some z' ∧ z = ((a == b) && z') := by
 unfold wns at h
 split at h
 ·cases ‹_ :: _ = []›
 ·rename_i e1
  cases e1
  split at h
  ·split at h
   next hk =>
    subst hk
    split at h
    next z' hz' => cases h; exact ⟨_, _, _, _, _, _, rfl, rfl, hz', rfl⟩
    next => cases h
   next => cases h
  ·cases h
 ·rename_i e1
  cases e1
  rw [hte] at h
  cases h
 ·rename_i e1
  cases e1
  rw [hte] at h
  cases h
 ·cases h
theorem waif {as bs : List AV} {z : Bool} (h : wns tt [] as bs = some z) : as = [] ∧ bs = [] ∧ z = true := by
 cases as with
 | nil =>
  cases bs with
  | nil => simp only [wns, Option.some.injEq] at h; exact ⟨rfl, rfl, h.symm⟩
  | cons b r => simp [wns] at h
 | cons a r => simp [wns] at h
theorem wto [Tabs] (hT : waj P tt) {T e : Nat} {k : IntKind} (hu : P.underlying T = some (.array 2 e)) (hte : tt e = .sc (.int k)) {as bs : List AV} {xs ys : Array Value} (ha : RelV P w lo μ S (.agg as) (.agg xs)) (hb : RelV P w lo μ S (.agg bs) (.agg ys)) {p q : Ty} {z : Bool}
  (h : wns tt [(e, p), (e, q)] as bs = some z) (d : Nat) : (Op.equalIn (d + 1 + 1) T (.agg xs) (.agg ys)).run P w = .ok z w := by
 obtain ⟨k1, a0, b0, r, r', z1, rfl, rfl, h1, rfl⟩ := wvu hte h
 obtain ⟨k2, a1, b1, r2, r2', z2, rfl, rfl, h2, rfl⟩ := wvu hte h1
 obtain ⟨rfl, rfl, rfl⟩ := waif h2
 have hd := hT e
 rw [hte] at hd
 obtain ⟨d0, s1, s2, i, z0, hi, hs, _⟩ := hd
 simp only [wsx, Option.some.injEq] at s1
 subst s1
 have hc : P.cellsOf e = 1 := by
  unfold Program.cellsOf
  rw [hi]
  exact hs
 have hsz : wbi tt e = some (1, false) := by unfold wbi; rw [hte]; rfl
 obtain ⟨x0, p0, q0⟩ := wfc ha hT hsz (k := 0) (v := .dat (.int k1) a0) rfl
 obtain ⟨x1, p1, q1⟩ := wfc ha hT hsz (k := 1) (v := .dat (.int k2) a1) rfl
 obtain ⟨y0, p2, q2⟩ := wfc hb hT hsz (k := 0) (v := .dat (.int k1) b0) rfl
 obtain ⟨y1, p3, q3⟩ := wfc hb hT hsz (k := 1) (v := .dat (.int k2) b1) rfl
 have := q0.int; subst this
 have := q1.int; subst this
 have := q2.int; subst this
 have := q3.int; subst this
 have e0 := run_equalIn_int w d e k1 _ a0 b0 s2
 have e1 := run_equalIn_int w d e k2 _ a1 b1 s2
 rw [run_equalIn_array w (d + 1) xs ys hu hi, hc]
 have hr : List.range 2 = [0, 1] := rfl
 rw [hr]
 simp only [Op.eqItems, Sem.run_bind, Nat.zero_mul, Nat.one_mul, p0, p1, p2, p3, e0, e1, Result.andThen_ok]
 cases a0 == b0 with
 | false => rfl
 | true =>
  simp only [Bool.not_true, Bool.false_eq_true, if_false, Sem.run_bind, p1, p3, e1, Result.andThen_ok]
  cases a1 == b1 <;> rfl
theorem waig [Tabs] (hT : waj P tt) {op : BinOp} {ty : Nat} {x y : AV} {q : QR} (h : (waog tt op ty x y).ev = some q) {vx vy : Value} (hx : RelV P w lo μ S x vx) (hy : RelV P w lo μ S y vy) (X Y : Operand) :
  q.2 = [] ∧ ∃ v, (do eqGuard op ty X Y vx vy; binOp op ty vx vy : Sem Value).run P w = .ok v w ∧ RelV P w lo μ S q.1 v := by
 unfold waog at h
 split at h
 ·rename_i as bs
  split at h
  next t fs htt =>
   split at h
   next hsc =>
    split at h
    next z hz =>
     have hd := hT ty
     rw [htt] at hd
     obtain ⟨fields, hu, hfo, ⟨_, heq⟩, _⟩ := hd
     obtain ⟨g1, g2, g3⟩ := heq hsc
     have hx0 := hx
     have hy0 := hy
     cases hx with
     | @agg _ _ xs _ _ =>
      cases hy with
      | @agg _ _ ys _ _ =>
       have hfo' : P.fieldsOf ty = fields := by unfold Program.fieldsOf; rw [hu]
       have hrun : (Op.equalIn 10000 ty (.agg xs) (.agg ys)).run P w = .ok z w := by
        rw [show (10000 : Nat) = (9998 + 1) + 1 from rfl, run_equalIn_struct w (9998 + 1) ty xs ys (by rw [hfo']; exact hu) g2, hfo']
        exact wku hT hx0 hy0 hfo g3 hsc (by simpa using hz)
       cases op
       case eql =>
        have := wjp h; subst this
        exact ⟨rfl, .bool z, by rw [Sem.run_bind, run_eqGuard_agg w _ _ _ _ _ _ g1, Result.andThen_ok, run_eql_struct, hrun]; rfl, wbl _⟩
       case neq =>
        have := wjp h; subst this
        exact ⟨rfl, .bool (!z), by rw [Sem.run_bind, run_eqGuard_agg w _ _ _ _ _ _ g1, Result.andThen_ok, run_neq_struct, hrun]; rfl, wbl _⟩
       all_goals cases h
    next => cases h
   next => cases h
  next e k t htt =>
   split at h
   next k' hte =>
    split at h
    next z hz =>
     have hd := hT ty
     rw [htt] at hd
     obtain ⟨hu, _, ⟨_, hg⟩, _⟩ := hd
     have g1 := hg rfl
     have hx0 := hx
     have hy0 := hy
     cases hx with
     | @agg _ _ xs _ _ =>
      cases hy with
      | @agg _ _ ys _ _ =>
       have hrun : (Op.equalIn 10000 ty (.agg xs) (.agg ys)).run P w = .ok z w := wto hT hu hte hx0 hy0 hz 9998
       cases op
       case eql =>
        have := wjp h; subst this
        exact ⟨rfl, .bool z, by rw [Sem.run_bind, run_eqGuard_agg w _ _ _ _ _ _ g1, Result.andThen_ok, run_eql_struct, hrun]; rfl, wbl _⟩
       case neq =>
        have := wjp h; subst this
        exact ⟨rfl, .bool (!z), by rw [Sem.run_bind, run_eqGuard_agg w _ _ _ _ _ _ g1, Result.andThen_ok, run_neq_struct, hrun]; rfl, wbl _⟩
       all_goals cases h
    next => cases h
   next => cases h
  next => cases h
 ·exact waon hT h hx hy X Y
theorem wgz {ty e : Nat} (hu : P.underlying ty = some (.slice e)) (a : Option Addr) (n c : Nat) (w : World) : (Op.equalIn 10000 ty (.slice a n c) (.slice none 0 0)).run P w = .ok a.isNone w := by
 rw [show (10000 : Nat) = 9999 + 1 from rfl, Op.equalIn.eq_def]
 cases a <;> simp [run_underlying hu]
theorem nil_eq {ty e : Nat} (hu : P.underlying ty = some (.slice e)) (neq : Bool) {b : Bool} {a : Option Addr} {n c : Nat} (hb : (bif neq then !a.isNone else a.isNone) = b) (X Y : Operand) :
  (do eqGuard (bif neq then .neq else .eql) ty X Y (.slice a n c) (.slice none 0 0); binOp (bif neq then .neq else .eql) ty (.slice a n c) (.slice none 0 0) : Sem Value).run P w = .ok (.bool b) w := by
 subst hb
 have h1 : ∀ op, (eqGuard op ty X Y (.slice a n c) (.slice none 0 0)).run P w = .ok () w := fun op => by
  unfold eqGuard
  cases op <;> rfl
 cases neq with
 | false =>
  rw [cond_false, cond_false, Sem.run_bind, h1, Result.andThen_ok]
  simp only [binOp, Op.equal, Op.maxDepth, Sem.run_bind, wgz hu, Result.andThen_ok, Sem.run_pure]
 | true =>
  rw [cond_true, cond_true, Sem.run_bind, h1, Result.andThen_ok]
  simp only [binOp, Op.equal, Op.maxDepth, Sem.run_bind, wgz hu, Result.andThen_ok, Sem.run_pure]
theorem wvv [Tabs] (hm : Mem P X lo g μ w) {ty e : Nat} (hu : P.underlying ty = some (.slice e)) (neq : Bool) {x : AV} {q : QR} (h : (wsz neq g x).ev = some q) {vx : Value} (hx : RelV P w lo μ (SS X μ) x vx) (X' Y' : Operand) :
  q.2 = [] ∧ ∃ v, (do eqGuard (bif neq then .neq else .eql) ty X' Y' vx (.slice none 0 0); binOp (bif neq then .neq else .eql) ty vx (.slice none 0 0) : Sem Value).run P w = .ok v w ∧ RelV P w lo μ (SS X μ) q.1 v := by
 unfold wsz at h
 split at h
 ·have := wjp h; subst this
  cases hx with
  | nilsl => exact ⟨rfl, _, nil_eq hu neq (by cases neq <;> rfl) X' Y', wbl _⟩
 ·rename_i t l
  obtain ⟨h0, h⟩ := ev_g h
  have := wjp h; subst this
  obtain ⟨a, cap, rfl, hrep⟩ := hx.slice
  simp only [Rep] at hrep
  obtain ⟨a', cap', ea, _, hel⟩ := hrep
  simp only [List.cons.injEq, Value.slice.injEq, and_true] at ea
  obtain ⟨rfl, _, rfl⟩ := ea
  have hl : 0 < l.length := by simpa using h0
  obtain ⟨y, hy⟩ : ∃ y, l[0]? = some y := ⟨_, List.getElem?_eq_getElem hl⟩
  obtain ⟨b, off, c', ha, _⟩ := hel 0 y hy
  subst ha
  exact ⟨rfl, _, nil_eq hu neq (by cases neq <;> rfl) X' Y', wbl _⟩
 ·split at h
  next o e' t l hg =>
   obtain ⟨h0, h⟩ := ev_g h
   have := wjp h; subst this
   have hl : 0 < l.length := by simpa using h0
   cases hx with
   | arr hμ =>
    obtain ⟨y, hy, hob⟩ := hm.ob _ _ hμ
    rw [hg] at hy
    cases hy
    obtain ⟨_, _, xs, hown, hrep⟩ := hob
    rcases hown.2 with ⟨e1, e2⟩ | ⟨b, cap', cur, ev, _⟩
    ·omega
    ·simp only [Value.slice.injEq] at ev
     obtain ⟨rfl, rfl, rfl⟩ := ev
     exact ⟨rfl, _, nil_eq hu neq (by cases neq <;> rfl) X' Y', wbl _⟩
  next => cases h
 ·cases h
theorem waih [Tabs] (hT : waj P tt) (hm : Mem P X lo g μ w) {op : BinOp} {ty : Nat} {x y : AV} {q : QR} (h : (wzb tt g op ty x y).ev = some q) {vx vy : Value} (hx : RelV P w lo μ (SS X μ) x vx) (hy : RelV P w lo μ (SS X μ) y vy) (X' Y' : Operand) :
  q.2 = [] ∧ ∃ v, (do eqGuard op ty X' Y' vx vy; binOp op ty vx vy : Sem Value).run P w = .ok v w ∧ RelV P w lo μ (SS X μ) q.1 v := by
 unfold wzb at h
 split at h
 next e t b htt =>
  have hd := hT ty
  rw [htt] at hd
  cases hy with
  | nilsl => exact wvv hm hd.1 false h hx X' Y'
 next e t b htt =>
  have hd := hT ty
  rw [htt] at hd
  cases hy with
  | nilsl => exact wvv hm hd.1 true h hx X' Y'
 next => exact waig hT h hx hy X' Y'
theorem wvw [Tabs] {o i s0 : Nat} {a0 : Option Addr} {c : Nat} {ty e0 b sz : Nat} {t0 : Ty} {xs : List Value} {len : Nat} {k : IntKind} {n : Int} {rs : List Nat} {hs : List Value} {e1 : Nat} (hT : waj P tt) (hty : tt ty = .sl e0 t0 b) (hsz : t0.size = sz) (hμ : μ o = some ⟨.slice a0 c s0, rs, hs⟩) (hown : w.ownsRow 0 e1 sz (.slice a0 c s0) len xs) (hi : i = n.toNat)
  (h0 : (0 : Int) ≤ n) (h1 : n ≤ (len : Int)) : ∃ v, (Instr.sliceAt ty (.slice a0 c s0) (some (.int k n)) none none).run P w = .ok v w ∧ RelV P w lo μ S (.suf o i sz) v := by
 subst hi
 have hd1 := hT ty
 rw [hty] at hd1
 obtain ⟨hu, ⟨i, z, g1, g2, g3, g4, g5⟩, _⟩ := hd1
 have hcl : c = len ∧ len ≤ s0 ∧ (n.toNat = len ∨ ∃ gb, a0 = some ⟨gb, 0, none⟩) := by
  rcases hown.2 with ⟨ev, e0'⟩ | ⟨gb, cap, cur, ev, k1, k2, k3, _⟩
  ·cases ev
   exact ⟨e0'.symm, by omega, .inl (by omega)⟩
  ·simp only [Value.slice.injEq] at ev
   obtain ⟨rfl, rfl, rfl⟩ := ev
   exact ⟨rfl, k3, .inr ⟨gb, rfl⟩⟩
 obtain ⟨rfl, hle, hb⟩ := hcl
 obtain ⟨_, _, z3⟩ := wazw (P := P) (w := w) (len := c) (cap := s0) k n h0 h1 true
 refine ⟨.slice (if s0 = n.toNat then a0 else a0.map (·.add (n.toNat * sz))) (c - n.toNat) (s0 - n.toNat), ?_, .suf hμ ⟨by omega, rfl⟩ ?_⟩
 ·simp [Instr.sliceAt, Instr.slice, run_underlying hu, z3, sizeOf, typeInfo, g1, g2, hsz]
 ·by_cases e : n.toNat = c
  ·exact .inl e
  ·rcases hb with hb | ⟨gb, rfl⟩
   ·exact absurd hb e
   ·exact .inr ⟨gb, rfl, by rw [if_neg (by omega)]; simp [Addr.add_lit]⟩
theorem wamq [Tabs] {o s0 : Nat} {a0 : Option Addr} {c : Nat} {ty e0 b sz : Nat} {t0 : Ty} {xs : List Value} {len : Nat} {k : IntKind} {n : Int} {rs : List Nat} {hs : List Value} {e1 : Nat} (hT : waj P tt) (hty : tt ty = .sl e0 t0 b) (hsz : t0.size = sz) (hμ : μ o = some ⟨.slice a0 c s0, rs, hs⟩) (hown : w.ownsRow 0 e1 sz (.slice a0 c s0) len xs)
  (h0 : (0 : Int) ≤ n) (h1 : n ≤ (len : Int)) : ∃ v, (Instr.sliceAt ty (.slice a0 c s0) none (some (.int k n)) none).run P w = .ok v w ∧ RelV P w lo μ S (.pre o n.toNat) v := by
 have hd1 := hT ty
 rw [hty] at hd1
 obtain ⟨hu, ⟨i, z, g1, g2, g3, g4, g5⟩, _⟩ := hd1
 rcases hown.2 with ⟨ev, e0'⟩ | ⟨gb, cap, cur, ev, k1, k2, k3, _⟩
 ·cases ev
  have hn : n.toNat = 0 := by omega
  obtain ⟨_, _, z3⟩ := wtm (P := P) (w := w) (len := 0) (cap := 0) (Nat.le_refl 0) k n h0 (by omega) true
  refine ⟨.slice none n.toNat 0, ?_, .pre hμ (by omega)⟩
  simp [Instr.sliceAt, Instr.slice, run_underlying hu, z3, sizeOf, typeInfo, g1, g2]
 ·simp only [Value.slice.injEq] at ev
  obtain ⟨rfl, rfl, rfl⟩ := ev
  obtain ⟨_, _, z3⟩ := wtm (P := P) (w := w) (len := c) (cap := s0) k3 k n h0 h1 true
  refine ⟨.slice (some ⟨gb, 0, none⟩) n.toNat s0, ?_, .pre hμ (by omega)⟩
  simp only [Instr.sliceAt, Instr.slice, Sem.run_bind, run_underlying hu, Result.andThen_ok, z3, sizeOf, typeInfo, g1, Sem.run_pure, Nat.zero_mul, Nat.sub_zero]
  by_cases e : s0 = 0
  ·simp [e, g1]
  ·simp [e, g1, Addr.add_lit]
theorem wzl [Tabs] (hT : waj P tt) (hm : Mem P X lo g μ w) {ty : Nat} {x : AV} {lo' hi' : Option AV} {q : QR} (h : (whw tt g ty x lo' hi').ev = some q) {vx : Value} {vl vh : Option Value} (hx : RelV P w lo μ (SS X μ) x vx)
  (hl : ORel P w lo μ (SS X μ) lo' vl) (hh : ORel P w lo μ (SS X μ) hi' vh) :
  q.2 = [] ∧ ∃ v, (Instr.sliceAt ty vx vl vh none).run P w = .ok v w ∧ RelV P w lo μ (SS X μ) q.1 v := by
 unfold whw at h
 split at h
 ·rename_i o k n
  split at h
  next e0 t0 b e t l hty hg =>
   split at h
   next hc =>
    obtain ⟨hb, h⟩ := ev_g h
    simp only [Bool.and_eq_true, decide_eq_true_eq] at hb
    have := waz h; subst this
    cases hl
    cases hh with
    | some hh =>
     have e1 := hh.int
     subst e1
     cases hx with
     | @arr _ _ a0 n0 c0 rs hs hμ =>
      obtain ⟨y, hy, hob⟩ := hm.ob _ _ hμ
      rw [hg] at hy
      cases hy
      obtain ⟨_, _, xs, hown, _⟩ := hob
      obtain ⟨v, h1, h2⟩ := wamq (P := P) (w := w) (lo := lo) (S := SS X μ) (k := k) hT hty hc hμ hown hb.1 hb.2
      exact ⟨rfl, v, h1, h2⟩
   next => cases h
  next e0 t0 b e e2 t l hty hg =>
   split at h
   next hc =>
    obtain ⟨hb, h⟩ := ev_g h
    simp only [Bool.and_eq_true, decide_eq_true_eq] at hb
    have := waz h; subst this
    cases hl
    cases hh with
    | some hh =>
     have e1 := hh.int
     subst e1
     cases hx with
     | @arr _ _ a0 n0 c0 rs hs hμ =>
      obtain ⟨y, hy, hob⟩ := hm.ob _ _ hμ
      rw [hg] at hy
      cases hy
      obtain ⟨v, h1, h2⟩ := wamq (P := P) (w := w) (lo := lo) (S := SS X μ) (k := k) hT hty hc hμ hob.1.own hb.1 hb.2
      exact ⟨rfl, v, h1, h2⟩
   next => cases h
  next => cases h
 ·rename_i o k n
  split at h
  next e0 t0 b e t l hty hg =>
   split at h
   next hc =>
    obtain ⟨hb, h⟩ := ev_g h
    simp only [Bool.and_eq_true, decide_eq_true_eq] at hb
    have := waz h; subst this
    cases hh
    cases hl with
    | some hl =>
     have e1 := hl.int
     subst e1
     cases hx with
     | @arr _ _ a0 n0 c0 rs hs hμ =>
      obtain ⟨y, hy, hob⟩ := hm.ob _ _ hμ
      rw [hg] at hy
      cases hy
      obtain ⟨_, _, xs, hown, _⟩ := hob
      obtain ⟨v, h1, h2⟩ := wvw (P := P) (w := w) (lo := lo) (S := SS X μ) (k := k) hT hty hc hμ hown rfl hb.1 hb.2
      exact ⟨rfl, v, h1, h2⟩
   next => cases h
  next e0 t0 b e e2 t l hty hg =>
   split at h
   next hc =>
    obtain ⟨hb, h⟩ := ev_g h
    simp only [Bool.and_eq_true, decide_eq_true_eq] at hb
    have := waz h; subst this
    cases hh
    cases hl with
    | some hl =>
     have e1 := hl.int
     subst e1
     cases hx with
     | @arr _ _ a0 n0 c0 rs hs hμ =>
      obtain ⟨y, hy, hob⟩ := hm.ob _ _ hμ
      rw [hg] at hy
      cases hy
      obtain ⟨v, h1, h2⟩ := wvw (P := P) (w := w) (lo := lo) (S := SS X μ) (k := k) hT hty hc hμ hob.1.own rfl hb.1 hb.2
      exact ⟨rfl, v, h1, h2⟩
   next => cases h
  next => cases h
 ·exact wabt hT h hx hl hh
theorem wacc [Tabs] (hT : waj P tt) (hm : Mem P X lo g μ w) {dst s d : Nat} {x : AV} {q : QR} (h : (wny tt g dst s d x).ev = some q) {vx : Value} (hx : RelV P w lo μ (SS X μ) x vx) (hfree : ∀ p ∈ q.2, μ p.1 = none) :
  ∃ v w', (convert s d vx).run P w = .ok v w' ∧ Nx P X lo g μ w q v w' := by
 unfold wny at h
 split at h
 ·rename_i b
  split at h
  next e _ _ hs hd =>
   split at h
   next he =>
    simp only [Tr.ev_l, Option.some.injEq] at h
    subst h
    have h1 := hT s
    have h2 := hT d
    have h3 := hT e
    rw [hs] at h1
    rw [hd] at h2
    rw [he] at h3
    obtain ⟨d1, e1, u1, _⟩ := h1
    obtain ⟨u2, _⟩ := h2
    obtain ⟨d3, e3, u3, _⟩ := h3
    simp only [wsx, Option.some.injEq] at e1 e3
    subst e1; subst e3
    have hxv := hx.str
    subst hxv
    have hrun := Lib.run_convert_string_bytes (P := P) w s d e ⟨List.toArray (α := UInt8) b⟩ u1 u2 u3
    have hsz : (⟨List.toArray (α := UInt8) b⟩ : ByteArray).size = List.length (α := UInt8) b := rfl
    refine ⟨_, _, hrun, ?_⟩
    have hgc := grownCap_ge w (⟨List.toArray (α := UInt8) b⟩ : ByteArray).size 0 e
    have hnew := Lib.bytesWorld_at_new w e ⟨List.toArray (α := UInt8) b⟩
    have hcs : (Lib.bytesCells w e ⟨List.toArray (α := UInt8) b⟩).size = grownCap w (⟨List.toArray (α := UInt8) b⟩ : ByteArray).size 0 e := by
     unfold Lib.bytesCells
     rw [Array.size_append, Array.size_map, Array.size_replicate]
     have : (⟨List.toArray (α := UInt8) b⟩ : ByteArray).data.size = (⟨List.toArray (α := UInt8) b⟩ : ByteArray).size := rfl
     omega
    have hbel : Below w.heap.size w (Lib.bytesWorld w e ⟨List.toArray (α := UInt8) b⟩) := ⟨rfl, rfl, rfl, by rw [Lib.bytesWorld_size]; omega, fun k hk => Lib.bytesWorld_at_old w e _ k hk⟩
    refine Nx.made hm hbel (d := dst) (mv := ⟨.slice (some ⟨w.heap.size, 0, none⟩) (⟨List.toArray (α := UInt8) b⟩ : ByteArray).size (grownCap w (⟨List.toArray (α := UInt8) b⟩ : ByteArray).size 0 e), [w.heap.size], []⟩)
     (hfree (dst, .txt e (List.map (α := UInt8) (fun c => ((c.toNat : Nat) : Int)) b)) (by simp)) rfl (fun μ' _ _ => ?_) fun μ' hμ' => .arr hμ'
    have hlen : (List.map (α := UInt8) (fun c => ((c.toNat : Nat) : Int)) b).length = (⟨List.toArray (α := UInt8) b⟩ : ByteArray).size := by rw [List.length_map, hsz]
    refine ⟨w.heap.size, grownCap w (⟨List.toArray (α := UInt8) b⟩ : ByteArray).size 0 e, _, _, by rw [hlen], fun hl => ?_, hnew, by rw [hcs]; exact Nat.le_refl _, by rw [hlen]; exact hgc, hcs, ?_⟩
    ·have := hm.hlo _ hl
     omega
    ·rw [hlen]
     unfold Lib.bytesCells
     rw [Array.toList_append, List.take_append_of_le_length (by simp [hsz]), List.take_of_length_le (by simp [hsz])]
     simp [Function.comp_def]
   next => cases h
  next => cases h
 ·obtain ⟨h1, v, h2, h3⟩ := waie hT hm h hx
  obtain ⟨r, objs⟩ := q
  simp only at h1
  subst h1
  exact ⟨v, w, h2, Nx.pure hm h3⟩
theorem woc {mx : Bool} {vs : List AV} {q : QR} (h : (woy mx vs).ev = some q) {ys : Array Value} (hl : vs.length = ys.size) (hv : ∀ j v, nth vs j = some v → RelV P w lo μ S v (ys.getD j undef)) (ts : Array TypeId) (t : TypeId) :
  q.2 = [] ∧ ∃ v, (if mx then Builtin.max_ ts t ys else Builtin.min_ ts t ys).run P w = .ok v w ∧ RelV P w lo μ S q.1 v := by
 unfold woy at h
 split at h
 ·rename_i k x k' y
  split at h
  next hk =>
   subst hk
   have := wed h; subst this
   have h0 := (hv 0 _ rfl).int
   have h1 := (hv 1 _ rfl).int
   obtain ⟨ys⟩ := ys
   match ys, hl with
   | [u, v], _ =>
    simp at h0 h1
    subst h0; subst h1
    refine ⟨rfl, _, ?_, wbb _ _⟩
    cases mx <;> simp [Builtin.max_, Builtin.min_, Builtin.max2, Builtin.min2]
  next => cases h
 ·cases h
theorem wacd [Tabs] (hT : waj P tt) {ty : Nat} {cs : List AV} (h : zeroOf tt ty = some cs) : ∃ z : Value, (zeroValue ty).run P w = .ok z w ∧ AllR P w lo μ S cs z.cells := by
 have hd := hT ty
 unfold zeroOf at h
 split at h <;> rename_i he <;> rw [he] at hd
 ·cases h
  obtain ⟨_, _, _, hi⟩ := hd
  obtain ⟨z, h1, _, h3⟩ := wcs (w := w) hi
  exact ⟨z, h1, wgw h3⟩
 ·cases h
  obtain ⟨_, _, i, h1, h2, h3⟩ := hd
  refine ⟨.slice none 0 0, by simp [zeroValue, typeInfo, h1, h3], rfl, fun j v hv => ?_⟩
  match j, hv with
  | 0, hv => simp [nth] at hv; subst hv; exact .nilsl
 ·cases h
  obtain ⟨_, _, _, _, hi⟩ := hd
  obtain ⟨z, h1, _, h3⟩ := wcs (w := w) hi
  exact ⟨z, h1, wgw h3⟩
 ·cases h
  obtain ⟨_, _, _, hi⟩ := hd
  obtain ⟨z, h1, _, h3⟩ := wcs (w := w) hi
  exact ⟨z, h1, wgw h3⟩
 ·cases h
  obtain ⟨d, i, z, h1, h2, h3, h4, h5, h6⟩ := hd
  refine ⟨z, by simp [zeroValue, typeInfo, h3, h5], h6, fun j v hv => ?_⟩
  match j, hv with
  | 0, hv => simp [nth] at hv; subst hv; exact .undef
 ·cases h
theorem waq {fr : Nat → AV} (h : ∀ i, RelV P w lo μ S (fr i) (a.tmps.getD i undef)) (x : Operand) : RelV P w lo μ S (opd fr x) (a.eval x) := by
 cases x with
 | tmp t => exact h t
 | const v =>
  simp only [opd, Act.eval]
  unfold cval
  split
  ·exact wbl _
  ·exact wbb _ _
  ·rename_i s
   have := wpe (P := P) (w := w) (lo := lo) (μ := μ) (S := S) s.data.toList
   have e : (⟨s.data.toList.toArray⟩ : ByteArray) = s := by cases s; simp
   rwa [e] at this
  ·exact .nilsl
  ·exact .undef
 | global _ => exact .undef
 | func f => exact .fn rfl fun j v hv => by simp [nth] at hv
theorem QOK.pure [Tabs] (hm : Mem P X lo g μ w) {s : Sem Value} (he : (execOp a.eval o).run P w = (do pure (.value (← s)) : Sem Next).run P w) {q : QR} (h : q.2 = [] ∧ ∃ v, s.run P w = .ok v w ∧ RelV P w lo μ (SS X μ) q.1 v) :
  QOK P o a w (Nx P X lo g μ w q) := by
 obtain ⟨r, objs⟩ := q
 obtain ⟨h1, v, h2, h3⟩ := h
 simp only at h1
 subst h1
 exact QOK.val (by rw [he]; simp [h2]) (Nx.pure hm h3)
theorem wha (a : Act) {f : Operand → AV} (hf : ∀ x, RelV P w lo μ S (f x) (a.eval x)) (as : Array Operand) : (as.toList.map f).length = (as.map a.eval).size ∧ ∀ j v, nth (as.toList.map f) j = some v → RelV P w lo μ S v ((as.map a.eval).getD j undef) := by
 refine ⟨by simp, fun j v hv => ?_⟩
 rw [wo, List.getElem?_map] at hv
 cases hj : as.toList[j]? with
 | none => rw [hj] at hv; cases hv
 | some x =>
  rw [hj] at hv
  simp at hv
  subst hv
  have hj' : as[j]? = some x := by simpa using hj
  simpa [hj'] using hf x
theorem wkv (a : Act) {f : Operand → AV} (hf : ∀ x, RelV P w lo μ S (f x) (a.eval x)) (ps : Array (Nat × Operand)) : (ps.map fun (i, x) => (i, a.eval x)).toList.map (·.1) = (ps.toList.map fun p => (p.1, f p.2)).map (·.1) ∧
  ∀ (j : Nat) (p : Nat × AV), (ps.toList.map fun p => (p.1, f p.2))[j]? = some p → ∃ q : Nat × Value, (ps.map fun (i, x) => (i, a.eval x)).toList[j]? = some q ∧ RelV P w lo μ S p.2 q.2 := by
 refine ⟨by simp [Function.comp_def], fun j p hp => ?_⟩
 rw [List.getElem?_map] at hp
 cases hj : ps.toList[j]? with
 | none => rw [hj] at hp; cases hp
 | some x =>
  rw [hj] at hp
  simp at hp
  subst hp
  have hj' : ps[j]? = some x := by simpa using hj
  exact ⟨(x.1, a.eval x.2), by simp [hj'], hf x.2⟩
theorem whb [Tabs] (hm : Mem P X lo g μ w) {d e e2 : Nat} (hd : μ d = none) {t : Ty} {l : List (List t.I)} {h : Option (Nat × Option Nat)} {cur : Array Value} {cap : Nat} (hs : cur.size = cap) (hle : l.length ≤ cap) (hcap : cap ≤ maxLen)
  (hslc : ∀ x ∈ cur.toList.take l.length, ∃ a n c, x = .slice a n c) (hrow : ∀ (j : Nat) x r, wcf h j → (cur.toList.take l.length)[j]? = some x → l[j]? = some r → x = .slice none 0 0 ∧ r = [])
  (hlink : ∀ i p, h = some (i, some p) → ∃ x rs hs, (cur.toList.take l.length)[i]? = some x ∧ μ p = some ⟨x, rs, hs⟩) :
  Nx P X lo g μ w (.arr d, [(d, .rows e e2 t l h)]) (.slice (some ⟨w.heap.size, 0, none⟩) l.length cap) (w.alloc (.cells cur e)) := by
 have hb : Below w.heap.size w (w.alloc (.cells cur e)) := (Below.refl _ _).alloc (Nat.le_refl _) _
 refine Nx.made hm hb (mv := ⟨.slice (some ⟨w.heap.size, 0, none⟩) l.length cap, [w.heap.size], cur.toList.take l.length⟩) hd rfl (fun μ' hμ hS => ?_) fun μ' h => .arr h
 have hlen : (cur.toList.take l.length).length = l.length := by rw [List.length_take]; simp [hs]; omega
 refine ⟨⟨⟨by rw [hlen]; omega, .inr ⟨w.heap.size, cap, cur, rfl, Nat.zero_le _, heap_alloc_new w _, hle, hcap, by omega, by rw [Nat.mul_one]⟩⟩, fun b hb => by simpa [wu] using hb.symm, fun b hb' => ?_, hslc, fun j x r hj hx hl => ?_, fun j k x y b hj hk hx hy hb1 hb2 => ?_⟩, fun i p hi => ?_⟩
 ·simp only [List.mem_singleton] at hb'
  subst hb'
  exact ⟨fun hl => Nat.lt_irrefl _ (hm.hlo _ hl), by simp⟩
 ·obtain ⟨rfl, rfl⟩ := hrow j x r hj hx hl
  exact ⟨fun b hb => by simp [wu] at hb, [], World.ownsRow_nil _ 0 e2 t.size, rfl⟩
 ·have hj' : j < l.length := by have := (List.getElem?_eq_some_iff.1 hx).1; simp only at this; omega
  obtain ⟨rfl, _⟩ := hrow j x _ hj hx (List.getElem?_eq_getElem hj')
  simp [wu] at hb1
 ·obtain ⟨x, rs, hs, h1, h2⟩ := hlink i p hi
  exact ⟨x, rs, hs, h1, hμ p _ h2⟩
theorem wace [Tabs] (hm : Mem P X lo g μ w) {d e : Nat} (hd : μ d = none) {t : Ty} {n : Nat} {cur : Array Value} {cap : Nat} (hs : cur.size = cap * t.size) (hle : n ≤ cap) (hcap : cap ≤ maxLen)
  (hz : ∀ (S : Nat → Prop) (w : World), RepL S w t (List.replicate n t.dflt) (cur.toList.take (n * t.size))) :
  Nx P X lo g μ w (.arr d, [(d, .deep e t (List.replicate n t.dflt))]) (.slice (some ⟨w.heap.size, 0, none⟩) n cap) (w.alloc (.cells cur e)) := by
 have hb : Below w.heap.size w (w.alloc (.cells cur e)) := (Below.refl _ _).alloc (Nat.le_refl _) _
 refine Nx.made hm hb (mv := ⟨.slice (some ⟨w.heap.size, 0, none⟩) n cap, [w.heap.size], []⟩) hd rfl (fun μ' hμ hS => ?_) fun μ' h => .arr h
 show DeepOK _ _ _ _ _ _
 refine ⟨rfl, fun b hb => by simpa [wu] using hb.symm, fun b hb' => ?_, cur.toList.take (n * t.size), ⟨by rw [(hz (fun _ => True) w).len], .inr ⟨w.heap.size, cap, cur, by simp, Nat.zero_le _, heap_alloc_new w _, by simpa using hle, hcap, hs, by simp⟩⟩, hz _ _⟩
 simp only [List.mem_singleton] at hb'
 subst hb'
 exact ⟨fun hl => Nat.lt_irrefl _ (hm.hlo _ hl), by simp⟩
theorem wtp [Tabs] (hT : waj P tt) (hm : Mem P X lo g μ w) {d ty p e : Nat} {te : Ty} {b : Nat} (hd : μ d = none) (hty : tt ty = .sl e te b) (hte : te.size = 1) {qs : Array (Nat × Value)} (hq : qs.toList.map (·.1) = [0])
  (hr : ∃ q : Nat × Value, qs.toList[0]? = some q ∧ RelV P w lo μ (SS X μ) (.arr p) q.2) {e2 : Nat} {t : Ty} :
  ∃ v w', (Instr.buildSlice ty 1 qs).run P w = .ok v w' ∧ Nx P X lo g μ w (.arr d, [(d, .rows e e2 t [[]] (some (0, some p)))]) v w' := by
 have hd1 := hT ty
 rw [hty] at hd1
 obtain ⟨hu, ⟨i, z, h1, h2, h3, h4, h5⟩, _⟩ := hd1
 obtain ⟨q, hq1, hq2⟩ := hr
 have hqe : qs = #[q] := by
  apply Array.ext'
  have hl := congrArg List.length hq
  simp only [List.length_map, List.length_cons, List.length_nil] at hl
  match hqq : qs.toList, hl with
  | [y], _ => rw [hqq] at hq1; simp at hq1; subst hq1; rfl
 have hq0 : q.1 = 0 := by
  rw [hqe] at hq
  simpa using hq
 subst hqe
 obtain ⟨q0, x⟩ := q
 simp only at hq0 hq2
 subst hq0
 cases hq2 with
 | @arr _ _ a0 n0 c0 rp hp0 hμp =>
  have hx := whb (e := e) (e2 := e2) hm (d := d) (t := t) (l := [[]]) (h := some (0, some p)) (cur := #[.slice a0 n0 c0]) (cap := 1) hd rfl (Nat.le_refl _) (by unfold maxLen; omega)
   (fun x hx => by simp at hx; exact ⟨_, _, _, hx⟩) (fun j x r hj hx hl => by
    have hj0 : j ≠ 0 := hj 0 (some p) rfl
    cases j with
    | zero => exact absurd rfl hj0
    | succ j => simp at hl) (fun i p' hi => by cases hi; exact ⟨_, rp, hp0, rfl, hμp⟩)
  refine ⟨_, _, ?_, hx⟩
  have hsz : i.size = 1 := h2.trans hte
  have hzc : z.cells.size = 1 := by
   have := wbm h5
   simpa [hte] using this
  have hfill : Instr.fill (fun i => some (i, 1)) (Array.map (fun x => z.cells[x % z.cells.size]!) (Array.range 1)) [(0, Value.slice a0 n0 c0)] = some #[Value.slice a0 n0 c0] := by
   have key : ∀ (A : Array Value) (v : Value), A.size = 1 → A.setIfInBounds 0 v = #[v] := fun A v h => by
    obtain ⟨l⟩ := A
    match l, h with
    | [y], _ => rfl
   simp [Instr.fill, Value.cells]
   exact key _ _ (by simp)
  simp [Instr.buildSlice, run_underlying hu, sizeOf, typeInfo, zeroValue, h1, hsz, h4, hfill, newRow]
theorem wzm [Tabs] (hT : waj P tt) (hm : Mem P X lo g μ w) {d ty n : Nat} {ps : List (Nat × AV)} {q : QR} (h : (whz tt g d ty n ps).ev = some q) (hfree : ∀ p ∈ q.2, μ p.1 = none) {qs : Array (Nat × Value)} (hq : qs.toList.map (·.1) = ps.map (·.1))
  (hr : ∀ (j : Nat) (p : Nat × AV), ps[j]? = some p → ∃ q : Nat × Value, qs.toList[j]? = some q ∧ RelV P w lo μ (SS X μ) p.2 q.2) :
  ∃ v w', (Instr.buildSlice ty n qs).run P w = .ok v w' ∧ Nx P X lo g μ w q v w' := by
 unfold whz at h
 split at h
 ·rename_i e te b p hty
  split at h
  next e2 t b2 e3 t3 lp hte hgp =>
   split at h
   next hc =>
    simp only [Tr.ev_l, Option.some.injEq] at h
    subst h
    exact wtp hT hm (hfree (d, _) List.mem_cons_self) hty hc.1 hq (hr 0 _ rfl)
   next => cases h
  next => cases h
 ·have hd0 : μ d = none := by
   have h' := h
   unfold wel at h'
   split at h'
   ·split at h'
    ·obtain ⟨_, _, h'⟩ := wbc h'
     obtain ⟨_, _, h'⟩ := wbc h'
     simp only [Tr.ev_l, Option.some.injEq] at h'
     subst h'
     exact hfree (d, _) (List.mem_cons_self)
    ·cases h'
   ·cases h'
  exact wnv hT hm hd0 h hq hr
theorem wbga [Tabs] (hT : waj P tt) (hm : Mem P X lo g μ w) {f : Operand → AV} (hf : ∀ x, RelV P w lo μ (SS X μ) (f x) (a.eval x)) {q : QR} (h : (aq tt g f o).ev = some q) (hfree : ∀ p ∈ q.2, μ p.1 = none) :
  QOK P o a w (Nx P X lo g μ w q) := by
 unfold aq at h
 split at h
 ·rename_i x _ ho _
  have := waz h; subst this
  exact QOK.val (by simp [execOp, ho]) (Nx.pure hm (hf x))
 ·rename_i x _ ho _
  have := waz h; subst this
  exact QOK.val (by simp [execOp, ho]) (Nx.pure hm (hf x))
 ·rename_i c x y _ ho _
  unfold wazq at h
  split at h
  next b hc =>
   have hb : a.eval c = .bool b := by have := hf c; rw [hc] at this; exact this.bool
   cases b
   ·have := waz (by simpa using h); subst this
    exact QOK.val (x := a.eval y) (by simp [execOp, ho, hb, asBool]) (Nx.pure hm (hf y))
   ·have := waz (by simpa using h); subst this
    exact QOK.val (x := a.eval x) (by simp [execOp, ho, hb, asBool]) (Nx.pure hm (hf x))
  next => cases h
 ·rename_i op ty x y _ _ ho _
  exact QOK.pure hm (by simp only [execOp, ho]) (waih hT hm h (hf x) (hf y) x y)
 ·rename_i op _ x _ ho _
  exact QOK.pure hm (by simp only [execOp, ho]) (wazy h (hf x))
 ·rename_i s d x dst ho _
  obtain ⟨v, w', h1, h2⟩ := wacc hT hm h (hf x) hfree
  exact QOK.val (by simp [execOp, ho, h1]) h2
 ·rename_i e x d ho hd
  obtain ⟨cs, hc, h⟩ := wbc h
  simp only [Tr.ev_l, Option.some.injEq] at h
  subst h
  obtain ⟨h1, h2⟩ := wcj (hf x) hc
  exact QOK.val (by simp [execOp, ho, Instr.box, newVar, newRow]) (wamn (e := e) hm (hfree (d, .cells cs) (by simp)) h1 h2)
 ·rename_i e d ho hd
  obtain ⟨cs, hc, h⟩ := wbc h
  simp only [Tr.ev_l, Option.some.injEq] at h
  subst h
  obtain ⟨z, hz, h1, h2⟩ := wacd (P := P) (w := w) (lo := lo) (μ := μ) (S := SS X μ) hT hc
  exact QOK.val (by simp [execOp, ho, Instr.alloc, hz, newVar, newRow]) (wamn (e := e) hm (hfree (d, .cells cs) (by simp)) h1 h2)
 ·rename_i ty x _ ho _
  exact QOK.pure hm (by simp only [execOp, ho]) (wahn hT hm h (hf x))
 ·rename_i x _ ho _
  split at h
  next o' k hx =>
   have := waz h; subst this
   have hr := hf x
   rw [hx] at hr
   have h0 := hr
   generalize hv : a.eval x = v at hr h0
   cases hr with
   | box hμ => exact QOK.val (by simp [execOp, ho, hv]) (Nx.pure hm h0)
  next cs hx =>
   have := waz h; subst this
   have hr := hf x
   rw [hx] at hr
   have h0 := hr
   generalize hv : a.eval x = v at hr h0
   cases hr with
   | ptr xs h1 h2 h3 h4 => exact QOK.val (by simp [execOp, ho, hv]) (Nx.pure hm h0)
  next => cases h
 ·rename_i ty x i _ ho _
  unfold wox at h
  split at h
  next o' k hx =>
   split at h
   next ft off hfo =>
    have := waz h; subst this
    obtain ⟨fields, fl, hu, h1, h2, h3, ti, hti⟩ := wfu hT hfo
    obtain ⟨_, _, hsz0, _⟩ := wcs (w := w) hti
    have hpos := ti.size_pos
    have hr := hf x
    rw [hx] at hr
    generalize hv : a.eval x = v at hr
    cases hr with
    | @box _ _ b _ _ _ hμ =>
     refine QOK.val (x := .pointer (some ⟨b, k + off, none⟩)) ?_ (Nx.pure hm (.box hμ))
     simp [execOp, ho, hv, Instr.fieldAt, run_underlying hu, h1, Instr.sureAddr, fieldPlace, h2, h3, hsz0, show ti.size ≠ 0 by omega, Addr.add_lit]
   next => cases h
  next cs hx =>
   split at h
   next ft off hfo =>
    split at h
    next hlt =>
     have := waz h; subst this
     obtain ⟨fields, fl, hu, h1, h2, h3, ti, hti⟩ := wfu hT hfo
     obtain ⟨_, _, hsz0, _⟩ := wcs (w := w) hti
     have hpos := ti.size_pos
     have hr := hf x
     rw [hx] at hr
     generalize hv : a.eval x = v at hr
     cases hr with
     | @ptr _ _ b k xs hne hb hx' hr' =>
      refine QOK.val (x := .pointer (some ⟨b, k + off, none⟩)) ?_ (Nx.pure hm (.ptr (fun j => xs (off + j)) ?_ hb (fun j v hj => ?_) fun j v hj => ?_))
      ·simp [execOp, ho, hv, Instr.fieldAt, run_underlying hu, h1, Instr.sureAddr, fieldPlace, h2, h3, hsz0, show ti.size ≠ 0 by omega, Addr.add_lit]
      ·intro e
       have := congrArg List.length e
       simp at this
       omega
      ·rw [wo, List.getElem?_drop, ← wo] at hj
       rw [Nat.add_assoc]
       exact hx' _ _ hj
      ·rw [wo, List.getElem?_drop, ← wo] at hj
       exact hr' _ _ hj
    next => cases h
   next => cases h
  next o' j z hx =>
   split at h
   next ft off hfo =>
    have := waz h; subst this
    obtain ⟨fields, fl, hu, h1, h2, h3, ti, hti⟩ := wfu hT hfo
    obtain ⟨_, _, hsz0, _⟩ := wcs (w := w) hti
    have hpos := ti.size_pos
    have hr := hf x
    rw [hx] at hr
    generalize hv : a.eval x = v at hr
    cases hr with
    | @elt _ _ _ _ b _ _ _ _ hμ =>
     refine QOK.val (x := .pointer (some ⟨b, j * z + off, none⟩)) ?_ (Nx.pure hm (.fld hμ))
     simp [execOp, ho, hv, Instr.fieldAt, run_underlying hu, h1, Instr.sureAddr, fieldPlace, h2, h3, hsz0, show ti.size ≠ 0 by omega, Addr.add_lit]
   next => cases h
  next => cases h
 ·rename_i ty x i _ ho _
  unfold wamh at h
  split at h
  next cs hx =>
   split at h
   next ft off hfo =>
    split at h
    next sz hsz =>
     obtain ⟨v, hc, h⟩ := wbc h
     have := waz h; subst this
     obtain ⟨fields, fl, hu, h1, h2, h3, _⟩ := wfu hT hfo
     have hr := hf x
     rw [hx] at hr
     generalize hv : a.eval x = vx at hr
     cases hr with
     | agg hl hr' =>
      obtain ⟨y, hy1, hy2⟩ := wfc (.agg hl hr') hT hsz hc
      refine QOK.val (x := y) ?_ (Nx.pure hm hy2)
      simp [execOp, ho, hv, Instr.field, run_underlying hu, h1, h2, h3, asAgg, hy1]
    next => cases h
   next => cases h
  next => cases h
 ·rename_i ty x i _ ho _
  exact QOK.pure hm (by simp only [execOp, ho]) (wabs hT hm h (hf x) (hf i))
 ·rename_i ty x i _ ho _
  exact QOK.pure hm (by simp only [execOp, ho]) (wzj hT h (hf x) (hf i))
 ·rename_i x i _ ho _
  split at h
  next vs hx =>
   obtain ⟨v, hc, h⟩ := wbc h
   have := waz h; subst this
   have hr := hf x
   rw [hx] at hr
   generalize hv : a.eval x = vx at hr
   cases hr with
   | @tup _ _ xs hl hr' =>
    have hlt : i < xs.size := by rw [← hl]; rw [wo] at hc; exact (List.getElem?_eq_some_iff.1 hc).1
    have := hr' i v hc
    refine QOK.val (x := xs[i]) (by simp [execOp, ho, hv, Instr.extract, hlt]) (Nx.pure hm (by simpa [hlt] using this))
  next => cases h
 ·rename_i ty x l r _ ho _
  have hO : ∀ y : Option Operand, ORel P w lo μ (SS X μ) (y.map f) (y.map a.eval) := fun y => by
   cases y with
   | none => exact .none
   | some y => exact .some (hf y)
  exact QOK.pure hm (by simp only [execOp, ho, Option.map_none]) (wzl hT hm h (hf x) (hO l) (hO r))
 ·rename_i ty ps _ ho _
  obtain ⟨h1, h2⟩ := wkv a hf ps
  exact QOK.pure hm (by simp only [execOp, ho]) (wabu hT h h1 h2)
 ·rename_i ty n ps d ho hd
  obtain ⟨h1, h2⟩ := wkv a hf ps
  obtain ⟨v, w', h3, h4⟩ := wzm hT hm h hfree h1 h2
  exact QOK.val (x := v) (w' := w') (by simp only [execOp, ho]; simp [h3]) h4
 ·rename_i ty l c d ho hd
  have hd0 : μ d = none := by
   have h' := h
   unfold wahh at h'
   split at h'
   ·split at h'
    ·obtain ⟨_, h'⟩ := ev_g h'
     split at h'
     ·simp only [Tr.ev_l, Option.some.injEq] at h'
      subst h'
      exact hfree (d, _) (List.mem_cons_self)
     ·cases h'
    ·cases h'
   ·cases h'
  obtain ⟨v, w', h3, h4⟩ := wahq hT hm hd0 h (hf l) (hf c)
  exact QOK.val (x := v) (w' := w') (by simp only [execOp, ho]; simp [h3]) h4
 ·rename_i k first caps _ ho _
  split at h
  next h0 =>
   have := waz h; subst this
   have hfirst : first = #[] := Array.eq_empty_of_size_eq_zero h0
   obtain ⟨h1, h2⟩ := wha a hf caps
   refine QOK.val (x := .func (.func k) #[] (caps.map a.eval)) (by simp [execOp, ho, Instr.makeFunc, hfirst]) (Nx.pure hm (.fn h1 fun j v hj => ?_))
   exact (h2 j v hj).step (fun _ _ h => h) hm.hlo (fun b _ hS => ⟨.inl hS, rfl⟩) fun _ _ => rfl
  next h0 =>
   split at h
   next hc0 =>
    have := waz h; subst this
    have hcaps : caps = #[] := Array.eq_empty_of_size_eq_zero hc0
    obtain ⟨h1, h2⟩ := wha a hf first
    refine QOK.val (x := .func (.func k) (first.map a.eval) #[]) (by simp [execOp, ho, Instr.makeFunc, hcaps]) (Nx.pure hm (.bnd (by simp) fun j v hj => ?_))
    have e : (first.toList.map fun x => pur1 (f x)) = (first.toList.map f).map pur1 := by simp
    rw [e, wo, List.getElem?_map] at hj
    cases hu : (first.toList.map f)[j]? with
    | none => rw [hu] at hj; cases hj
    | some u =>
     rw [hu] at hj
     simp only [Option.map_some, Option.some.injEq] at hj
     subst hj
     exact wpj (fun _ _ h => h) (h2 j u (by rw [wo]; exact hu))
   next => cases h
 ·rename_i as ts _ ho _
  split at h
  next x ty has hts =>
   have e1 : as = #[x] := by rw [← Array.toArray_toList (xs := as), has]
   have e2 : ts = #[ty] := by rw [← Array.toArray_toList (xs := ts), hts]
   refine QOK.pure hm (s := Builtin.len_ #[ty] o.type #[a.eval x]) ?_ (waoo hT hm h (hf x))
   simp [execOp, ho, e1, e2, resolve, invoke, builtin]
  next => cases h
 ·rename_i as ts _ ho _
  split at h
  next x ty has hts =>
   have e1 : as = #[x] := by rw [← Array.toArray_toList (xs := as), has]
   have e2 : ts = #[ty] := by rw [← Array.toArray_toList (xs := ts), hts]
   refine QOK.pure hm (s := Builtin.cap_ #[ty] o.type #[a.eval x]) ?_ (waop hT h (hf x))
   simp [execOp, ho, e1, e2, resolve, invoke, builtin]
  next => cases h
 ·rename_i as ts _ ho _
  obtain ⟨h1, h2⟩ := wha a hf as
  refine QOK.pure hm (s := Builtin.min_ ts o.type (as.map a.eval)) ?_ (woc h h1 h2 ts o.type)
  simp [execOp, ho, resolve, invoke, builtin]
 ·rename_i as ts _ ho _
  obtain ⟨h1, h2⟩ := wha a hf as
  refine QOK.pure hm (s := Builtin.max_ ts o.type (as.map a.eval)) ?_ (woc h h1 h2 ts o.type)
  simp [execOp, ho, resolve, invoke, builtin]
 ·cases h
end
end Go.Proofs.Ytnagpmhaddfgmaa
