/-
 The front by hand: which of the sets' rows the marks bear, through the sort; the rows that are handed back are apart.
-/
import Derived.Test.YtnagpmhaddfgmaaB31
import Derived.Test.YtnagpmhaddfgmaaProg
import Derived.HandedShaped
import Derived.Test.YtnagpmhaddfgmaaB26
import Derived.Sort.WalkC4
namespace Go.Proofs.Ytnagpmhaddfgmaa
open Go.RowKit
open Go.Proofs.Try
abbrev tM : Ty := .pair (.pair (.int .i64) (.int .i64)) .hdr
def wud (G : Int → Option (List Nat × List (List Int))) : FD where
 A := .cons (.dat (.int .i64)) .nil
 ins := []
 lend := []
 R := List Nat × List (List Int)
 F := fun x => G x.1.1
 emb := fun r => ([.arr 0], [(0, .perm false 22 3 (.int .i64) r.1 r.2)])
def wapi (G : List Int → List (List Int) → List Int → Int → Option Int) : FD where
 A := .cons (.agg (.cons (.dat (.slice (.int .i64))) (.cons (.dat (.slice (.slice (.int .i64)))) .nil))) (.cons (.dat (.slice (.int .i64))) (.cons (.dat (.int .i64)) .nil))
 ins := []
 lend := []
 R := Int
 F := fun x => G x.1.1.1 x.1.1.2.1 x.1.2.1 x.1.2.2.1
 emb := fun r => ([.dat (.int .i64) r], [])
theorem wrt {f : Nat} {vals : Array Value} {w : World} {R : Value → World → Prop} (he : (callFunc f vals).run prog w = .ok (.enter f vals) w) (h : CallR prog f vals w R) : Calls prog f vals w fun e w' => ∃ x, e = .returned x ∧ R x w' := by
 rcases h with ⟨_, h⟩ | ⟨x, w', h, _⟩
 ·exact h
 ·rw [he] at h
  cases h
theorem wbgb {w : World} {X : Nat → Prop} (hX : ∀ b, X b → b < w.heap.size) : Mem prog X (old w fun _ => none) (look []) (fun _ => none) w :=
 ⟨fun b hb => ⟨hX b hb, fun o mv h => (by cases h)⟩, fun b hb => hb.1, fun o mv h => (by cases h), fun o p mv mv' b h => (by cases h), fun p hp => (by cases hp)⟩
abbrev noM : Nat → Option MV := fun _ => none
theorem ret1 {w' : World} {lo S : Nat → Prop} {μ : Nat → Option MV} {v : AV} {x : Value} (h : RelR prog w' lo μ S [v] x) : RelV prog w' lo μ S v x := by
 rcases h with ⟨v', e, h⟩ | ⟨e, _⟩
 ·cases e
  exact h
 ·exact absurd rfl e
theorem wadq {w w' : World} (h : Kept (old w noM) w w') : Below w.heap.size w w' := ⟨h.os, h.tape, h.output, h.size, fun b hb => h.block b ⟨hb, fun o mv h => (by cases h)⟩⟩
theorem wadr {G : Int → Option (List Nat × List (List Int))} (hs : war prog (61, wud G)) {n : Int} {r : List Nat × List (List Int)} (hr : G n = some r) (w : World) :
  Calls prog 61 #[.int .i64 n] w fun e w' => ∃ a c rs hds S, e = .returned (.slice a r.1.length c) ∧ Below w.heap.size w w' ∧ PermOK w' (fun b => b < w.heap.size) S 22 3 (.int .i64) r.1 r.2 ⟨.slice a r.1.length c, rs, hds⟩ := by
 have h := hs ⟨(n, ()), ()⟩ r hr w (fun _ => False) noM #[.int .i64 n] (fun b h => h.elim) (wbgb fun b h => h.elim) (fun p hp => by cases hp) rfl fun j v hj => by
  match j, hj with
  | 0, hj => cases hj; exact .dat rfl rfl
 have hb : f61.body.isSome = true := by kernel_rfl
 obtain ⟨cd, hc⟩ := Option.isSome_iff_exists.1 hb
 refine (wrt (whl func61 (by kernel_rfl) hc _ w) h).mono ?_
 rintro e w' ⟨x, rfl, hk, μ, hm, _, _, hR⟩
 have hR := ret1 hR
 cases hR with
 | @arr _ _ a m c rs hds hμ =>
  obtain ⟨ob, hob, hobo⟩ := hm.ob _ _ hμ
  cases hob
  have hP : PermOK w' (old w noM) (SS (fun _ => False) μ) 22 3 (.int .i64) r.1 r.2 ⟨.slice a m c, rs, hds⟩ := hobo
  have hm' : m = r.1.length := by
   rcases hP.own.2 with ⟨e1, h0⟩ | ⟨g, cap, cur, e1, _⟩
   ·simp only [Value.slice.injEq] at e1
    rw [e1.2.1]
    exact h0.symm
   ·simp only [Value.slice.injEq] at e1
    exact e1.2.1
  subst hm'
  exact ⟨a, c, rs, hds, _, rfl, wadq hk, hP.own, hP.len, hP.top, fun b hb => ⟨fun h => (hP.low b hb).1 ⟨h, fun o mv h => (by cases h)⟩, (hP.low b hb).2⟩, hP.slc, hP.row, hP.apart⟩
end Go.Proofs.Ytnagpmhaddfgmaa
/-
 The front by hand: the code behind the call of sets goes by the evaluator, in a state that knows the rows' headers.
-/
namespace Go.Proofs.Ytnagpmhaddfgmaa
open Go.RowKit
open Go.Proofs.Try
def seqA : Code → Code
 | .seq a _ => a
 | c => c
def seqB : Code → Code
 | .seq _ b => b
 | c => c
noncomputable def frL : Code := seqB (seqA (seqB (seqB ((f36.body).getD .skip))))
noncomputable def frT : Code := seqB (seqB (seqB ((f36.body).getD .skip)))
theorem wbae [Tabs] {E : Env} {tt : Nat → TD} {fz : Nat → Nat → List Nat} {l : List (Nat × LD)} {X lo : Nat → Prop} {N : Par} {w0 : World} {x y : Code} (hm : prog.follows .mixedOrders = true) (hE : wfe prog E) (hT : waj prog tt) (hl : wz E tt fz l (.seq x y)) (hc : wba fz N.k N.n (.seq x y) = true)
  {s : St} {a : Act} {w : World} {μ : Nat → Option MV} {out : Out} (h : Rel prog X lo N w0 s a w μ) (he : (wcc E tt fz (wai l) (.seq x y) s).ev = some out) {Q : Exit → Act → World → Prop} (hQ : ∀ e a w, Post prog X lo N w0 out e a w → Q e a w) {K : Act → World → Prop} (hK : ∀ a w, y.wp prog Q a w → K a w) :
  x.wp prog (Exit.then K Q) a w := by
 have hs := wcu (X := X) (lo := lo) (w0 := w0) (N := N) hm hE hT (.seq x y) hl hc
 simp only [wba, Bool.and_eq_true] at hc
 simp only [wbg, List.mem_append] at hs
 simp only [wcc, Tr.ev_bind] at he
 obtain ⟨o, h1, h2⟩ := wcn he
 refine Code.wp_mono (fun e a' w' hp => ?_) (wer hm hE hT x (fun p hp => hs p (.inl hp)) hc.1 s a w μ o h h1)
 cases e with
 | normal =>
  obtain ⟨s', μ', rfl, h'⟩ := hp
  exact hK _ _ (Code.wp_mono (fun e a w h => hQ e a w h) (wer hm hE hT y (fun p hp => hs p (.inr hp)) hc.2 s' a' w' μ' out h' h2))
 | exit id =>
  obtain ⟨s', μ', rfl, h'⟩ := hp
  simp only [Tr.ev_l, Option.some.injEq] at h2
  subst h2
  exact hQ (.exit id) _ _ ⟨s', μ', rfl, h'⟩
 | ret =>
  obtain ⟨s', μ', rfl, h'⟩ := hp
  simp only [Tr.ev_l, Option.some.injEq] at h2
  subst h2
  exact hQ .ret _ _ ⟨s', μ', rfl, h'⟩
 | _ => exact hp.elim
def actF (vf : Value) (a b : Int) (B : Nat) (vo : Value) (n : Nat) (v20 : Value) (m : Nat) : Act :=
 {tmps := ([vf, .int .i64 a, .int .i64 b, .pointer (some ⟨B, 0, none⟩), undef, undef, .slice none 0 0, .slice none 0 0, .slice (some ⟨B + 1, 0, none⟩) 0 0, undef, undef, undef, undef, undef, undef, undef, .slice (some ⟨B + 1, 0, none⟩) 0 0, .pointer (some ⟨B, 0, none⟩), vo, .int .i64 n, v20, .int .i64 m, .int .i64 0] ++ List.replicate 57 undef).toArray, defers := [] }
set_option maxHeartbeats 1600000 in
set_option maxRecDepth 1000000 in
theorem wue {Gs : Int → Option (List Nat × List (List Int))} (hs : war prog (61, wud Gs)) {a b : Int} {r : List Nat × List (List Int)} (w : World) {ao : Option Addr} {no co : Nat} {vd : Value} (hr : Gs no = some r) {R : Ending → World → Prop}
  (hrest : ∀ (aw : Option Addr) (cw : Nat) (rs : List Nat) (hds : List Value) (S : Nat → Prop) (w2 : World), Below (w.heap.size + 2) ((w.alloc (.cells #[.slice ao no co, vd] 29)).alloc (.cells #[] 75)) w2 → PermOK w2 (fun b => b < w.heap.size + 2) S 22 3 (.int .i64) r.1 r.2 ⟨.slice aw r.1.length cw, rs, hds⟩ →
   ∀ K : Act → World → Prop, (∀ a w, frT.wp prog (bodyPost prog f36 R) a w → K a w) → frL.wp prog (Exit.then K (bodyPost prog f36 R)) (actF (.agg #[.slice ao no co, vd]) a b w.heap.size (.slice ao no co) no (.slice aw r.1.length cw) r.1.length) w2) :
  Calls prog 36 #[.agg #[.slice ao no co, vd], .int .i64 a, .int .i64 b] w R := by
 have hW : Hid (∀ w1 : World, Calls prog 61 #[.int .i64 no] w1 fun e w' => ∃ a c rs hds S, e = .returned (.slice a r.1.length c) ∧ Below w1.heap.size w1 w' ∧ PermOK w' (fun b => b < w1.heap.size) S 22 3 (.int .i64) r.1 r.2 ⟨.slice a r.1.length c, rs, hds⟩) := fun w1 => wadr hs hr w1
 clear hr hs
 go_enter func36, (show (f36).ntmps = 80 from by kernel_rfl)
 change Code.wp prog (.seq _ (.seq _ (.seq (.seq _ frL) frT))) _ _ _
 have hrest := Hid.mk' hrest
 generalize frL = L1 at *
 generalize frT = T1 at *
 go_wp2_with (go_at_call 61; refine (hW.out _).mono ?_; rintro e w2 ⟨aw, cw, rs, hds, S, rfl, hX⟩; have hX := Hid.mk' hX)
 obtain ⟨hB, hP⟩ := hX.out
 exact hrest.out aw cw rs hds S w2 (by simpa using hB) (by simpa using hP) _ (by assumption)
end Go.Proofs.Ytnagpmhaddfgmaa
/-
 The front by hand: rows as headers; the state behind the call of sets.
-/
namespace Go.Proofs.Ytnagpmhaddfgmaa
open Go.RowKit
open Go.Proofs.Try
abbrev wlp := (Nat × Value) × List Int
theorem wbaf {S : Nat → Prop} {w : World} {h : Value} {r : List Int} (k : Nat) (hr : Rep S w (.slice (.int .i64)) r [h]) : Rep S w .hdr (((k, h), r) : wlp) [h] := by
 simp only [Rep] at hr ⊢
 obtain ⟨a, cap, e, hle, hel⟩ := hr
 simp only [List.cons.injEq, and_true] at e
 subst e
 refine ⟨a, cap, rfl, rfl, hle, fun i n hn => ?_⟩
 obtain ⟨b, off, c, h1, h2, h3, h4⟩ := hel i n hn
 subst h3
 have := h4 0 _ rfl
 simp only [Ty.size, Nat.mul_one, Nat.add_zero] at this
 exact ⟨b, off, h1, h2, this⟩
theorem wbag {S : Nat → Prop} {w : World} {x : wlp} {v : Value} (hr : Rep S w .hdr x [v]) : Rep S w (.slice (.int .i64)) x.2 [v] := by
 obtain ⟨⟨k, h⟩, r⟩ := x
 simp only [Rep] at hr ⊢
 obtain ⟨a, cap, e, _, hle, hel⟩ := hr
 simp only [List.cons.injEq, and_true] at e
 subst e
 refine ⟨a, cap, rfl, hle, fun i n hn => ?_⟩
 obtain ⟨b, off, h1, h2, h3⟩ := hel i n hn
 refine ⟨b, off, [.int .i64 n], h1, h2, rfl, fun j u hj => ?_⟩
 match j, hj with
 | 0, hj =>
  cases hj
  simp only [Ty.size, Nat.mul_one, Nat.add_zero]
  exact h3
theorem wapj {S : Nat → Prop} {w : World} {x : wlp} {v : Value} (hr : Rep S w .hdr x [v]) : x.1.2 = v := by
 simp only [Rep] at hr
 obtain ⟨a, cap, e, e2, _⟩ := hr
 simp only [List.cons.injEq, and_true] at e
 rw [e, e2]
def wwq (G : List Int → List (List Int) → List Int → Int → Option Int) : FD where
 A := .cons (.agg (.cons (.dat (.slice (.int .i64))) (.cons (.dat (.slice (.slice (.int .i64)))) .nil))) (.cons (.dat .hdr) (.cons (.dat (.int .i64)) .nil))
 ins := []
 lend := []
 R := Int
 F := fun x => G x.1.1.1 x.1.1.2.1 x.1.2.1.2 x.1.2.2.1
 emb := fun r => ([.dat (.int .i64) r], [])
theorem wuf {G : List Int → List (List Int) → List Int → Int → Option Int} (h : war prog (62, wapi G)) : war prog (62, wwq G) := by
 intro x r hr w X μi vals hX hm hins hsz hv
 obtain ⟨⟨⟨o, ds, u1⟩, s, k, u2⟩, u3⟩ := x
 refine h ⟨((o, (ds, ())), (s.2, (k, ()))), ()⟩ r hr w X μi vals hX hm (fun p hp => by cases hp) hsz fun j v hj => ?_
 match j, hj with
 | 0, hj => exact hv 0 _ hj
 | 1, hj =>
  cases hj
  have := hv 1 (.dat .hdr s) rfl
  generalize vals.getD 1 undef = y at this ⊢
  cases this with
  | dat _ hr => exact .dat rfl (wbag hr)
 | 2, hj => exact hv 2 _ hj
def wdc (ix : List Nat) (l : List (List Int)) (hds : List Value) : List wlp := (List.range ix.length).map fun j => ((j, hds.getD (ix.getD j 0) (.slice none 0 0)), l.getD (ix.getD j 0) [])
theorem wajc {w : World} {lo S S' : Nat → Prop} {e e2 : Nat} {ix : List Nat} {l : List (List Int)} {a : Option Addr} {c : Nat} {rs : List Nat} {hds : List Value} (hP : PermOK w lo S e e2 (.int .i64) ix l ⟨.slice a ix.length c, rs, hds⟩) (hix : ∀ i ∈ ix, i < l.length) (hS : ∀ b ∈ rs, S' b) :
  Rep S' w (.slice .hdr) (wdc ix l hds) [.slice a ix.length c] := by
 have hlen : (wdc ix l hds).length = ix.length := by simp [wdc]
 have hrow : ∀ j, j < ix.length → Rep S' w .hdr ((wdc ix l hds).getD j ((0, .slice none 0 0), [])) [hds.getD (ix.getD j 0) (.slice none 0 0)] := fun j hj => by
  have e1 : (wdc ix l hds).getD j ((0, .slice none 0 0), []) = ((j, hds.getD (ix.getD j 0) (.slice none 0 0)), l.getD (ix.getD j 0) []) := by
   simp [wdc, List.getD_eq_getElem?_getD, hj]
  rw [e1]
  have hi : ix.getD j 0 < l.length := by
   rw [List.getD_eq_getElem?_getD, List.getElem?_eq_getElem hj]
   exact hix _ (List.getElem_mem hj)
  have hi2 : ix.getD j 0 < hds.length := by have := hP.len; simp only at this; omega
  have e2' : hds[ix.getD j 0]? = some (hds.getD (ix.getD j 0) (.slice none 0 0)) := by
   rw [List.getD_eq_getElem?_getD (l := hds), List.getElem?_eq_getElem hi2]
   rfl
  have e3 : l[ix.getD j 0]? = some (l.getD (ix.getD j 0) []) := by
   rw [List.getD_eq_getElem?_getD (l := l), List.getElem?_eq_getElem hi]
   rfl
  obtain ⟨k1, xs, k2, k3⟩ := hP.row _ _ _ e2' e3
  exact wbaf j (wlb (t := .int .i64) k2 (fun b hb _ => ⟨hS b (k1 b hb).1, rfl⟩) (k3.plain rfl))
 have hL : RepL S' w .hdr (wdc ix l hds) (ix.map fun i => hds.getD i (.slice none 0 0)) := by
  have gen : ∀ (L : List wlp) (vs : List Value), L.length = vs.length → (∀ j, j < L.length → Rep S' w .hdr (L.getD j ((0, .slice none 0 0), [])) [vs.getD j (.slice none 0 0)]) → RepL S' w .hdr L vs := by
   intro L
   induction L with
   | nil => intro vs hl _; have : vs = [] := List.eq_nil_of_length_eq_zero (by simpa using hl.symm); subst this; rfl
   | cons x L ih =>
    intro vs hl h
    cases vs with
    | nil => simp at hl
    | cons v vs => exact ⟨[v], vs, rfl, h 0 (by simp), ih vs (by simpa using hl) fun j hj => h (j + 1) (by simpa using hj)⟩
  refine gen _ _ (by rw [hlen, List.length_map]) fun j hj => ?_
  rw [hlen] at hj
  have := hrow j hj
  rw [show (ix.map fun i => hds.getD i (.slice none 0 0)).getD j (.slice none 0 0) = hds.getD (ix.getD j 0) (.slice none 0 0) by simp [List.getD_eq_getElem?_getD, hj]]
  exact this
 have hown := hP.own
 simp only at hown
 rw [← hlen] at hown ⊢
 exact wlb (t := .hdr) hown (fun b hb _ => ⟨hS b (hP.top b (by rw [← hb, hlen])), rfl⟩) hL
end Go.Proofs.Ytnagpmhaddfgmaa
/-
 The front by hand: what is known behind the call of sets.
-/
namespace Go.Proofs.Ytnagpmhaddfgmaa
open Go.RowKit
open Go.Proofs.Try
def stF (o : List Int) (ds : List (List Int)) (a b : Int) (L : List wlp) : St :=
 {fr := [(1, .dat (.int .i64) a), (2, .dat (.int .i64) b), (3, .box 3 0), (8, .arr 16), (20, .dat (.slice .hdr) L), (21, .dat (.int .i64) ((L.length : Nat) : Int)), (22, .dat (.int .i64) (0 : Int))]
  ob := [(3, .cells [.dat (.slice (.int .i64)) o, .dat (.slice (.slice (.int .i64))) ds]), (16, .arr 75 tM [])] }
def muF (B o : Nat) : Option MV := if o = 3 then some ⟨.pointer (some ⟨B, 0, none⟩), [B], []⟩ else if o = 16 then some ⟨.slice (some ⟨B + 1, 0, none⟩) 0 0, [B + 1], []⟩ else none
theorem wpw {B o : Nat} {mv : MV} (h : muF B o = some mv) : (o = 3 ∧ mv = ⟨.pointer (some ⟨B, 0, none⟩), [B], []⟩) ∨ (o = 16 ∧ mv = ⟨.slice (some ⟨B + 1, 0, none⟩) 0 0, [B + 1], []⟩) := by
 unfold muF at h
 split at h
 ·exact .inl ⟨by assumption, (Option.some.inj h).symm⟩
 ·split at h
  ·exact .inr ⟨by assumption, (Option.some.inj h).symm⟩
  ·cases h
theorem wug {B b : Nat} {o : Nat} {mv : MV} (h : muF B o = some mv) (hb : b ∈ mv.rs) : b = B ∨ b = B + 1 := by
 rcases wpw h with ⟨_, rfl⟩ | ⟨_, rfl⟩
 ·exact .inl (List.mem_singleton.1 hb)
 ·exact .inr (List.mem_singleton.1 hb)
theorem wbgd {w w2 : World} {o : List Int} {ds : List (List Int)} {a b : Int} {ao aw : Option Addr} {co cw : Nat} {vd : Value} {r : List Nat × List (List Int)} {rs : List Nat} {hds : List Value} {S : Nat → Prop} {vf : Nat → Value}
  (ho : Rep (fun _ => True) w (.slice (.int .i64)) o [.slice ao o.length co]) (hd : Rep (fun _ => True) w (.slice (.slice (.int .i64))) ds [vd])
  (hB : Below (w.heap.size + 2) ((w.alloc (.cells #[.slice ao o.length co, vd] 29)).alloc (.cells #[] 75)) w2) (hP : PermOK w2 (fun b => b < w.heap.size + 2) S 22 3 (.int .i64) r.1 r.2 ⟨.slice aw r.1.length cw, rs, hds⟩) (hix : ∀ i ∈ r.1, i < r.2.length) :
  Rel prog (fun _ => False) (old w2 (muF w.heap.size)) ⟨80, [], vf⟩ w2 (stF o ds a b (wdc r.1 r.2 hds)) (actF (.agg #[.slice ao o.length co, vd]) a b w.heap.size (.slice ao o.length co) o.length (.slice aw r.1.length cw) r.1.length) w2 (muF w.heap.size) := by
 have hlow : ∀ k, k < w.heap.size → w2.heap[k]? = w.heap[k]? := fun k hk => by
  rw [hB.block k (by omega), heap_alloc_old _ _ (show k < (w.alloc _).heap.size by simp; omega), heap_alloc_old w _ hk]
 have h0 : w2.heap[w.heap.size]? = some (.cells #[.slice ao o.length co, vd] 29) := by
  rw [hB.block _ (by omega), heap_alloc_old _ _ (show w.heap.size < (w.alloc _).heap.size by simp), heap_alloc_new]
 have h1 : w2.heap[w.heap.size + 1]? = some (.cells #[] 75) := by
  rw [hB.block _ (by omega)]
  have := heap_alloc_new (w.alloc (.cells #[.slice ao o.length co, vd] 29)) (.cells #[] 75)
  simpa using this
 have hsz : w.heap.size + 2 ≤ w2.heap.size := by have := hB.size; simpa using this
 have hSS : ∀ k, k < w.heap.size → SS (fun _ => False) (muF w.heap.size) k := fun k hk => ⟨fun h => h, fun o mv h hb => by
  rcases wug h hb with e | e <;> omega⟩
 have hrs : ∀ k ∈ rs, SS (fun _ => False) (muF w.heap.size) k := fun k hk => ⟨fun h => h, fun o mv h hb => by
  have := (hP.low k hk).1
  simp only [Nat.not_lt] at this
  rcases wug h hb with e | e <;> omega⟩
 have tr : ∀ {t : Ty} {x : t.I} {v : Value}, Rep (fun _ => True) w t x [v] → Rep (SS (fun _ => False) (muF w.heap.size)) w2 t x [v] := fun h => h.step fun k hk _ => ⟨hSS k hk, hlow k hk⟩
 have hno : ∀ k, (k = w.heap.size ∨ k = w.heap.size + 1) → ¬ old w2 (muF w.heap.size) k := fun k hk h => by
  rcases hk with rfl | rfl
  ·exact h.2 3 _ rfl (List.mem_singleton.2 rfl)
  ·exact h.2 16 _ rfl (List.mem_singleton.2 rfl)
 refine ⟨⟨fun b h => h.elim, fun b hb => hb.1, fun o' mv hm => ?_, fun o1 o2 mv mv' k h2 h3 hb1 hb2 => ?_, fun p hp => by cases hp⟩, fun i => ?_, Kept.refl _ _, rfl, ?_⟩
 ·rcases wpw hm with ⟨rfl, rfl⟩ | ⟨rfl, rfl⟩
  ·refine ⟨_, rfl, w.heap.size, _, _, rfl, hno _ (.inl rfl), h0, rfl, fun j v hj => ?_⟩
   match j, hj with
   | 0, hj => cases hj; exact .dat rfl (tr ho)
   | 1, hj => cases hj; exact .dat rfl (tr hd)
  ·refine ⟨_, rfl, ⟨rfl, rfl⟩, fun k hk => hno k (.inr ?_), [], ⟨rfl, .inr ⟨_, 0, _, rfl, Nat.zero_le _, h1, Nat.le_refl _, Nat.zero_le _, rfl, rfl⟩⟩, rfl⟩
   simp only [wu, Option.some.injEq] at hk
   exact hk.symm
 ·rcases wpw h2 with ⟨rfl, rfl⟩ | ⟨rfl, rfl⟩ <;> rcases wpw h3 with ⟨rfl, rfl⟩ | ⟨rfl, rfl⟩
  ·rfl
  ·have e1 := List.mem_singleton.1 hb1
   have e2 := List.mem_singleton.1 hb2
   omega
  ·have e1 := List.mem_singleton.1 hb1
   have e2 := List.mem_singleton.1 hb2
   omega
  ·rfl
 ·have hL : (wdc r.1 r.2 hds).length = r.1.length := by simp [wdc]
  match i with
  | 1 => exact .dat rfl rfl
  | 2 => exact .dat rfl rfl
  | 3 => exact .box (o := 3) rfl
  | 8 => exact .arr (o := 16) rfl
  | 20 => exact .dat rfl (wajc hP hix hrs)
  | 21 =>
   show RelV _ _ _ _ _ (.dat (.int .i64) ((((wdc r.1 r.2 hds).length : Nat)) : Int)) _
   rw [hL]
   exact .dat rfl rfl
  | 22 => exact .dat rfl rfl
  | 0 | 4 | 5 | 6 | 7 | 9 | 10 | 11 | 12 | 13 | 14 | 15 | 16 | 17 | 18 | 19 => exact .undef
  | n + 23 => exact .undef
 ·exact ⟨by simp [actF], fun q hq => by cases hq⟩
end Go.Proofs.Ytnagpmhaddfgmaa
/-
 The front by hand: its contract: points and rows of one's own.
-/
namespace Go.Proofs.Ytnagpmhaddfgmaa
open Go.RowKit
open Go.Proofs.Try
abbrev FrTr := List Int → List (List Int) → Int → Int → List wlp → Tr (List (Int × Int) × List wlp)
abbrev waac := List (Int × Int) × List (List Int)
def hOf (ix : List Nat) (hds : List Value) (j : Nat) : Value := hds.getD (ix.getD j 0) (.slice none 0 0)
def rowOf (ix : List Nat) (l : List (List Int)) (j : Nat) : List Int := l.getD (ix.getD j 0) []
def FrontR (Gs : Int → Option (List Nat × List (List Int))) (T : FrTr) (o : List Int) (ds : List (List Int)) (a b : Int) (z : waac) : Prop :=
 ∃ (ix : List Nat) (l : List (List Int)) (js : List Nat), Gs o.length = some (ix, l) ∧ (∀ i ∈ ix, i < l.length) ∧ ix.Nodup ∧ js.Nodup ∧ (∀ j ∈ js, j < ix.length) ∧ z.2 = js.map (rowOf ix l) ∧
  ∀ hds : List Value, hds.length = l.length → (T o ds a b (wdc ix l hds)).ev = some (z.1, js.map fun j => ((j, hOf ix hds j), rowOf ix l j))
noncomputable def wlq (Gs : Int → Option (List Nat × List (List Int))) (T : FrTr) (o : List Int) (ds : List (List Int)) (a b : Int) : Option waac :=
 open Classical in if h : ∃ z, FrontR Gs T o ds a b z then some h.choose else none
theorem wajd {Gs : Int → Option (List Nat × List (List Int))} {T : FrTr} {o : List Int} {ds : List (List Int)} {a b : Int} {z : waac} (h : wlq Gs T o ds a b = some z) : FrontR Gs T o ds a b z := by
 unfold wlq at h
 split at h
 next hz => rw [← Option.some.inj h]; exact hz.choose_spec
 next => cases h
theorem FrontR.uniq {Gs : Int → Option (List Nat × List (List Int))} {T : FrTr} {o : List Int} {ds : List (List Int)} {a b : Int} {z y : waac} (h : FrontR Gs T o ds a b z) (k : FrontR Gs T o ds a b y) : z = y := by
 obtain ⟨ix, l, js, e1, _, _, _, _, e2, e3⟩ := h
 obtain ⟨ix', l', js', f1, _, _, _, _, f2, f3⟩ := k
 rw [e1] at f1
 cases f1
 have h1 := e3 (List.replicate l.length (.slice none 0 0)) (by simp)
 have h2 := f3 (List.replicate l.length (.slice none 0 0)) (by simp)
 rw [h1] at h2
 simp only [Option.some.injEq, Prod.mk.injEq] at h2
 have hj := congrArg (List.map fun x : wlp => x.1.1) h2.2
 simp only [List.map_map] at hj
 have hj' : js = js' := by simpa [Function.comp_def] using hj
 exact Prod.ext h2.1 (by rw [e2, f2, hj'])
theorem wads {Gs : Int → Option (List Nat × List (List Int))} {T : FrTr} {o : List Int} {ds : List (List Int)} {a b : Int} {z : waac} (h : FrontR Gs T o ds a b z) : wlq Gs T o ds a b = some z := by
 unfold wlq
 rw [dif_pos ⟨z, h⟩]
 exact congrArg some (FrontR.uniq (Exists.choose_spec (p := fun z => FrontR Gs T o ds a b z) ⟨z, h⟩) h)
noncomputable def wuh (Gs : Int → Option (List Nat × List (List Int))) (T : FrTr) : FD where
 A := .cons (.agg (.cons (.dat (.slice (.int .i64))) (.cons (.dat (.slice (.slice (.int .i64)))) .nil))) (.cons (.dat (.int .i64)) (.cons (.dat (.int .i64)) .nil))
 ins := []
 lend := []
 R := waac
 F := fun x => wlq Gs T x.1.1.1 x.1.1.2.1 x.1.2.1 x.1.2.2.1
 emb := fun r => ([.arr 0, .arr 1], [(0, .arr 61 (.pair (.int .i64) (.int .i64)) r.1), (1, .rows 22 3 (.int .i64) r.2 none)])
def kF : RetK := { acts := [.ren 43 0, .ren 44 1], res := [.tmp 6, .tmp 7], sh := .cons (.arr 0) (.cons (.arr 1) .nil), obs := [(0, .arr 61 (.pair (.int .i64) (.int .i64))), (1, .arr 22 .hdr)], pins := [] }
def rhoF (r : List (Int × Int) × List wlp) : kF.T := (((), ((), ())), (r.1, (r.2, ())))
theorem wru {S : Nat → Prop} {w : World} : ∀ {L : List wlp} {xs : List Value}, RepL S w .hdr L xs → xs = L.map fun x => x.1.2
 | [], xs, h => h
 | x :: L, xs, ⟨c, r, e, h1, h2⟩ => by
  obtain ⟨v, rfl⟩ : ∃ v, c = [v] := List.length_eq_one_iff.1 h1.len
  rw [e, wru h2, List.map_cons, wapj h1]
  rfl
theorem wadt {w w2 w' : World} {X : Nat → Prop} {B : Nat} (hBw : B = w.heap.size) {aw : Option Addr} {cw : Nat} {ix : List Nat} {l : List (List Int)} {rs : List Nat} {hds : List Value} {S : Nat → Prop} {js : List Nat} {pts : List (Int × Int)} {v : Value}
  (hX : ∀ b, X b → b < w.heap.size) (hlow : ∀ k, k < w.heap.size → w2.heap[k]? = w.heap[k]?) (hos : w2.os = w.os) (htp : w2.tape = w.tape) (hout : w2.output = w.output) (hsz : w.heap.size + 2 ≤ w2.heap.size)
  (hP : PermOK w2 (fun b => b < w.heap.size + 2) S 22 3 (.int .i64) ix l ⟨.slice aw ix.length cw, rs, hds⟩) (hix : ∀ i ∈ ix, i < l.length) (hnd : ix.Nodup) (hjd : js.Nodup) (hj : ∀ j ∈ js, j < ix.length)
  (h : wqv prog (fun _ => False) (old w2 (muF B)) w2 w' (muF B) ([.arr 0, .arr 1], [(0, .arr 61 (.pair (.int .i64) (.int .i64)) pts), (1, .arr 22 .hdr (js.map fun j => (((j, hOf ix hds j), rowOf ix l j) : wlp)))]) v) :
  wqv prog X (old w noM) w w' noM ([.arr 0, .arr 1], [(0, .arr 61 (.pair (.int .i64) (.int .i64)) pts), (1, .rows 22 3 (.int .i64) (js.map (rowOf ix l)) none)]) v := by
 subst hBw
 obtain ⟨hk, μ, hm, _, _, hR⟩ := h
 have hold : ∀ b, b < w2.heap.size → b ≠ w.heap.size → b ≠ w.heap.size + 1 → old w2 (muF w.heap.size) b := fun b h1 h2 h3 => ⟨h1, fun o mv hmv hb => by
  rcases wug hmv hb with e | e
  ·exact h2 e
  ·exact h3 e⟩
 rcases hR with ⟨_, e, _⟩ | ⟨_, hR⟩
 ·cases e
 cases hR with
 | @tup _ _ xs hl hx =>
  have hx0 := hx 0 _ rfl
  have hx1 := hx 1 _ rfl
  generalize hv0 : xs.getD 0 undef = v0 at hx0
  generalize hv1 : xs.getD 1 undef = v1 at hx1
  cases hx0 with
  | @arr _ _ a0 n0 c0 rs0 hs0 hμ0 =>
   cases hx1 with
   | @arr _ _ a1 n1 c1 rs1 hs1 hμ1 =>
    obtain ⟨ob0, ho0, hoo0⟩ := hm.ob _ _ hμ0
    cases ho0
    obtain ⟨ob1, ho1, hoo1⟩ := hm.ob _ _ hμ1
    cases ho1
    obtain ⟨⟨q1, q2⟩, q3, ys0, q4, q5⟩ := hoo0
    obtain ⟨⟨p1, p2⟩, p3, ys1, p4, p5⟩ := hoo1
    simp only at q1 q2 q3 q4 p1 p2 p3 p4
    have hys := wru p5
    rw [List.map_map] at hys
    have hys : ys1 = js.map (hOf ix hds) := hys
    subst hys
    rw [List.length_map] at p4
    have lows : ∀ b, ¬ old w2 (muF w.heap.size) b → ¬ b < w.heap.size := fun b hb h => hb (hold b (by omega) (by omega) (by omega))
    have hrsold : ∀ b ∈ rs, old w2 (muF w.heap.size) b := fun b hb => by
     have h1 := hP.low b hb
     simp only [Nat.not_lt] at h1
     exact hold b h1.2 (by omega) (by omega)
    have rlt : ∀ {v : Value} {n e z : Nat} {ys : List Value} {b : Nat}, w'.ownsRow 0 e z v n ys → wu v = some b → b < w'.heap.size := fun {v n e z ys b} ho hb => by
     rcases ho.2 with ⟨e1, _⟩ | ⟨g, cap, cur, e1, _, h2, _⟩
     ·rw [e1] at hb; cases hb
     ·rw [e1] at hb
      simp only [wu, Option.some.injEq] at hb
      subst hb
      exact (Array.getElem?_eq_some_iff.1 h2).1
    have hget : ∀ {j : Nat} {x : Value}, (js.map (hOf ix hds))[j]? = some x → ∃ t, js[j]? = some t ∧ ix[t]? = some (ix.getD t 0) ∧ hds[ix.getD t 0]? = some x ∧ l[ix.getD t 0]? = some (rowOf ix l t) := fun {j x} hj' => by
     rw [List.getElem?_map] at hj'
     obtain ⟨t, ht, rfl⟩ := Option.map_eq_some_iff.1 hj'
     have htl := hj t (List.mem_of_getElem? ht)
     have hi : ix.getD t 0 < l.length := by
      rw [List.getD_eq_getElem?_getD, List.getElem?_eq_getElem htl]
      exact hix _ (List.getElem_mem htl)
     have hi2 : ix.getD t 0 < hds.length := by have := hP.len; simp only at this; omega
     refine ⟨t, ht, ?_, ?_, ?_⟩
     ·rw [List.getD_eq_getElem?_getD, List.getElem?_eq_getElem htl]; rfl
     ·unfold hOf
      rw [List.getD_eq_getElem?_getD (l := hds), List.getElem?_eq_getElem hi2]; rfl
     ·unfold rowOf
      rw [List.getD_eq_getElem?_getD (l := l), List.getElem?_eq_getElem hi]; rfl
    let μ' : Nat → Option MV := fun o => if o = 0 then some ⟨.slice a0 n0 c0, rs0, hs0⟩ else if o = 1 then some ⟨.slice a1 n1 c1, rs1 ++ rs, js.map (hOf ix hds)⟩ else none
    have inv : ∀ {o : Nat} {mv : MV}, μ' o = some mv → (o = 0 ∧ mv = ⟨.slice a0 n0 c0, rs0, hs0⟩) ∨ (o = 1 ∧ mv = ⟨.slice a1 n1 c1, rs1 ++ rs, js.map (hOf ix hds)⟩) := fun {o mv} h => by
     simp only [μ'] at h
     split at h
     ·exact .inl ⟨by assumption, (Option.some.inj h).symm⟩
     ·split at h
      ·exact .inr ⟨by assumption, (Option.some.inj h).symm⟩
      ·cases h
    have hd01 : ∀ b, b ∈ rs0 → b ∈ rs1 ++ rs → False := fun b h0 h1 => by
     rcases List.mem_append.1 h1 with h1 | h1
     ·have := hm.dis 0 1 _ _ b hμ0 hμ1 h0 h1
      cases this
     ·rw [q2] at h0
      exact q3 b (Option.mem_toList.1 h0) (hrsold b h1)
    refine ⟨⟨hk.os.trans hos, hk.tape.trans htp, hk.output.trans hout, by have := hk.size; omega, fun b hb => ?_⟩, μ', ⟨fun b hb => ⟨hX b hb, fun o mv h => (by cases h)⟩, fun b hb => by have := hb.1; have := hk.size; omega, fun o mv ho => ?_, fun o p mv mv' b h1 h2 h3 h4 => ?_, fun p hp => by cases hp⟩, fun o mv ho => ?_, fun p hp hge => ?_, .inr ⟨by simp, .tup hl fun j v hj' => ?_⟩⟩
    ·have h1 := hb.1
     rw [hk.block b (hold b (by omega) (by omega) (by omega)), hlow b h1]
    ·rcases inv ho with ⟨rfl, rfl⟩ | ⟨rfl, rfl⟩
     ·refine ⟨_, rfl, ⟨q1, q2⟩, fun b hb hl => lows b (q3 b hb) hl.1, ys0, q4, q5.plain rfl⟩
     ·refine ⟨_, rfl, ⟨?_, fun b hb => ?_, fun b hb => ?_, fun x hx => ?_, fun j x r _ hx hr => ?_, fun j k x y b _ _ hx hy hbx hby => ?_⟩, fun i d h => by cases h⟩
      ·rw [List.length_map]
       exact p4
      ·refine List.mem_append_left _ ?_
       rw [p2]
       exact Option.mem_toList.2 hb
      ·rcases List.mem_append.1 hb with hb | hb
       ·rw [p2] at hb
        have hb := Option.mem_toList.1 hb
        exact ⟨fun hl => lows b (p3 b hb) hl.1, rlt p4 hb⟩
       ·have h1 := hP.low b hb
        simp only [Nat.not_lt] at h1
        exact ⟨fun hl => by have := hl.1; omega, by have := hk.size; omega⟩
      ·obtain ⟨t, ht, rfl⟩ := List.mem_map.1 hx
       obtain ⟨j, hjj, rfl⟩ := List.getElem_of_mem ht
       obtain ⟨t', _, _, h3, _⟩ := hget (j := j) (x := hOf ix hds js[j]) (by rw [List.getElem?_map, List.getElem?_eq_getElem hjj]; rfl)
       exact hP.slc _ (List.mem_of_getElem? h3)
      ·obtain ⟨t, h1, _, h3, h4⟩ := hget hx
       rw [List.getElem?_map, h1] at hr
       cases hr
       obtain ⟨k1, zs, k2, k3⟩ := hP.row _ _ _ h3 h4
       refine ⟨fun b hb => ⟨List.mem_append_right _ (k1 b hb).1, fun e => p3 b e (hrsold b (k1 b hb).1)⟩, zs, waf k2 fun b hb => hk.block b (hrsold b (k1 b hb).1), k3.plain rfl⟩
      ·obtain ⟨t, h1, h2, h3, _⟩ := hget hx
       obtain ⟨t', h1', h2', h3', _⟩ := hget hy
       have e1 := hP.apart _ _ _ _ b h3 h3' hbx hby
       have ht := hj t (List.mem_of_getElem? h1)
       have ht' := hj t' (List.mem_of_getElem? h1')
       have e2 : t = t' := (List.getElem?_inj ht hnd).1 (by rw [h2, h2', e1])
       have hjl : j < js.length := (List.getElem?_eq_some_iff.1 h1).1
       exact (List.getElem?_inj hjl hjd).1 (by rw [h1, h1', e2])
    ·rcases inv h1 with ⟨rfl, rfl⟩ | ⟨rfl, rfl⟩ <;> rcases inv h2 with ⟨rfl, rfl⟩ | ⟨rfl, rfl⟩
     ·rfl
     ·exact (hd01 b h3 h4).elim
     ·exact (hd01 b h4 h3).elim
     ·rfl
    ·rcases inv ho with ⟨rfl, rfl⟩ | ⟨rfl, rfl⟩
     ·exact ⟨_, List.mem_cons_self, rfl⟩
     ·exact ⟨_, List.mem_cons_of_mem _ List.mem_cons_self, rfl⟩
    ·rcases List.mem_cons.1 hp with rfl | hp
     ·simp at hge
     ·rw [List.mem_singleton.1 hp] at hge
      simp at hge
    ·match j, hj' with
     | 0, hj' => cases hj'; rw [hv0]; exact .arr (o := 0) rfl
     | 1, hj' => cases hj'; rw [hv1]; exact .arr (o := 1) rfl
end Go.Proofs.Ytnagpmhaddfgmaa
/-
 The front by hand: the whole.
-/
namespace Go.Proofs.Ytnagpmhaddfgmaa
open Go.RowKit
open Go.Proofs.Try
theorem waad (hm : prog.follows .mixedOrders = true) {Gs : Int → Option (List Nat × List (List Int))} (hs : war prog (61, wud Gs)) {E : Env} {tt : Nat → TD} {fz : Nat → Nat → List Nat} {l : List (Nat × LD)} (hE : wfe prog E) (hT : waj prog tt)
  (hl : wz E tt fz l (.seq frL frT)) (hc : wba fz [] 80 (.seq frL frT) = true) {T : FrTr} (hrun : ∀ o ds a b L, ((wcc E tt fz (wai l) (.seq frL frT) (stF o ds a b L)).map (wti tt kF)).ev = ((T o ds a b L).map fun r => some (rhoF r)).ev) :
  war prog (36, wuh Gs T) := by
 intro x z hz w X μi vals hX hmem hins hsz hv
 obtain ⟨⟨⟨o, ds, u1⟩, a, b, u2⟩, u3⟩ := x
 have hμ : μi = noM := funext fun o => by
  cases h : μi o with
  | none => rfl
  | some mv => obtain ⟨_, h, _⟩ := hmem.ob o mv h; cases h
 subst hμ
 obtain ⟨ix, ls, js, e1, hix, hnd, hjd, hj, e2, e3⟩ := wajd (Gs := Gs) (T := T) (o := o) (ds := ds) (a := a) (b := b) hz
 have h0 := hv 0 (.agg [.dat (.slice (.int .i64)) o, .dat (.slice (.slice (.int .i64))) ds]) rfl
 have h1 := hv 1 (.dat (.int .i64) a) rfl
 have h2 := hv 2 (.dat (.int .i64) b) rfl
 have hsz3 : vals.size = 3 := hsz.symm
 obtain ⟨vf, va, vb, rfl⟩ : ∃ x y z, vals = #[x, y, z] := by
  refine ⟨vals.getD 0 undef, vals.getD 1 undef, vals.getD 2 undef, ?_⟩
  apply Array.ext
  ·simpa using hsz3
  ·intro i hi hi2
   have : i = 0 ∨ i = 1 ∨ i = 2 := by simp at hi2; omega
   rcases this with rfl | rfl | rfl <;> simp [Array.getD_eq_getD_getElem?, hsz3]
 have h0 : RelV prog w (old w noM) noM (SS X noM) (.agg [.dat (.slice (.int .i64)) o, .dat (.slice (.slice (.int .i64))) ds]) vf := h0
 have h1 : RelV prog w (old w noM) noM (SS X noM) (.dat (.int .i64) a) va := h1
 have h2 : RelV prog w (old w noM) noM (SS X noM) (.dat (.int .i64) b) vb := h2
 rw [wamv h1, wamv h2]
 cases h0 with
 | @agg _ _ xs hxl hx =>
  have hx0 := hx 0 _ rfl
  have hx1 := hx 1 _ rfl
  obtain ⟨vo, vd, rfl⟩ : ∃ x y, xs = #[x, y] := by
   have hs2 : xs.size = 2 := hxl.symm
   refine ⟨xs.getD 0 undef, xs.getD 1 undef, ?_⟩
   apply Array.ext
   ·simpa using hs2
   ·intro i hi hi2
    have : i = 0 ∨ i = 1 := by simp at hi2; omega
    rcases this with rfl | rfl <;> simp [Array.getD_eq_getD_getElem?, hs2]
  have hx0 : RelV prog w (old w noM) noM (SS X noM) (.dat (.slice (.int .i64)) o) vo := hx0
  have hx1 : RelV prog w (old w noM) noM (SS X noM) (.dat (.slice (.slice (.int .i64))) ds) vd := hx1
  have ro : Rep (fun _ => True) w (.slice (.int .i64)) o [vo] := by
   cases hx0 with
   | dat _ h => exact h.step fun _ _ _ => ⟨trivial, rfl⟩
  have rd : Rep (fun _ => True) w (.slice (.slice (.int .i64))) ds [vd] := by
   cases hx1 with
   | dat _ h => exact h.step fun _ _ _ => ⟨trivial, rfl⟩
  obtain ⟨ao, co, rfl⟩ : ∃ a c, vo = .slice a o.length c := by
   simp only [Rep] at ro
   obtain ⟨a, c, e, _⟩ := ro
   simp only [List.cons.injEq, and_true] at e
   exact ⟨a, c, e⟩
  have hb : f36.body.isSome = true := by kernel_rfl
  have hnt : (f36).ntmps = 80 := by kernel_rfl
  have hres : (f36).results = kF.res.toArray := by kernel_rfl
  obtain ⟨cd, hcd⟩ := Option.isSome_iff_exists.1 hb
  refine .inl ⟨whl func36 (by kernel_rfl) hcd _ w, ?_⟩
  refine wue hs w e1 fun aw cw rs hds S w2 hB hP K hK => ?_
  have hF := wbgd (a := a) (b := b) (vf := fun i => (#[] : Array Value).getD i undef) ro rd hB hP hix
  have hhl : hds.length = ls.length := hP.len
  have hev := hrun o ds a b (wdc ix ls hds)
  rw [Tr.ev_map, Tr.ev_map, e3 hds hhl] at hev
  obtain ⟨out, k1, k2⟩ := Option.map_eq_some_iff.1 hev
  refine wbae hm hE hT hl hc hF k1 (fun e act w' hp => ?_) hK
  have hlow : ∀ k, k < w.heap.size → w2.heap[k]? = w.heap[k]? := fun k hk => by
   rw [hB.block k (by omega), heap_alloc_old _ _ (show k < (w.alloc _).heap.size by simp; omega), heap_alloc_old w _ hk]
  have hsz2 : w.heap.size + 2 ≤ w2.heap.size := by have := hB.size; simpa using this
  have fin : ∀ {s : St} {act : Act} {μ : Nat → Option MV}, Rel prog (fun _ => False) (old w2 (muF w.heap.size)) ⟨80, [], fun i => (#[] : Array Value).getD i undef⟩ w2 s act w' μ → kF.at tt s = some (rhoF (z.1, js.map fun j => ((j, hOf ix hds j), rowOf ix ls j))) →
    act.defers = [] ∧ ∃ v, (results f36 act.tmps).run prog w' = .ok v w' ∧ ∃ x, Ending.returned v = .returned x ∧ wqv prog X (old w noM) w w' noM ((wuh Gs T).emb z) x := fun {s act μ} hr ht => by
   have hr' : Rel prog (fun _ => False) (old w2 (muF w.heap.size)) ⟨(f36).ntmps, [], fun i => (#[] : Array Value).getD i undef⟩ w2 s act w' μ := by rw [hnt]; exact hr
   let d0 : FD := { A := .nil, ins := [(3, .cells (.cons (.dat (.slice (.int .i64))) (.cons (.dat (.slice (.slice (.int .i64)))) .nil))), (16, .arr 75 tM)], lend := [], R := Unit, F := fun _ => none, emb := fun _ => ([], []) }
   have := wamt (d := d0) (rt := kF) (x := ((), ((o, (ds, ())), ([], ())))) (vals := #[]) hT (fun p hp => by
    rcases List.mem_cons.1 hp with rfl | hp
    ·exact ⟨_, rfl⟩
    ·rw [List.mem_singleton.1 hp]; exact ⟨_, rfl⟩) hres rfl (pk := []) rfl rfl rfl ⟨hF.mem, fun i => .undef, Kept.refl _ _, rfl, ⟨by simp, fun q hq => by cases hq⟩⟩ (res := ([.arr 0, .arr 1], [(0, .arr 61 (.pair (.int .i64) (.int .i64)) z.1), (1, .arr 22 .hdr (js.map fun j => (((j, hOf ix hds j), rowOf ix ls j) : wlp)))])) (t := rhoF (z.1, js.map fun j => ((j, hOf ix hds j), rowOf ix ls j))) rfl hr' ht
   obtain ⟨g1, v, g2, x, g3, g4⟩ := this
   refine ⟨g1, v, g2, x, g3, ?_⟩
   have := wadt (X := X) rfl (fun b hb => (hX b hb).1) hlow hB.os hB.tape hB.output hsz2 hP hix hnd hjd hj g4
   show wqv prog X (old w noM) w w' noM ([.arr 0, .arr 1], [(0, .arr 61 (.pair (.int .i64) (.int .i64)) z.1), (1, .rows 22 3 (.int .i64) z.2 none)]) x
   rw [e2]
   exact this
  cases e with
  | normal =>
   obtain ⟨s, μ, rfl, hr⟩ := hp
   exact fin hr k2
  | ret =>
   obtain ⟨s, μ, rfl, hr⟩ := hp
   exact fin hr k2
  | exit i =>
   obtain ⟨s, μ, rfl, _⟩ := hp
   cases k2
  | _ => exact hp.elim
end Go.Proofs.Ytnagpmhaddfgmaa
