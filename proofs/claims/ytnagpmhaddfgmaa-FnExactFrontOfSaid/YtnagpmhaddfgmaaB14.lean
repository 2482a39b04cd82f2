/-
 Stores and appends.
-/
import Derived.Test.YtnagpmhaddfgmaaB13
import Derived.Laws.OwnMore
namespace Go.Proofs.Ytnagpmhaddfgmaa
open Go.RowKit (Below)
section
variable {P : Program} {tt : Nat → TD} {w : World} {lo : Nat → Prop} {N : Par} {μ : Nat → Option MV} {S : Nat → Prop} {X : Nat → Prop} {g : Nat → Option Ob} {a : Act} {E : Env} {w0 : World}
theorem Rep.one : ∀ {t : Ty} {v : t.I} {cs : List Value}, Rep S w t v cs → ∀ u ∈ cs, u.oneCell' = true
 | .int _, _, _, h, u, hu => by simp [Rep] at h; subst h; simp at hu; subst hu; rfl
 | .bool, _, _, h, u, hu => by simp [Rep] at h; subst h; simp at hu; subst hu; rfl
 | .str, _, _, h, u, hu => by simp [Rep] at h; subst h; simp at hu; subst hu; rfl
 | .seq _, _, _, h, u, hu => by simp only [Rep] at h; obtain ⟨_, _, _, rfl, _⟩ := h; simp at hu; subst hu; rfl
 | .slice _, _, _, h, u, hu => by simp only [Rep] at h; obtain ⟨a, c, rfl, _⟩ := h; simp at hu; subst hu; rfl
 | .pair a b, _, _, h, u, hu => by
  obtain ⟨c1, c2, rfl, h1, h2⟩ := h
  rcases List.mem_append.1 hu with h | h
  ·exact h1.one u h
  ·exact h2.one u h
theorem RepL.one [Tabs] {t : Ty} : ∀ {l : List t.I} {cs : List Value}, RepL S w t l cs → ∀ u ∈ cs, u.oneCell' = true
 | [], _, h, u, hu => by simp only [RepL] at h; subst h; cases hu
 | _ :: _, _, ⟨c, r, e, h1, h2⟩, u, hu => by
  subst e
  rcases List.mem_append.1 hu with h | h
  ·exact h1.one u h
  ·exact RepL.one h2 u h
theorem one_cell [Tabs] {v : AV} {x : Value} (h : RelV P w lo μ S v x) (h1 : one v = true) : x.oneCell' = true := by
 cases h with
 | undef => simp [one] at h1
 | skip => simp [one] at h1
 | tup => simp [one] at h1
 | agg => simp [one] at h1
 | dat _ h => exact h.one x (by simp)
 | clo h => obtain ⟨_, f, fs, xs, rfl, _⟩ := h; rfl
 | _ => rfl
theorem wbm {α : Type} (L c : List α) (i n m : Nat) (hc : c.length = n) (h1 : i + n ≤ m) (h2 : m ≤ L.length) : (L.take i ++ c ++ L.drop (i + n)).take m = (L.take m).take i ++ c ++ (L.take m).drop (i + n) := by
 have hl : (L.take i ++ c).length = i + n := by
  rw [List.length_append, List.length_take, hc]
  omega
 rw [List.take_append, hl, List.take_of_length_le (by omega), List.take_take, Nat.min_eq_left (by omega), List.drop_take]
theorem wou {α : Type} (L : List α) (i : Nat) (y : α) (h : i < L.length) : (L.set i y).take (i + 1) = L.take i ++ [y] := by
 rw [List.take_succ_eq_append_getElem (by simpa using h)]
 simp [List.take_set_of_le]
theorem wki [Tabs] (k : Nat) : ∀ (xs : List Value) (m : Nat) (us : Array Value), k + m + xs.length ≤ us.size → (xs.zipIdx m).foldl (fun cs (c, j) => cs.setIfInBounds (k + j) c) us = (us.toList.take (k + m) ++ xs ++ us.toList.drop (k + m + xs.length)).toArray
 | [], m, us, _ => by simp
 | y :: ys, m, us, hle => by
  simp only [List.length_cons] at hle
  rw [List.zipIdx_cons, List.foldl_cons]
  rw [wki k ys (m + 1) _ (by simp; omega)]
  have e1 := wou us.toList (k + m) y (by simp; omega)
  have e2 : (us.toList.set (k + m) y).drop (k + m + (ys.length + 1)) = us.toList.drop (k + m + (ys.length + 1)) := List.drop_set_of_lt (by omega)
  rw [Array.toList_setIfInBounds, show k + (m + 1) = k + m + 1 by omega, e1, show k + m + 1 + ys.length = k + m + (ys.length + 1) by omega, e2]
  simp
theorem wbn {ty n b k : Nat} {x : Value} {w' : World} (hs : (sizeOf ty).run P w = .ok n w) (hx : x.cells.size = n) (h : (storeCells ⟨b, k, none⟩ x.cells.toList).run P w = .ok () w') :
  (Instr.storeAt ty (.pointer (some ⟨b, k, none⟩)) x).run P w = .ok () w' := by
 simp only [Instr.storeAt, Instr.sureAddr, storeVar, Sem.run_bind, Sem.run_pure, Result.andThen_ok, hs]
 rw [if_neg (by simp [hx])]
 exact h
theorem NxU.wrote [Tabs] (hm : Mem P X lo g μ w) {o b : Nat} {mv : MV} (ho : μ o = some mv) (hr : b ∈ mv.rs) {cs : Array Value} {x : Ob}
  (hx : ObOK P (w.setRow b cs) lo μ (SS X μ) x mv) : NxU P X lo g μ w [(o, x)] [] (w.setRow b cs) μ := by
 have hw : ∀ k, k ≠ b → (w.setRow b cs).heap[k]? = w.heap[k]? := fun k hk => setRow_other w b k cs hk
 have hlb := (hm.lt ho hr).1
 have hsame : ∀ k, k < w.heap.size → SS X μ k → SS X μ k ∧ (w.setRow b cs).heap[k]? = w.heap[k]? := fun k _ hS => ⟨hS, hw k fun e => by subst e; exact hS.2 o mv ho hr⟩
 have hlow : ∀ k, lo k → (w.setRow b cs).heap[k]? = w.heap[k]? := fun k hk => hw k fun e => hlb (e ▸ hk)
 refine ⟨⟨fun p mv h => ⟨mv.rs, mv.hs, h, fun _ => Ext.refl _⟩, fun _ _ hk => (by cases hk)⟩, fun p mv h => .inl ⟨mv, h⟩, fun p mv k h hk => .inr ⟨p, mv, h, hk⟩, ⟨rfl, rfl, rfl, by simp, hlow⟩, fun k _ hk => hw k fun e => hk (o, x) (by simp) mv ho (e ▸ hr), fun g' h1 h2 => ⟨hm.hX, by simpa using hm.hlo, fun p mv' hp => ?_, hm.dis, hm.tab.step hlow⟩⟩
 by_cases e : p = o
 ·subst e
  rw [ho] at hp
  cases hp
  exact ⟨x, h1 (p, x) (by simp), hx⟩
 ·obtain ⟨y, hy, hyo⟩ := hm.ob p mv' hp
  have hne : ∀ q ∈ [(o, x)], q.1 ≠ p := fun q hq e' => by
   simp only [List.mem_singleton] at hq
   subst hq
   exact e e'.symm
  refine ⟨y, by rw [h2 p mv' hp hne, hy]; rfl, hyo.step hm.hlo (fun _ _ h => h) hsame hlow fun k hk => hw k fun ek => ?_⟩
  subst ek
  exact e (hm.dis p o mv' mv k hp ho hk hr)
theorem wadz [Tabs] (hT : wal P tt) (hm : Mem P X lo g μ w) {u : LU} {ty : Nat} {av vv : AV} (hq : (wir tt g ty av vv).ev = some u) {va x : Value} (ha : RelV P w lo μ (SS X μ) av va) (hv : RelV P w lo μ (SS X μ) vv x) :
  ∃ w', (Instr.storeAt ty va x).run P w = .ok () w' ∧ NxU P X lo g μ w u.objs [] w' μ ∧ wbh g u.objs = [] ∧ u.d = none ∧ u.und = none ∧ (u.objs.map (·.1)).Nodup := by
 unfold wir at hq
 split at hq
 ·rename_i o k
  split at hq
  next cs vs sz hg hc hsz =>
   split at hq
   next hn =>
    simp only [Tr.ev_l, Option.some.injEq] at hq
    subst hq
    obtain ⟨hs1, hs2⟩ := wcn (P := P) (w := w) hT hsz
    obtain ⟨hc1, hc2⟩ := wda hv hc
    cases ha with
    | @box _ _ b _ _ _ hμ =>
     obtain ⟨y, hy, hob⟩ := hm.ob _ _ hμ
     rw [hg] at hy
     cases hy
     obtain ⟨b', us, e, he, hlb, hh, hus, hr⟩ := hob
     simp only [MV.mk.injEq, Value.pointer.injEq, Option.some.injEq, Addr.mk.injEq, and_true] at he
     obtain ⟨he, rfl, rfl⟩ := he
     subst he
     have hone : ∀ u ∈ x.cells.toList, u.oneCell' = true := fun u hu => by
      obtain ⟨j, hj, rfl⟩ := List.mem_iff_getElem.1 hu
      have hj' : j < vs.length := by rw [← hc1]; simpa using hj
      have hnj : nth vs j = some vs[j] := by rw [wo]; simp
      have := hc2 j _ hnj
      have h1 := List.all_eq_true.1 hn.2.2 vs[j] (List.getElem_mem hj')
      have hjx : j < x.cells.size := by simpa using hj
      have h2 := one_cell this h1
      simpa [hjx] using h2
     have hrun := run_storeCells_at P b k e x.cells.toList 0 us w hh (by simp [hc1, hus]; exact hn.2.1) hone
     simp only [Nat.add_zero] at hrun
     refine ⟨_, wbn hs2 (hc1.trans hn.1) hrun, ?_, by simp [wbh, wjv, hg], rfl, rfl, by simp⟩
     refine NxU.wrote hm hμ (by simp) ⟨b, _, e, rfl, hlb, setRow_heap w b us _ e _ hh, ?_, ?_⟩
     all_goals
      have hall := AllR.puts (P := P) (w := w) (lo := lo) (μ := μ) (S := SS X μ) vs k cs us x.cells.toList ⟨hus, hr⟩ (by simpa using hc1) (by simpa using hc2) 0
      rw [wki k x.cells.toList 0 us (by simp [hc1, hus]; exact hn.2.1)] at hall
      simp only [Nat.add_zero] at hall ⊢
     ·exact hall.1
     ·intro j v hj
      refine (hall.2 j v hj).step (fun _ _ h => h) hm.hlo (fun m hm' hS => ⟨hS, setRow_other w b m _ fun e => by subst e; exact hS.2 o _ hμ (by simp)⟩) fun m hm' => setRow_other w b m _ fun e => hlb (e ▸ hm')
   next => cases hq
  next => cases hq
 ·rename_i o i z
  split at hq
  next e t l sz hg hsz =>
   split at hq
   next hz =>
    split at hq
    next y hgy =>
     obtain ⟨hi, hq⟩ := ev_g hq
     simp only [decide_eq_true_eq] at hi
     simp only [Tr.ev_l, Option.some.injEq] at hq
     subst hq
     obtain ⟨hs1, hs2⟩ := wcn (P := P) (w := w) hT hsz
     have hrep := won hgy hv
     cases ha with
     | @elt _ _ _ _ b n c _ _ hμ =>
      obtain ⟨yy, hyy, hob⟩ := hm.ob _ _ hμ
      rw [hg] at hyy
      cases hyy
      obtain ⟨⟨hhs, hrs⟩, hnl, xs, hown, hrl⟩ := hob
      simp only [wu, Option.toList] at hrs hhs
      subst hrs
      subst hhs
      rcases hown.2 with ⟨e1, e2⟩ | ⟨b', cap, cur, ev, hlb, hh, hnc, hcm, hcs, htake⟩
      ·cases e1
      ·simp only [Value.slice.injEq, Option.some.injEq, Addr.mk.injEq, and_true] at ev
       obtain ⟨rfl, rfl, rfl⟩ := ev
       have hlen : x.cells.toList.length = t.size := hrep.len
       have hle : (i + 1) * t.size ≤ l.length * t.size := Nat.mul_le_mul_right _ (by omega)
       have hle2 : l.length * t.size ≤ c * t.size := Nat.mul_le_mul_right _ hnc
       rw [Nat.add_mul, Nat.one_mul] at hle
       have hrun := run_storeCells_at P b (i * t.size) e x.cells.toList 0 cur w hh (by rw [hlen, hcs]; omega) hrep.one
       simp only [Nat.add_zero] at hrun
       have hcsz : x.cells.size = t.size := by simpa using hlen
       refine ⟨_, wbn hs2 (hcsz.trans hz.1.symm) (by rw [hz.2]; exact hrun), ?_, by simp [wbh, wjv, hg], rfl, rfl, by simp⟩
       have hxs := RepL.set hrl hi hrep
       refine NxU.wrote hm hμ (by simp) ⟨⟨rfl, rfl⟩, hnl, xs.take (i * t.size) ++ x.cells.toList ++ xs.drop (i * t.size + t.size), ⟨?_, .inr ⟨b, c, _, ?_, hlb, setRow_heap w b cur _ e _ hh, ?_, hcm, ?_, ?_⟩⟩, ?_⟩
       ·have := hxs.len
        simpa using this
       ·simp
       ·simpa using hnc
       ·simp only [List.size_toArray, List.length_append, List.length_take, List.length_drop, Array.length_toList, hcsz, hcs]
        omega
       ·rw [← htake]
        simp only [List.length_set]
        rw [hlen]
        exact wbm _ _ _ _ _ hlen hle (by simp [hcs]; exact hle2)
       ·refine hxs.step fun m hm' hS => ⟨hS, setRow_other w b m _ fun e => by subst e; exact hS.2 o _ hμ (by simp)⟩
    next => cases hq
   next => cases hq
  next kp e e2 t ix l sz hg hsz =>
   split at hq
   next hz =>
    split at hq
    next p j =>
     split at hq
     next hpo =>
      subst hpo
      obtain ⟨hi, hq⟩ := ev_g hq
      simp only [decide_eq_true_eq] at hi
      simp only [Tr.ev_l, Option.some.injEq] at hq
      subst hq
      obtain ⟨hs1, hs2⟩ := wcn (P := P) (w := w) hT hsz
      cases ha with
      | @elt _ _ _ _ b n c rs hds hμ =>
       cases hv with
       | @row _ _ _ v0 rs' hds' a1 n1 c1 hμ' hx' =>
        rw [hμ] at hμ'
        simp only [Option.some.injEq, MV.mk.injEq] at hμ'
        obtain ⟨rfl, rfl, rfl⟩ := hμ'
        obtain ⟨yy, hyy, hob⟩ := hm.ob _ _ hμ
        rw [hg] at hyy
        cases hyy
        have hp : PermOK w lo (SS X μ) e e2 t ix l ⟨.slice (some ⟨b, 0, none⟩) n c, rs, hds⟩ := hob
        have hbr : b ∈ rs := hp.top b rfl
        rcases hp.own.2 with ⟨e1, _⟩ | ⟨b', cap, cur, ev, hb0, hh', hnc, hcm, hcs, htake⟩
        ·cases e1
        ·simp only [Value.slice.injEq, Option.some.injEq, Addr.mk.injEq, and_true] at ev
         obtain ⟨rfl, rfl, rfl⟩ := ev
         simp only [Nat.mul_one] at hcs htake
         have hrun := run_storeCells_at P b (i * 1) e [.slice a1 n1 c1] 0 cur w hh' (by simp [hcs]; omega) (fun u hu => by simp at hu; subst hu; rfl)
         simp only [Nat.add_zero] at hrun
         refine ⟨_, wbn hs2 (by rw [hz.1]; rfl) (by rw [hz.2]; exact hrun), ?_, by simp [wbh, wjv], rfl, rfl, by simp⟩
         have hoth : ∀ b', b' ≠ b → (w.setRow b (cur.toList.take (i * 1) ++ [Value.slice a1 n1 c1] ++ cur.toList.drop (i * 1 + [Value.slice a1 n1 c1].length)).toArray).heap[b']? = w.heap[b']? := fun b' hne => setRow_other w b b' _ hne
         refine NxU.wrote hm hμ hbr ⟨?_, hp.len, hp.top, fun b' hb' => ⟨(hp.low b' hb').1, by simpa using (hp.low b' hb').2⟩, hp.slc, fun j' x r hx hl => ?_, hp.apart⟩
         ·refine ⟨by simp, .inr ⟨b, c, _, by simp, hb0, setRow_heap w b cur _ e _ hh', by simpa using hnc, hcm, ?_, ?_⟩⟩
          ·simp only [List.size_toArray, List.length_append, List.length_take, List.length_drop, Array.length_toList, List.length_cons, List.length_nil, hcs]
           omega
          ·have h1 := wbm cur.toList [Value.slice a1 n1 c1] (i * 1) 1 ix.length rfl (by omega) (by simp [hcs]; omega)
           simp only [List.length_cons, List.length_nil, Nat.zero_add, List.length_set, Nat.mul_one] at h1 ⊢
           rw [h1, htake, List.map_set]
           have hxe : hds.getD j (.slice none 0 0) = .slice a1 n1 c1 := by rw [List.getD_eq_getElem?_getD, hx']; rfl
           rw [hxe, List.set_eq_take_append_cons_drop, if_pos (by simpa using hi)]
           simp
         ·obtain ⟨m1, xs, m2, m3⟩ := hp.row j' x r hx hl
          exact ⟨m1, xs, waf m2 fun b' hb' => hoth b' fun e => (m1 b' hb').2 (by rw [e]; rfl), m3.step fun b' _ hs' => ⟨hs', hoth b' fun e => by subst e; exact hs'.2 _ _ hμ hbr⟩⟩
     next => cases hq
    next => cases hq
   next => cases hq
  next e l sz hg hsz =>
   split at hq
   next hz =>
    split at hq
    next y hgy =>
     obtain ⟨hi, hq⟩ := ev_g hq
     simp only [decide_eq_true_eq] at hi
     simp only [Tr.ev_l, Option.some.injEq] at hq
     subst hq
     obtain ⟨hs1, hs2⟩ := wcn (P := P) (w := w) hT hsz
     have hrep := won hgy hv
     cases ha with
     | @elt _ _ _ _ b n c _ _ hμ =>
      obtain ⟨yy, hyy, hob⟩ := hm.ob _ _ hμ
      rw [hg] at hyy
      cases hyy
      obtain ⟨b', cap, cur, fr, he, hlb, hh, hfr, hlc, hcs, htk⟩ := hob
      simp only [MV.mk.injEq, Value.slice.injEq, Option.some.injEq, Addr.mk.injEq, and_true] at he
      obtain ⟨⟨rfl, rfl, rfl⟩, rfl, rfl⟩ := he
      have hxc : x.cells.toList = [.int .u8 y] := by simpa [Rep] using hrep
      have hcsz : x.cells.size = 1 := by rw [← Array.length_toList, hxc]; rfl
      have hic : i < cur.size := by omega
      have hrun : (storeCells ⟨b, i * z, none⟩ x.cells.toList).run P w = .ok () (w.setRow b (cur.setIfInBounds i (.int .u8 y))) := by
       rw [hxc, hz.2, Nat.mul_one]
       have hadd : (⟨b, i, none⟩ : Addr).add 0 = ⟨b, i, none⟩ := by rw [Addr.add_lit]; rfl
       have hcell : w.cell? ⟨b, i, none⟩ = some cur[i] := by simp [World.cell?, hh, hic]
       have hfro : w.frozen? ⟨b, i, none⟩ = false := by
        obtain ⟨f1, f2⟩ := fr
        simp only at hfr
        simp only [World.frozen?, hh, Bool.and_eq_false_iff, decide_eq_false_iff_not]
        left; omega
       have hst : (store ((⟨b, i, none⟩ : Addr).add 0) (.int .u8 y)).run P w = .ok () (w.setRow b (cur.setIfInBounds i (.int .u8 y))) := by
        rw [hadd, run_store P w _ _ _ rfl, hcell]
        simp only [hfro, Bool.false_eq_true, if_false]
        rw [setCell_eq_setRow w b i cur e fr _ hh]
       simp [storeCells, hst]
      refine ⟨_, wbn hs2 (hcsz.trans hz.1.symm) hrun, ?_, by simp [wbh, wjv, hg], rfl, rfl, by simp⟩
      refine NxU.wrote hm hμ (by simp) ⟨b, c, _, fr, by simp, hlb, setRow_heap w b cur _ e _ hh, hfr, by simpa using hlc, by simpa using hcs, ?_⟩
      rw [Array.toList_setIfInBounds, List.length_set, List.take_set, htk, List.map_set]
    next => cases hq
   next => cases hq
  next => cases hq
 ·rename_i o i z k
  split at hq
  next e t l vs sz hg hc hsz =>
   split at hq
   next hz =>
    split at hq
    next y hgy =>
     obtain ⟨hi, hq⟩ := ev_g hq
     simp only [decide_eq_true_eq] at hi
     simp only [Tr.ev_l, Option.some.injEq] at hq
     subst hq
     obtain ⟨hn, rfl, hkn⟩ := hz
     obtain ⟨hs1, hs2⟩ := wcn (P := P) (w := w) hT hsz
     obtain ⟨hc1, hc2⟩ := wda hv hc
     cases ha with
     | @fld _ _ _ _ _ b n c _ _ hμ =>
      obtain ⟨yy, hyy, hob⟩ := hm.ob _ _ hμ
      rw [hg] at hyy
      cases hyy
      obtain ⟨⟨hhs, hrs⟩, hnl, xs, hown, hrl⟩ := hob
      simp only [wu, Option.toList] at hrs hhs
      subst hrs
      subst hhs
      rcases hown.2 with ⟨e1, e2⟩ | ⟨b', cap, cur, ev, hlb, hh, hnc, hcm, hcs, htake⟩
      ·cases e1
      ·simp only [Value.slice.injEq, Option.some.injEq, Addr.mk.injEq, and_true] at ev
       obtain ⟨rfl, rfl, rfl⟩ := ev
       have hle : (i + 1) * t.size ≤ l.length * t.size := Nat.mul_le_mul_right _ (by omega)
       have hle2 : l.length * t.size ≤ c * t.size := Nat.mul_le_mul_right _ hnc
       rw [Nat.add_mul, Nat.one_mul] at hle
       have hxl : xs.length = l.length * t.size := hown.1
       -- the element's cells
       have hel : l[i]? = some (l.getD i t.dflt) := by simp [List.getD_eq_getElem?_getD, hi]
       obtain ⟨cs0, hr0, hat⟩ := hrl.at hel
       have hl0 := hr0.len
       have hcs0 : (xs.drop (i * t.size)).take t.size = cs0 := by
        apply List.ext_getElem?
        intro j
        by_cases hj : j < t.size
        ·rw [List.getElem?_take, if_pos hj, List.getElem?_drop]
         have : cs0[j]? = some (cs0[j]'(by omega)) := by simp
         rw [this]
         exact hat j _ this
        ·rw [List.getElem?_eq_none (by simp; omega), List.getElem?_eq_none (by omega)]
       have hxc : x.cells.toList.length = vs.length := by simpa using hc1
       have hall := AllR.puts (P := P) (w := w) (lo := lo) (μ := μ) (S := SS X μ) vs k (flat t (l.getD i t.dflt)) cs0.toArray x.cells.toList
        ⟨by simp [hl0, wbp], fun j v hj => by have := wcg (P := P) (lo := lo) (μ := μ) hr0 j v hj; simpa [List.getD_eq_getElem?_getD] using this⟩ hxc (by simpa using hc2) 0
       rw [wki k x.cells.toList 0 cs0.toArray (by simp only [List.size_toArray]; omega)] at hall
       simp only [Nat.add_zero] at hall
       have hrepE := wcw hgy (vs := cs0.take k ++ x.cells.toList ++ cs0.drop (k + x.cells.toList.length)) (by simpa using hall.1) (fun j v hj => by have := hall.2 j v hj; simpa [List.getD_eq_getElem?_getD] using this)
       have hrun := run_storeCells_at P b (i * t.size + k) e x.cells.toList 0 cur w hh (by rw [hxc, hcs]; omega) (fun u hu => hrepE.one u (by simp [hu]))
       simp only [Nat.add_zero] at hrun
       refine ⟨_, wbn hs2 (hc1.trans hn) hrun, ?_, by simp [wbh, wjv, hg], rfl, rfl, by simp⟩
       have hxs := RepL.set hrl hi hrepE
       have hsz2 : x.cells.size = vs.length := hc1
       refine NxU.wrote hm hμ (by simp) ⟨⟨rfl, rfl⟩, hnl, xs.take (i * t.size) ++ (cs0.take k ++ x.cells.toList ++ cs0.drop (k + x.cells.toList.length)) ++ xs.drop (i * t.size + t.size), ⟨?_, .inr ⟨b, c, _, ?_, hlb, setRow_heap w b cur _ e _ hh, ?_, hcm, ?_, ?_⟩⟩, ?_⟩
       ·have := hxs.len
        simpa using this
       ·simp
       ·simpa using hnc
       ·simp only [List.size_toArray, List.length_append, List.length_take, List.length_drop, Array.length_toList, hsz2, hcs]
        omega
       ·simp only [List.length_set]
        have h1 := wbm cur.toList x.cells.toList (i * t.size + k) x.cells.toList.length (l.length * t.size) rfl (by omega) (by simp [hcs]; exact hle2)
        rw [h1, htake]
        have h2 : xs.take (i * t.size + k) = xs.take (i * t.size) ++ cs0.take k := by
         rw [List.take_add, ← hcs0, List.take_take, Nat.min_eq_left (by omega)]
        have h3 : xs.drop (i * t.size + k + x.cells.toList.length) = cs0.drop (k + x.cells.toList.length) ++ xs.drop (i * t.size + t.size) := by
         rw [← hcs0, ← List.drop_append_of_le_length (by simp; omega)]
         rw [show xs.drop (i * t.size + t.size) = (xs.drop (i * t.size)).drop t.size by rw [List.drop_drop], List.take_append_drop, List.drop_drop]
         congr 1
         omega
        rw [h2, h3]
        simp
       ·refine hxs.step fun m hm' hS => ⟨hS, setRow_other w b m _ fun e => by subst e; exact hS.2 o _ hμ (by simp)⟩
    next => cases hq
   next => cases hq
  next => cases hq
 ·cases hq
end
end Go.Proofs.Ytnagpmhaddfgmaa
