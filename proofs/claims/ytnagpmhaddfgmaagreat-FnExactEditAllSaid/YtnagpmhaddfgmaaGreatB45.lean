/-
 Marks laid into an array of edits, whose lists lie in blocks of the caller's own: what is written is not told.
-/
import Derived.Test.YtnagpmhaddfgmaaGreatB37
import Derived.HandedShaped
namespace Go.Proofs.YtnagpmhaddfgmaaGreat
open Go.RowKit
open Go.Proofs.Tryz
def cnt1 (k : Int) : Nat → Int
 | 0 => k
 | n + 1 => Go.RowKit.wrap64 (cnt1 k n + 1)
theorem cnt1_succ (k : Int) (n : Nat) : cnt1 k (n + 1) = Go.RowKit.wrap64 (cnt1 k n + 1) := rfl
structure Ints (R : Nat → Prop) (w w' : World) : Prop where
 os : w'.os = w.os
 tape : w'.tape = w.tape
 output : w'.output = w.output
 size : w'.heap.size = w.heap.size
 block : ∀ b, ¬ R b → w'.heap[b]? = w.heap[b]?
 free : ∀ b, Free w b → Free w' b
 num : ∀ b off, (∃ m, w.cell? ⟨b, off, none⟩ = some (.int .i64 m)) → ∃ m, w'.cell? ⟨b, off, none⟩ = some (.int .i64 m)
 oth : ∀ b off u, (∀ m, u ≠ .int .i64 m) → w.cell? ⟨b, off, none⟩ = some u → w'.cell? ⟨b, off, none⟩ = some u
theorem Ints.refl (R : Nat → Prop) (w : World) : Ints R w w := ⟨rfl, rfl, rfl, rfl, fun _ _ => rfl, fun _ h => h, fun _ _ h => h, fun _ _ _ _ h => h⟩
theorem Ints.trans {R : Nat → Prop} {a b c : World} (h : Ints R a b) (k : Ints R b c) : Ints R a c :=
 ⟨k.os.trans h.os, k.tape.trans h.tape, k.output.trans h.output, k.size.trans h.size, fun x hx => (k.block x hx).trans (h.block x hx), fun x hx => k.free x (h.free x hx), fun x o hx => k.num x o (h.num x o hx), fun x o u hu hx => k.oth x o u hu (h.oth x o u hu hx)⟩
theorem Ints.set {R : Nat → Prop} {w : World} {b off : Nat} (hR : R b) (hc : ∃ m, w.cell? ⟨b, off, none⟩ = some (.int .i64 m)) (n : Int) : Ints R w (w.setCell ⟨b, off, none⟩ (.int .i64 n)) := by
 refine ⟨rfl, rfl, rfl, by simp [World.setCell], fun x hx => ?_, fun x hx => ?_, fun x o hx => ?_, fun x o u hu hx => ?_⟩
 ·exact Below.heap_setCell w _ _ x fun e => hx (by simp only at e; rw [e]; exact hR)
 ·obtain ⟨cur, e, h⟩ := hx
  by_cases hb : x = b
  ·subst hb
   exact ⟨cur.setIfInBounds off (.int .i64 n), e, by simp [World.setCell, Array.getElem?_modify, h]⟩
  ·exact ⟨cur, e, (Below.heap_setCell w _ _ x hb).trans h⟩
 ·exact someInt_setCell hx _ _
 ·obtain ⟨m, hm⟩ := hc
  have hne : (⟨b, off, none⟩ : Addr) ≠ ⟨x, o, none⟩ := fun e => by
   rw [e, hx] at hm
   exact hu m (Option.some.inj hm)
  exact (World.cell?_setCell_other _ _ _ _ hne).trans hx
theorem Free.frozen {w : World} {b off : Nat} (h : Free w b) : w.frozen? ⟨b, off, none⟩ = false := by
 obtain ⟨cur, e, h⟩ := h
 simp [World.frozen?, h]
def Sh1 (R : Nat → Prop) (w : World) (x : Value) (n : Nat) : Prop := ∃ a c, x = .slice a n c ∧ ∀ j, j < n → ∃ b off, a = some ⟨b, off, none⟩ ∧ R b ∧ Free w b ∧ ∃ m, w.cell? ⟨b, off + j, none⟩ = some (.int .i64 m)
theorem Sh1.step {R : Nat → Prop} {w w' : World} {x : Value} {n : Nat} (h : Sh1 R w x n) (hw : Ints R w w') : Sh1 R w' x n := by
 obtain ⟨a, c, e, h⟩ := h
 refine ⟨a, c, e, fun j hj => ?_⟩
 obtain ⟨b, off, h1, h2, h3, h4⟩ := h j hj
 exact ⟨b, off, h1, h2, hw.free b h3, hw.num b _ h4⟩
set_option maxHeartbeats 1600000 in
set_option maxRecDepth 1000000 in
theorem walk_mark1 (R : Nat → Prop) (w : World) (x : Value) (n : Nat) (hn : n ≤ 1048576) (k : Int) (h : Sh1 R w x n) :
  Calls prog 153 #[x, .int .i64 k] w fun e w' => e = .returned (.int .i64 (cnt1 k n)) ∧ Ints R w w' := by
 obtain ⟨a, c, rfl, hc⟩ := h
 go_enter func153, (show (f153).ntmps = 19 from by kernel_rfl)
 go_wp2
 go_loopw [1, 5] (fun kv iv wr => ∃ j : Nat, j ≤ n ∧ iv = .int .i64 j ∧ kv = .int .i64 (cnt1 k j) ∧ Ints R w wr)
  (fun _ iv _ => n - (intOf iv).toNat)
 case atStart => exact ⟨0, Nat.zero_le _, rfl, rfl, Ints.refl R w⟩
 case round =>
  obtain ⟨j, hj, rfl, rfl, hI⟩ := hrel
  by_cases hlt : j < n
  ·obtain ⟨b, off, rfl, hRb, hfr, hnum⟩ := hc j hlt
   have hcell := hI.num b (off + j) hnum
   have hfr2 : wr.frozen? ⟨b, off + j, none⟩ = false := (hI.free b hfr).frozen
   have hset := Ints.set (w := wr) hRb hcell (cnt1 k j)
   obtain ⟨m, hm⟩ := hcell
   go_wp2
   refine ⟨⟨j + 1, by omega, ?_, ?_, hI.trans hset⟩, ?_⟩
   ·congr 1
   ·rfl
   ·simp [intOf]; omega
  ·have hjn : j = n := by omega
   subst hjn
   go_wp2
   go_ret
   exact ⟨rfl, hI⟩
theorem cnt_take {α : Type} (f : Int → α → Int) (k : Int) (ns : List α) (d : α) {j : Nat} (h : j < ns.length) : (ns.take (j + 1)).foldl f k = f ((ns.take j).foldl f k) (ns.getD j d) := by
 rw [List.take_succ_eq_append_getElem h, List.foldl_append, List.getD_eq_getElem?_getD, List.getElem?_eq_getElem h]
 rfl
theorem sh1_of {S R : Nat → Prop} {w : World} (hS : ∀ b, S b → R b ∧ Free w b) {l : List Int} {x : Value} (h : Rep S w (.slice (.int .i64)) l [x]) : Sh1 R w x l.length := by
 simp only [Rep] at h
 obtain ⟨a, cap, e, _, hel⟩ := h
 simp only [List.cons.injEq, and_true] at e
 subst e
 refine ⟨a, cap, rfl, fun j hj => ?_⟩
 obtain ⟨b, off, c, h1, h2, h3, h4⟩ := hel j _ (List.getElem?_eq_getElem hj)
 subst h3
 have := h4 0 _ rfl
 simp only [Ty.size, Nat.mul_one, Nat.add_zero] at this
 exact ⟨b, off, h1, (hS b h2).1, (hS b h2).2, _, this⟩
abbrev tEdit : Ty := .pair (.int .i64) (.pair (.int .i64) (.pair (.int .i64) (.pair (.int .i64) (.slice (.int .i64)))))
def cntE (k : Int) (n : Nat) : Int := cnt1 (Go.RowKit.wrap64 (Go.RowKit.wrap64 (Go.RowKit.wrap64 (Go.RowKit.wrap64 (k + 1) + 1) + 1) + 1)) n
def cntES (k : Int) (ns : List Nat) : Int := ns.foldl cntE k
def lensE (l : List tEdit.I) : List Nat := l.map fun x => List.length (α := Int) x.2.2.2.2
def lowEB (l : List tEdit.I) : Bool := decide (l.length ≤ 1048576) && (lensE l).all fun n => decide (n ≤ 1048576)
def markESF (k : Int) (l : List tEdit.I) : Option Int := if lowEB l = true then some (cntES k (lensE l)) else none
def fdMarkES : FD where
 A := .cons (.arr 64) (.cons (.dat (.int .i64)) .nil)
 ins := [(64, .deep 72 tEdit)]
 lend := [.arg 0]
 R := Int
 F := fun x => markESF x.1.2.1 x.2.1
 emb := fun r => ([.dat (.int .i64) r], [(64, .spent)])
def ShE (R : Nat → Prop) (w : World) (x : Value) (ns : List Nat) : Prop := ∃ a c, x = .slice a ns.length c ∧ ∀ j, j < ns.length → ∃ b off y, a = some ⟨b, off, none⟩ ∧ R b ∧ Free w b ∧ (∃ m, w.cell? ⟨b, off + j * 5, none⟩ = some (.int .i64 m)) ∧ (∃ m, w.cell? ⟨b, off + j * 5 + 1, none⟩ = some (.int .i64 m)) ∧ (∃ m, w.cell? ⟨b, off + j * 5 + 2, none⟩ = some (.int .i64 m)) ∧ (∃ m, w.cell? ⟨b, off + j * 5 + 3, none⟩ = some (.int .i64 m)) ∧ w.cell? ⟨b, off + j * 5 + 4, none⟩ = some y ∧ Sh1 R w y (ns.getD j 0)
set_option maxHeartbeats 1600000 in
set_option maxRecDepth 1000000 in
theorem walk_markES (R : Nat → Prop) (w : World) (x : Value) (ns : List Nat) (hn : ns.length ≤ 1048576) (hns : ∀ j, j < ns.length → ns.getD j 0 ≤ 1048576) (k : Int) (h : ShE R w x ns) :
  Calls prog 56 #[x, .int .i64 k] w fun e w' => e = .returned (.int .i64 (cntES k ns)) ∧ Ints R w w' := by
 obtain ⟨a, c, rfl, hc⟩ := h
 generalize hN : ns.length = n at *
 go_enter func56, (show (f56).ntmps = 48 from by kernel_rfl)
 go_wp2
 go_loopw [1, 5] (fun kv iv wr => ∃ j : Nat, j ≤ n ∧ iv = .int .i64 j ∧ kv = .int .i64 (cntES k (ns.take j)) ∧ Ints R w wr)
  (fun _ iv _ => n - (intOf iv).toNat)
 case atStart => exact ⟨0, Nat.zero_le _, rfl, rfl, Ints.refl R w⟩
 case round =>
  obtain ⟨j, hj, rfl, rfl, hI⟩ := hrel
  by_cases hlt : j < n
  ·obtain ⟨b, off, y, rfl, hRb, hfr, h0, h1, h2, h3, hcy, hy⟩ := hc j hlt
   obtain ⟨a', c', rfl, hy'⟩ := id hy
   have hcs : cntES k (ns.take (j + 1)) = cntE (cntES k (ns.take j)) (ns.getD j 0) := cnt_take cntE k ns 0 (by omega)
   generalize cntES k (ns.take j) = kj at *
   have hqn := hns j hlt
   generalize ns.getD j 0 = q at *
   have hfz : ∀ o, wr.frozen? ⟨b, o, none⟩ = false := fun _ => (hI.free b hfr).frozen
   have hf0 := hfz (off + j * 5)
   have hf1 := hfz (off + j * 5 + 1)
   have hf2 := hfz (off + j * 5 + 2)
   have hf3 := hfz (off + j * 5 + 3)
   clear hfz
   have c0 := hI.num b _ h0
   have c1 := hI.num b _ h1
   have c2 := hI.num b _ h2
   have c3 := hI.num b _ h3
   have c4 := hI.oth b _ _ (fun m em => by cases em) hcy
   have s0 := Ints.set (w := wr) hRb c0 kj
   have s1 := s0.trans (Ints.set hRb (s0.num b _ c1) (Go.RowKit.wrap64 (kj + 1)))
   have s2 := s1.trans (Ints.set hRb (s1.num b _ c2) (Go.RowKit.wrap64 (Go.RowKit.wrap64 (kj + 1) + 1)))
   have s3 := s2.trans (Ints.set hRb (s2.num b _ c3) (Go.RowKit.wrap64 (Go.RowKit.wrap64 (Go.RowKit.wrap64 (kj + 1) + 1) + 1)))
   have hwk := walk_mark1 R _ _ q hqn (Go.RowKit.wrap64 (Go.RowKit.wrap64 (Go.RowKit.wrap64 (Go.RowKit.wrap64 (kj + 1) + 1) + 1) + 1)) ((hy.step hI).step s3)
   generalize hw4 : World.setCell (World.setCell (World.setCell (World.setCell wr ⟨b, off + j * 5, none⟩ (Value.int .i64 kj)) ⟨b, off + j * 5 + 1, none⟩ (Value.int .i64 (Go.RowKit.wrap64 (kj + 1)))) ⟨b, off + j * 5 + 2, none⟩ (Value.int .i64 (Go.RowKit.wrap64 (Go.RowKit.wrap64 (kj + 1) + 1)))) ⟨b, off + j * 5 + 3, none⟩ (Value.int .i64 (Go.RowKit.wrap64 (Go.RowKit.wrap64 (Go.RowKit.wrap64 (kj + 1) + 1) + 1))) = w4 at hwk s3
   have hW : Hid (∀ n1, n1 = 0 → Calls prog 153 #[.slice a' q c', .int .i64 (Go.RowKit.wrap64 (Go.RowKit.wrap64 (Go.RowKit.wrap64 (Go.RowKit.wrap64 (kj + 1) + 1) + 1) + 1))] w4 fun e w2 => e = .returned (.int .i64 (cntE kj q)) ∧ Ints R w4 w2) := fun _ _ => hwk
   have c5 := s3.oth b _ _ (fun m em => by cases em) c4
   clear hwk hns hc hy hy' hqn s0 s1 s2 h0 h1 h2 h3 hcy
   obtain ⟨m0, hm0⟩ := c0
   obtain ⟨m1, hm1⟩ := c1
   obtain ⟨m2, hm2⟩ := c2
   obtain ⟨m3, hm3⟩ := c3
   go_wp2_with (go_at_call 153; refine (hW.out 0 rfl).mono ?_; rintro e w2 ⟨rfl, hI2⟩)
   refine ⟨⟨j + 1, by omega, rfl, by rw [hcs], hI.trans (s3.trans hI2)⟩, ?_⟩
   simp [intOf]
   omega
  ·have hjn : j = n := by omega
   subst hjn
   rw [← hN, List.take_length] at *
   go_wp2
   go_ret
   exact ⟨rfl, hI⟩
theorem shE_of {S R : Nat → Prop} {w : World} (hS : ∀ b, S b → R b ∧ Free w b) {l : List tEdit.I} {x : Value} {e : Nat} {xs : List Value} (hR : ∀ b, rootV x = some b → R b) (ho : w.ownsRow 0 e tEdit.size x l.length xs) (h : RepL S w tEdit l xs) : ShE R w x (lensE l) := by
 have hll : (lensE l).length = l.length := by unfold lensE; rw [List.length_map]
 rcases ho.2 with ⟨e1, h0⟩ | ⟨gb, cap, cur, e1, h1, hcur, _⟩
 ·have : l = [] := List.eq_nil_of_length_eq_zero h0
  subst this
  exact ⟨none, 0, e1, fun j hj => by simp [lensE] at hj⟩
 ·subst e1
  refine ⟨_, cap, by rw [hll], fun j hj => ?_⟩
  rw [hll] at hj
  obtain ⟨c, hc1, hc2⟩ := h.at (List.getElem?_eq_getElem hj)
  generalize hy : l[j] = y at hc1
  obtain ⟨k1, k2, k3, k4, y5⟩ := y
  simp only [Rep] at hc1
  obtain ⟨_, c1, rfl, rfl, _, c2, rfl, rfl, _, c3, rfl, rfl, _, c4, rfl, rfl, hr⟩ := hc1
  have hr' : Rep S w (.slice (.int .i64)) y5 c4 := by simp only [Rep]; exact hr
  obtain ⟨v, rfl⟩ : ∃ v, c4 = [v] := List.length_eq_one_iff.1 hr'.len
  have cell : ∀ i u, ([Value.int .i64 k1] ++ ([Value.int .i64 k2] ++ ([Value.int .i64 k3] ++ ([Value.int .i64 k4] ++ [v]))))[i]? = some u → w.cell? ⟨gb, 0 + j * 5 + i, none⟩ = some u := fun i u hu => by
   have := ho.cells (g := gb) rfl _ u (hc2 i u hu)
   rw [Addr.add_lit] at this
   rw [Nat.add_assoc]
   exact this
  have hq : (lensE l).getD j 0 = List.length (α := Int) y5 := by
   unfold lensE
   rw [List.getD_eq_getElem?_getD, List.getElem?_map, List.getElem?_eq_getElem hj, hy]
   rfl
  rw [hq]
  exact ⟨gb, 0, v, rfl, hR gb rfl, ⟨cur, e, hcur⟩, ⟨_, cell 0 _ rfl⟩, ⟨_, cell 1 _ rfl⟩, ⟨_, cell 2 _ rfl⟩, ⟨_, cell 3 _ rfl⟩, cell 4 _ rfl, sh1_of hS hr'⟩
theorem hand_markES : FDok prog (56, fdMarkES) := by
 intro x r hr w X μi vals hX hm hins hsz hv
 obtain ⟨⟨u, k, u2⟩, l, u3⟩ := x
 have hr' : markESF k l = some r := hr
 unfold markESF at hr'
 split at hr'
 next hlow =>
  cases hr'
  simp only [lowEB, Bool.and_eq_true, List.all_eq_true, decide_eq_true_eq] at hlow
  obtain ⟨y, z, rfl, h1, h2⟩ := args2 (v := .arr 64) (u := .dat (.int .i64) k) hsz hv
  rw [int_of h2]
  cases h1 with
  | @arr _ _ a n c rs hs hμ =>
   obtain ⟨ob, hob, hobo⟩ := hm.ob 64 _ hμ
   have hob' : ob = .deep 72 tEdit l := by
    have : look (mkObs fdMarkES.ins (l, u3)) 64 = some (.deep 72 tEdit l) := rfl
    exact Option.some.inj (hob.symm.trans this)
   subst hob'
   have hD : DeepOK w (old w μi) 72 tEdit l ⟨.slice a n c, rs, hs⟩ := hobo
   obtain ⟨xs, hown, hrep⟩ := hD.rep
   have hsh := shE_of (R := fun b => b ∈ rs) (fun b hb => ⟨hb.1.1, hb.2⟩) (fun b hb => hD.top b hb) hown hrep
   have hb : f56.body.isSome = true := by kernel_rfl
   obtain ⟨cd, hc⟩ := Option.isSome_iff_exists.1 hb
   refine .inl ⟨run_enter func56 (by kernel_rfl) hc _ w, ?_⟩
   refine (walk_markES (fun b => b ∈ rs) w _ _ (by unfold lensE; rw [List.length_map]; exact hlow.1) (fun j hj => ?_) k hsh).mono fun e w' ⟨he, hI⟩ => ⟨_, he, ?_⟩
   ·rw [List.getD_eq_getElem?_getD, List.getElem?_eq_getElem hj]
    exact hlow.2 _ (List.getElem_mem hj)
   ·have hk : Kept (old w μi) w w' := ⟨hI.os, hI.tape, hI.output, Nat.le_of_eq hI.size.symm, fun b hb => hI.block b fun hr => hb.2 64 _ hμ hr⟩
    refine ⟨hk, again (fun _ => none) 64 ⟨.slice a n c, rs, hs⟩, ⟨hX, fun b hb => by rw [hI.size]; exact hm.hlo b hb, fun o mv h => ?_, fun o p mv mv' b h1 h2 _ _ => ?_, hm.tab.step hk.block⟩, fun o mv h => ?_, fun p hp _ => ?_, .inl ⟨_, rfl, .dat rfl rfl⟩⟩
    ·rcases again_inv h with ⟨rfl, rfl⟩ | ⟨_, h⟩
     ·exact ⟨.spent, rfl, hD.hs, fun b hb => ⟨(hD.low b hb).1, by rw [hI.size]; exact (hD.low b hb).2⟩⟩
     ·cases h
    ·rcases again_inv h1 with ⟨rfl, rfl⟩ | ⟨_, h1⟩
     ·rcases again_inv h2 with ⟨rfl, rfl⟩ | ⟨_, h2⟩
      ·rfl
      ·cases h2
     ·cases h1
    ·rcases again_inv h with ⟨rfl, rfl⟩ | ⟨_, h⟩
     ·exact ⟨_, List.mem_singleton.2 rfl, rfl⟩
     ·cases h
    ·rw [List.mem_singleton.1 hp]
     exact ⟨_, rs, hs, hμ, again_self⟩
 next => cases hr'
end Go.Proofs.YtnagpmhaddfgmaaGreat
