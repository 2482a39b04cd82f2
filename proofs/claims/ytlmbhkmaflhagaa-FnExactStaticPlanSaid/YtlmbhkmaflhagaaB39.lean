/-
  Marks laid into an array of arrays of arrays, whose blocks are the caller's own: what is written is not told.
-/
import Derived.Test.YtlmbhkmaflhagaaB37
import Derived.HandedShaped
namespace Go.Proofs.Ytlmbhkmaflhagaa
open Go.RowKit
open Go.Proofs.Try
def mark1 (k : Int) (l : List Int) : Int := l.foldl (fun k _ => Go.RowKit.wrap64 (k + 1)) k
def mark2 (k : Int) (l : List (List Int)) : Int := l.foldl mark1 k
def mark3 (k : Int) (l : List (List (List Int))) : Int := l.foldl mark2 k
def low3B (l : List (List (List Int))) : Bool := decide (l.length ≤ 1048576) && l.all fun r => decide (r.length ≤ 1048576) && r.all fun s => decide (s.length ≤ 1048576)
def mark3F (k : Int) (l : List (List (List Int))) : Option Int := if low3B l = true then some (mark3 k l) else none
def fdMark3 : FD where
  A := .cons (.arr 64) (.cons (.dat (.int .i64)) .nil)
  ins := [(64, .deep 33 (.slice (.slice (.int .i64))))]
  lend := [.arg 0]
  R := Int
  F := fun x => mark3F x.1.2.1 x.2.1
  emb := fun r => ([.dat (.int .i64) r], [(64, .spent)])
def cnt1 (k : Int) : Nat → Int
  | 0 => k
  | n + 1 => Go.RowKit.wrap64 (cnt1 k n + 1)
theorem cnt1_succ (k : Int) (n : Nat) : cnt1 k (n + 1) = Go.RowKit.wrap64 (cnt1 k n + 1) := rfl
theorem cnt1_head (k : Int) : ∀ n : Nat, cnt1 k (n + 1) = cnt1 (Go.RowKit.wrap64 (k + 1)) n
  | 0 => rfl
  | n + 1 => by rw [cnt1_succ k (n + 1), cnt1_head k n, cnt1_succ]
theorem mark1_cnt : ∀ (l : List Int) (k : Int), mark1 k l = cnt1 k l.length
  | [], _ => rfl
  | x :: l, k => by
    rw [List.length_cons, cnt1_head, ← mark1_cnt l]
    rfl
structure Ints (R : Nat → Prop) (w w' : World) : Prop where
  os : w'.os = w.os
  tape : w'.tape = w.tape
  output : w'.output = w.output
  size : w'.heap.size = w.heap.size
  block : ∀ b, ¬ R b → w'.heap[b]? = w.heap[b]?
  free : ∀ b, Free w b → Free w' b
  num : ∀ b off, (∃ m, w.cell? ⟨b, off, none⟩ = some (.int .i64 m)) → ∃ m, w'.cell? ⟨b, off, none⟩ = some (.int .i64 m)
  oth : ∀ b off u, (∀ m, u ≠ .int .i64 m) → w.cell? ⟨b, off, none⟩ = some u → w'.cell? ⟨b, off, none⟩ = some u
theorem Ints.refl (R : Nat → Prop) (w : World) : Ints R w w := ⟨rfl, rfl, rfl, rfl, fun _ _ => rfl, fun _ h => h, fun _ _ h => h, fun _ _ _ _ h => h⟩
theorem Ints.trans {R : Nat → Prop} {a b c : World} (h : Ints R a b) (k : Ints R b c) : Ints R a c :=
  ⟨k.os.trans h.os, k.tape.trans h.tape, k.output.trans h.output, k.size.trans h.size, fun x hx => (k.block x hx).trans (h.block x hx), fun x hx => k.free x (h.free x hx), fun x o hx => k.num x o (h.num x o hx), fun x o u hu hx => k.oth x o u hu (h.oth x o u hu hx)⟩
theorem Ints.set {R : Nat → Prop} {w : World} {b off : Nat} (hR : R b) (hc : ∃ m, w.cell? ⟨b, off, none⟩ = some (.int .i64 m)) (n : Int) : Ints R w (w.setCell ⟨b, off, none⟩ (.int .i64 n)) := by
  refine ⟨rfl, rfl, rfl, by simp [World.setCell], fun x hx => ?_, fun x hx => ?_, fun x o hx => ?_, fun x o u hu hx => ?_⟩
  · exact Below.heap_setCell w _ _ x fun e => hx (by simp only at e; rw [e]; exact hR)
  · obtain ⟨cur, e, h⟩ := hx
    by_cases hb : x = b
    · subst hb
      exact ⟨cur.setIfInBounds off (.int .i64 n), e, by simp [World.setCell, Array.getElem?_modify, h]⟩
    · exact ⟨cur, e, (Below.heap_setCell w _ _ x hb).trans h⟩
  · exact someInt_setCell hx _ _
  · obtain ⟨m, hm⟩ := hc
    have hne : (⟨b, off, none⟩ : Addr) ≠ ⟨x, o, none⟩ := fun e => by
      rw [e, hx] at hm
      exact hu m (Option.some.inj hm)
    exact (World.cell?_setCell_other _ _ _ _ hne).trans hx
theorem Free.frozen {w : World} {b off : Nat} (h : Free w b) : w.frozen? ⟨b, off, none⟩ = false := by
  obtain ⟨cur, e, h⟩ := h
  simp [World.frozen?, h]
def Sh1 (R : Nat → Prop) (w : World) (x : Value) (n : Nat) : Prop := ∃ a c, x = .slice a n c ∧ ∀ j, j < n → ∃ b off, a = some ⟨b, off, none⟩ ∧ R b ∧ Free w b ∧ ∃ m, w.cell? ⟨b, off + j, none⟩ = some (.int .i64 m)
def Sh2 (R : Nat → Prop) (w : World) (x : Value) (ns : List Nat) : Prop := ∃ a c, x = .slice a ns.length c ∧ ∀ j, j < ns.length → ∃ b off y, a = some ⟨b, off, none⟩ ∧ w.cell? ⟨b, off + j, none⟩ = some y ∧ Sh1 R w y (ns.getD j 0)
def Sh3 (R : Nat → Prop) (w : World) (x : Value) (ns : List (List Nat)) : Prop := ∃ a c, x = .slice a ns.length c ∧ ∀ j, j < ns.length → ∃ b off y, a = some ⟨b, off, none⟩ ∧ w.cell? ⟨b, off + j, none⟩ = some y ∧ Sh2 R w y (ns.getD j [])
theorem Sh1.step {R : Nat → Prop} {w w' : World} {x : Value} {n : Nat} (h : Sh1 R w x n) (hw : Ints R w w') : Sh1 R w' x n := by
  obtain ⟨a, c, e, h⟩ := h
  refine ⟨a, c, e, fun j hj => ?_⟩
  obtain ⟨b, off, h1, h2, h3, h4⟩ := h j hj
  exact ⟨b, off, h1, h2, hw.free b h3, hw.num b _ h4⟩
theorem Sh2.step {R : Nat → Prop} {w w' : World} {x : Value} {ns : List Nat} (h : Sh2 R w x ns) (hw : Ints R w w') : Sh2 R w' x ns := by
  obtain ⟨a, c, e, h⟩ := h
  refine ⟨a, c, e, fun j hj => ?_⟩
  obtain ⟨b, off, y, h1, h2, h3⟩ := h j hj
  obtain ⟨a', c', e', _⟩ := id h3
  exact ⟨b, off, y, h1, hw.oth b _ y (fun m em => by rw [e'] at em; cases em) h2, h3.step hw⟩
theorem Sh3.step {R : Nat → Prop} {w w' : World} {x : Value} {ns : List (List Nat)} (h : Sh3 R w x ns) (hw : Ints R w w') : Sh3 R w' x ns := by
  obtain ⟨a, c, e, h⟩ := h
  refine ⟨a, c, e, fun j hj => ?_⟩
  obtain ⟨b, off, y, h1, h2, h3⟩ := h j hj
  obtain ⟨a', c', e', _⟩ := id h3
  exact ⟨b, off, y, h1, hw.oth b _ y (fun m em => by rw [e'] at em; cases em) h2, h3.step hw⟩
set_option maxHeartbeats 1600000 in
set_option maxRecDepth 1000000 in
theorem walk_mark1 (R : Nat → Prop) (w : World) (x : Value) (n : Nat) (hn : n ≤ 1048576) (k : Int) (h : Sh1 R w x n) :
    Calls prog 47 #[x, .int .i64 k] w fun e w' => e = .returned (.int .i64 (cnt1 k n)) ∧ Ints R w w' := by
  obtain ⟨a, c, rfl, hc⟩ := h
  go_enter func47, (show (f47).ntmps = 19 from by kernel_rfl)
  go_wp2
  go_loopw [1, 5] (fun kv iv wr => ∃ j : Nat, j ≤ n ∧ iv = .int .i64 j ∧ kv = .int .i64 (cnt1 k j) ∧ Ints R w wr)
    (fun _ iv _ => n - (intOf iv).toNat)
  case atStart => exact ⟨0, Nat.zero_le _, rfl, rfl, Ints.refl R w⟩
  case round =>
    obtain ⟨j, hj, rfl, rfl, hI⟩ := hrel
    by_cases hlt : j < n
    · obtain ⟨b, off, rfl, hRb, hfr, hnum⟩ := hc j hlt
      have hcell := hI.num b (off + j) hnum
      have hfr2 : wr.frozen? ⟨b, off + j, none⟩ = false := (hI.free b hfr).frozen
      have hset := Ints.set (w := wr) hRb hcell (cnt1 k j)
      obtain ⟨m, hm⟩ := hcell
      go_wp2
      refine ⟨⟨j + 1, by omega, ?_, ?_, hI.trans hset⟩, ?_⟩
      · congr 1
      · rfl
      · simp [intOf]; omega
    · have hjn : j = n := by omega
      subst hjn
      go_wp2
      go_ret
      exact ⟨rfl, hI⟩
def cnt2 (k : Int) (ns : List Nat) : Int := ns.foldl cnt1 k
theorem cnt_take {α : Type} (f : Int → α → Int) (k : Int) (ns : List α) (d : α) {j : Nat} (h : j < ns.length) : (ns.take (j + 1)).foldl f k = f ((ns.take j).foldl f k) (ns.getD j d) := by
  rw [List.take_succ_eq_append_getElem h, List.foldl_append, List.getD_eq_getElem?_getD, List.getElem?_eq_getElem h]
  rfl
set_option maxHeartbeats 1600000 in
set_option maxRecDepth 1000000 in
theorem walk_mark2 (R : Nat → Prop) (w : World) (x : Value) (ns : List Nat) (hn : ns.length ≤ 1048576) (hns : ∀ j, j < ns.length → ns.getD j 0 ≤ 1048576) (k : Int) (h : Sh2 R w x ns) :
    Calls prog 28 #[x, .int .i64 k] w fun e w' => e = .returned (.int .i64 (cnt2 k ns)) ∧ Ints R w w' := by
  obtain ⟨a, c, rfl, hc⟩ := h
  generalize hN : ns.length = n at *
  go_enter func28, (show (f28).ntmps = 19 from by kernel_rfl)
  go_wp2
  go_loopw [1, 5] (fun kv iv wr => ∃ j : Nat, j ≤ n ∧ iv = .int .i64 j ∧ kv = .int .i64 (cnt2 k (ns.take j)) ∧ Ints R w wr)
    (fun _ iv _ => n - (intOf iv).toNat)
  case atStart => exact ⟨0, Nat.zero_le _, rfl, rfl, Ints.refl R w⟩
  case round =>
    obtain ⟨j, hj, rfl, rfl, hI⟩ := hrel
    by_cases hlt : j < n
    · obtain ⟨b, off, y, rfl, hcy, hy⟩ := hc j hlt
      obtain ⟨a', c', rfl, _⟩ := id hy
      have hcell := hI.oth b (off + j) _ (fun m em => by cases em) hcy
      have hcs : cnt2 k (ns.take (j + 1)) = cnt1 (cnt2 k (ns.take j)) (ns.getD j 0) := cnt_take cnt1 k ns 0 (by omega)
      have hwk := walk_mark1 R wr _ (ns.getD j 0) (hns j hlt) (cnt2 k (ns.take j)) (hy.step hI)
      generalize cnt2 k (ns.take j) = kj at *
      generalize ns.getD j 0 = q at *
      clear hy hns hcy
      have hW : Hid (∀ n1, n1 = 0 → Calls prog 47 #[.slice a' q c', .int .i64 kj] wr fun e w' => e = .returned (.int .i64 (cnt1 kj q)) ∧ Ints R wr w') := fun _ _ => hwk
      clear hwk
      go_wp2_with (go_at_call 47; refine (hW.out 0 rfl).mono ?_; rintro e w2 ⟨rfl, hI2⟩)
      refine ⟨⟨j + 1, by omega, rfl, by rw [hcs], hI.trans hI2⟩, ?_⟩
      simp [intOf]
      omega
    · have hjn : j = n := by omega
      subst hjn
      rw [← hN, List.take_length] at *
      go_wp2
      go_ret
      exact ⟨rfl, hI⟩
def cnt3 (k : Int) (ns : List (List Nat)) : Int := ns.foldl cnt2 k
set_option maxHeartbeats 1600000 in
set_option maxRecDepth 1000000 in
theorem walk_mark3 (R : Nat → Prop) (w : World) (x : Value) (ns : List (List Nat)) (hn : ns.length ≤ 1048576) (hns : ∀ j, j < ns.length → (ns.getD j []).length ≤ 1048576 ∧ ∀ i, i < (ns.getD j []).length → (ns.getD j []).getD i 0 ≤ 1048576) (k : Int) (h : Sh3 R w x ns) :
    Calls prog 88 #[x, .int .i64 k] w fun e w' => e = .returned (.int .i64 (cnt3 k ns)) ∧ Ints R w w' := by
  obtain ⟨a, c, rfl, hc⟩ := h
  generalize hN : ns.length = n at *
  go_enter func88, (show (f88).ntmps = 19 from by kernel_rfl)
  go_wp2
  go_loopw [1, 5] (fun kv iv wr => ∃ j : Nat, j ≤ n ∧ iv = .int .i64 j ∧ kv = .int .i64 (cnt3 k (ns.take j)) ∧ Ints R w wr)
    (fun _ iv _ => n - (intOf iv).toNat)
  case atStart => exact ⟨0, Nat.zero_le _, rfl, rfl, Ints.refl R w⟩
  case round =>
    obtain ⟨j, hj, rfl, rfl, hI⟩ := hrel
    by_cases hlt : j < n
    · obtain ⟨b, off, y, rfl, hcy, hy⟩ := hc j hlt
      obtain ⟨a', c', rfl, _⟩ := id hy
      have hcell := hI.oth b (off + j) _ (fun m em => by cases em) hcy
      have hcs : cnt3 k (ns.take (j + 1)) = cnt2 (cnt3 k (ns.take j)) (ns.getD j []) := cnt_take cnt2 k ns [] (by omega)
      have hwk := walk_mark2 R wr _ (ns.getD j []) (hns j hlt).1 (hns j hlt).2 (cnt3 k (ns.take j)) (hy.step hI)
      generalize cnt3 k (ns.take j) = kj at *
      generalize ns.getD j [] = q at *
      clear hy hns hcy
      have hW : Hid (∀ n1, n1 = 0 → Calls prog 28 #[.slice a' q.length c', .int .i64 kj] wr fun e w' => e = .returned (.int .i64 (cnt2 kj q)) ∧ Ints R wr w') := fun _ _ => hwk
      clear hwk
      go_wp2_with (go_at_call 28; refine (hW.out 0 rfl).mono ?_; rintro e w2 ⟨rfl, hI2⟩)
      refine ⟨⟨j + 1, by omega, rfl, by rw [hcs], hI.trans hI2⟩, ?_⟩
      simp [intOf]
      omega
    · have hjn : j = n := by omega
      subst hjn
      rw [← hN, List.take_length] at *
      go_wp2
      go_ret
      exact ⟨rfl, hI⟩
theorem foldl_map' {α β : Type} (f : Int → β → Int) (g : α → β) : ∀ (l : List α) (k : Int), (l.map g).foldl f k = l.foldl (fun k x => f k (g x)) k
  | [], _ => rfl
  | x :: l, k => by rw [List.map_cons, List.foldl_cons, List.foldl_cons, foldl_map' f g l]
theorem mark2_cnt (l : List (List Int)) (k : Int) : cnt2 k (l.map List.length) = mark2 k l := by
  unfold cnt2 mark2
  rw [foldl_map']
  exact congrArg (fun f => l.foldl f k) (funext fun k => funext fun x => (mark1_cnt x k).symm)
theorem mark3_cnt (l : List (List (List Int))) (k : Int) : cnt3 k (l.map fun r => r.map List.length) = mark3 k l := by
  unfold cnt3 mark3
  rw [foldl_map']
  exact congrArg (fun f => l.foldl f k) (funext fun k => funext fun x => mark2_cnt x k)
theorem sh1_of {S R : Nat → Prop} {w : World} (hS : ∀ b, S b → R b ∧ Free w b) {l : List Int} {x : Value} (h : Rep S w (.slice (.int .i64)) l [x]) : Sh1 R w x l.length := by
  simp only [Rep] at h
  obtain ⟨a, cap, e, _, hel⟩ := h
  simp only [List.cons.injEq, and_true] at e
  subst e
  refine ⟨a, cap, rfl, fun j hj => ?_⟩
  obtain ⟨b, off, c, h1, h2, h3, h4⟩ := hel j _ (List.getElem?_eq_getElem hj)
  subst h3
  have := h4 0 _ rfl
  simp only [Ty.size, Nat.mul_one, Nat.add_zero] at this
  exact ⟨b, off, h1, (hS b h2).1, (hS b h2).2, _, this⟩
theorem sh2_of {S R : Nat → Prop} {w : World} (hS : ∀ b, S b → R b ∧ Free w b) {l : List (List Int)} {x : Value} (h : Rep S w (.slice (.slice (.int .i64))) l [x]) : Sh2 R w x (l.map List.length) := by
  rw [Rep] at h
  obtain ⟨a, cap, e, _, hel⟩ := h
  simp only [List.cons.injEq, and_true] at e
  subst e
  refine ⟨a, cap, by rw [List.length_map], fun j hj => ?_⟩
  rw [List.length_map] at hj
  obtain ⟨b, off, c, h1, h2, h3, h4⟩ := hel j _ (List.getElem?_eq_getElem hj)
  obtain ⟨y, rfl⟩ : ∃ y, c = [y] := List.length_eq_one_iff.1 h3.len
  have := h4 0 _ rfl
  simp only [Ty.size, Nat.mul_one, Nat.add_zero] at this
  refine ⟨b, off, y, h1, this, ?_⟩
  have h5 := sh1_of hS h3
  rw [List.getD_eq_getElem?_getD, List.getElem?_map, List.getElem?_eq_getElem hj]
  exact h5
theorem sh3_of {S R : Nat → Prop} {w : World} (hS : ∀ b, S b → R b ∧ Free w b) {l : List (List (List Int))} {x : Value} {e : Nat} {xs : List Value} (ho : w.ownsRow 0 e 1 x l.length xs) (h : RepL S w (.slice (.slice (.int .i64))) l xs) : Sh3 R w x (l.map fun r => r.map List.length) := by
  rcases ho.2 with ⟨e1, h0⟩ | ⟨gb, cap, cur, e1, _⟩
  · have : l = [] := List.eq_nil_of_length_eq_zero h0
    subst this
    exact ⟨none, 0, e1, fun j hj => by simp at hj⟩
  · subst e1
    refine ⟨_, cap, by rw [List.length_map], fun j hj => ?_⟩
    rw [List.length_map] at hj
    obtain ⟨c, hc1, hc2⟩ := h.at (List.getElem?_eq_getElem hj)
    obtain ⟨y, rfl⟩ : ∃ y, c = [y] := List.length_eq_one_iff.1 hc1.len
    have hxj := hc2 0 y rfl
    simp only [Ty.size, Nat.mul_one, Nat.add_zero] at hxj
    have hcell := ho.cells (g := gb) rfl j y hxj
    rw [Addr.add_lit] at hcell
    refine ⟨gb, 0, y, rfl, hcell, ?_⟩
    have h5 := sh2_of hS hc1
    rw [List.getD_eq_getElem?_getD, List.getElem?_map, List.getElem?_eq_getElem hj]
    exact h5
theorem hand_mark3 : FDok prog (88, fdMark3) := by
  intro x r hr w X μi vals hX hm hins hsz hv
  obtain ⟨⟨u, k, u2⟩, l, u3⟩ := x
  have hr' : mark3F k l = some r := hr
  unfold mark3F at hr'
  split at hr'
  next hlow =>
    cases hr'
    simp only [low3B, Bool.and_eq_true, List.all_eq_true, decide_eq_true_eq] at hlow
    obtain ⟨y, z, rfl, h1, h2⟩ := args2 (v := .arr 64) (u := .dat (.int .i64) k) hsz hv
    rw [int_of h2]
    cases h1 with
    | @arr _ _ a n c rs hs hμ =>
      obtain ⟨ob, hob, hobo⟩ := hm.ob 64 _ hμ
      have hob' : ob = .deep 33 (.slice (.slice (.int .i64))) l := by
        have : look (mkObs fdMark3.ins (l, u3)) 64 = some (.deep 33 (.slice (.slice (.int .i64))) l) := rfl
        exact Option.some.inj (hob.symm.trans this)
      subst hob'
      have hD : DeepOK w (old w μi) 33 (.slice (.slice (.int .i64))) l ⟨.slice a n c, rs, hs⟩ := hobo
      obtain ⟨xs, hown, hrep⟩ := hD.rep
      have hsh := sh3_of (R := fun b => b ∈ rs) (fun b hb => ⟨hb.1.1, hb.2⟩) hown hrep
      have hb : f88.body.isSome = true := by kernel_rfl
      obtain ⟨cd, hc⟩ := Option.isSome_iff_exists.1 hb
      refine .inl ⟨run_enter func88 (by kernel_rfl) hc _ w, ?_⟩
      refine (walk_mark3 (fun b => b ∈ rs) w _ _ (by rw [List.length_map]; exact hlow.1) (fun j hj => ?_) k hsh).mono fun e w' ⟨he, hI⟩ => ⟨_, he, ?_⟩
      · rw [List.length_map] at hj
        have hm1 : (l.map fun r => r.map List.length).getD j [] = (l[j]).map List.length := by rw [List.getD_eq_getElem?_getD, List.getElem?_map, List.getElem?_eq_getElem hj]; rfl
        have hl1 := hlow.2 _ (List.getElem_mem hj)
        rw [hm1]
        refine ⟨by rw [List.length_map]; exact hl1.1, fun i hi => ?_⟩
        rw [List.length_map] at hi
        rw [List.getD_eq_getElem?_getD, List.getElem?_map, List.getElem?_eq_getElem hi]
        exact hl1.2 _ (List.getElem_mem hi)
      · rw [mark3_cnt]
        have hk : Kept (old w μi) w w' := ⟨hI.os, hI.tape, hI.output, Nat.le_of_eq hI.size.symm, fun b hb => hI.block b fun hr => hb.2 64 _ hμ hr⟩
        refine ⟨hk, again (fun _ => none) 64 ⟨.slice a n c, rs, hs⟩, ⟨hX, fun b hb => by rw [hI.size]; exact hm.hlo b hb, fun o mv h => ?_, fun o p mv mv' b h1 h2 _ _ => ?_, hm.tab.step hk.block⟩, fun o mv h => ?_, fun p hp _ => ?_, .inl ⟨_, rfl, .dat rfl rfl⟩⟩
        · rcases again_inv h with ⟨rfl, rfl⟩ | ⟨_, h⟩
          · exact ⟨.spent, rfl, hD.hs, fun b hb => ⟨(hD.low b hb).1, by rw [hI.size]; exact (hD.low b hb).2⟩⟩
          · cases h
        · rcases again_inv h1 with ⟨rfl, rfl⟩ | ⟨_, h1⟩
          · rcases again_inv h2 with ⟨rfl, rfl⟩ | ⟨_, h2⟩
            · rfl
            · cases h2
          · cases h1
        · rcases again_inv h with ⟨rfl, rfl⟩ | ⟨_, h⟩
          · exact ⟨_, List.mem_singleton.2 rfl, rfl⟩
          · cases h
        · rw [List.mem_singleton.1 hp]
          exact ⟨_, rs, hs, hμ, again_self⟩
  next => cases hr'
end Go.Proofs.Ytlmbhkmaflhagaa
