/-
  All sets of sites; numbers in order; greedy medians and orders that are drawn.
-/
import Derived.Test.YtbofjefpngpegaaGreatQ28
import Derived.Test.YtbofjefpngpegaaGreatP34
import Derived.Test.YtbofjefpngpegaaGreatPC
import Derived.Test.YtbofjefpngpegaaGreatP30
namespace Go.Proofs.YtbofjefpngpegaaGreat
def subs : Nat → List (List Int)
  | 0 => [[]]
  | n + 1 => subs n ++ (subs n).map fun s => s ++ [(n : Int)]
theorem wjx : ∀ (n : Nat) {s : List Int}, s.Pairwise (· < ·) → (∀ x ∈ s, 0 ≤ x ∧ x < (n : Int)) → s ∈ subs n
  | 0, s, _, h => by
    cases s with
    | nil => exact List.mem_singleton.2 rfl
    | cons x s => have := h x (by simp); omega
  | n + 1, s, hp, h => by
    rw [subs, List.mem_append]
    rcases List.eq_nil_or_concat s with rfl | ⟨i, z, rfl⟩
    · exact .inl (wjx n hp fun x hx => by cases hx)
    · rw [List.concat_eq_append] at hp h ⊢
      obtain ⟨p1, _, p3⟩ := List.pairwise_append.1 hp
      have hz := h z (by simp)
      by_cases e : z = (n : Int)
      · refine .inr (List.mem_map.2 ⟨i, wjx n p1 fun x hx => ?_, by rw [e]⟩)
        have h1 := h x (List.mem_append_left _ hx)
        have h2 := p3 x hx z (by simp)
        omega
      · refine .inl (wjx n hp fun x hx => ?_)
        have h1 := h x hx
        rcases List.mem_append.1 hx with hx | hx
        · have h2 := p3 x hx z (by simp)
          omega
        · rw [List.mem_singleton.1 hx] at h1 ⊢
          omega
def intB : Int → Int → Bool
  | .ofNat a, .ofNat b => Nat.beq a b
  | _, _ => false
def lstB : List Int → List Int → Bool
  | [], [] => true
  | a :: l, b :: r => intB a b && lstB l r
  | _, _ => false
theorem wapt : ∀ {a b : List Int}, lstB a b = true → a = b
  | [], [], _ => rfl
  | [], _ :: _, h => by cases h
  | _ :: _, [], h => by cases h
  | x :: a, y :: b, h => by
    unfold lstB at h
    rw [Bool.and_eq_true] at h
    have e : x = y := by
      have h1 := h.1
      unfold intB at h1
      split at h1
      · exact congrArg Int.ofNat (Nat.eq_of_beq_eq_true h1)
      · cases h1
    rw [e, wapt h.2]
def chkM (n : Nat) : Bool := (subs n).all fun s => s.isEmpty || (wau n).any fun t => lstB s t
theorem wbaj : ∀ n : Nat, 1 ≤ n → n ≤ 7 → chkM n = true
  | 0, h, _ => by omega
  | 1, _, _ => by kernel_rfl
  | 2, _, _ => by kernel_rfl
  | 3, _, _ => by kernel_rfl
  | 4, _, _ => by kernel_rfl
  | 5, _, _ => by kernel_rfl
  | 6, _, _ => by kernel_rfl
  | 7, _, _ => by kernel_rfl
  | n + 8, _, h => by omega
theorem wbak {n : Nat} (h1 : 1 ≤ n) (h7 : n ≤ 7) {s : List Int} (hp : s.Pairwise (· < ·)) (hr : ∀ x ∈ s, 0 ≤ x ∧ x < (n : Int)) (h0 : s ≠ []) : s ∈ wau n := by
  have h := List.all_eq_true.1 (wbaj n h1 h7) s (wjx n hp hr)
  rw [Bool.or_eq_true] at h
  rcases h with h | h
  · exact absurd (List.isEmpty_iff.1 h) h0
  · obtain ⟨t, ht, e⟩ := List.any_eq_true.1 h
    rw [wapt e]
    exact ht
theorem wbal {l : List Int} {n : Nat} (h : wep l n = true) (h7 : n ≤ 7) {k : Nat} (h1 : 1 ≤ k) (h2 : k ≤ n) : wan (l.take k) ∈ wwk n (k : Int) ∧ wbz (wan (l.take k)) 0 ((n : Int) - 1) = true := by
  obtain ⟨a, b, c⟩ := wck.1 h
  obtain ⟨_, p2, _⟩ := wdk h h7 h1 h2
  have hr : wbz (wan (l.take k)) 0 ((n : Int) - 1) = true := wjg.2 ⟨fun x hx => by have := b x (List.mem_of_mem_take hx); omega, c.sublist (List.take_sublist _ _)⟩
  obtain ⟨r1, r2⟩ := wgi.1 hr
  refine ⟨wtn.2 ⟨wbak (by omega) h7 r2 (fun x hx => by have := r1 x hx; omega) (fun e => by rw [e] at p2; simp at p2; omega), by omega⟩, hr⟩
theorem wnt : ∀ {a b : List Int}, a.Pairwise (· < ·) → b.Pairwise (· < ·) → (∀ x, x ∈ a ↔ x ∈ b) → a = b
  | [], [], _, _, _ => rfl
  | [], y :: b, _, _, h => by have := (h y).2 (by simp); cases this
  | x :: a, [], _, _, h => by have := (h x).1 (by simp); cases this
  | x :: a, y :: b, ha, hb, h => by
    obtain ⟨a1, a2⟩ := List.pairwise_cons.1 ha
    obtain ⟨b1, b2⟩ := List.pairwise_cons.1 hb
    have e : x = y := by
      rcases List.mem_cons.1 ((h x).1 (by simp)) with e | hx
      · exact e
      · rcases List.mem_cons.1 ((h y).2 (by simp)) with e | hy
        · exact e.symm
        · have := a1 y hy
          have := b1 x hx
          omega
    subst e
    rw [wnt a2 b2 fun z => ?_]
    constructor
    · intro hz
      have hlt := a1 z hz
      rcases List.mem_cons.1 ((h z).1 (List.mem_cons_of_mem _ hz)) with e | h'
      · omega
      · exact h'
    · intro hz
      have hlt := b1 z hz
      rcases List.mem_cons.1 ((h z).2 (List.mem_cons_of_mem _ hz)) with e | h'
      · omega
      · exact h'
def upTo (l : List Int) (k : Nat) : List Int := ((List.range k).filter fun (a : Nat) => l.contains (a : Int)).map fun (a : Nat) => (a : Int)
theorem wapu (l : List Int) (k : Nat) : upTo l (k + 1) = bif l.contains (k : Int) then upTo l k ++ [(k : Int)] else upTo l k := by
  unfold upTo
  rw [List.range_succ, List.filter_append]
  cases h : l.contains (k : Int) with
  | true => rw [List.filter_cons_of_pos (p := fun (a : Nat) => l.contains (a : Int)) h]; simp
  | false => rw [List.filter_cons_of_neg (p := fun (a : Nat) => l.contains (a : Int)) (by rw [h]; exact Bool.noConfusion)]; simp
theorem wbam (l : List Int) (k : Nat) : (upTo l k).length ≤ k := by
  have h := List.length_filter_le (fun (a : Nat) => l.contains (a : Int)) (List.range k)
  simp only [List.length_range] at h
  simp only [upTo, List.length_map]
  exact h
theorem wapv {l : List Int} {k : Nat} (hr : ∀ x ∈ l, 0 ≤ x ∧ x < (k : Int)) (hn : l.Nodup) : upTo l k = wan l := by
  obtain ⟨h1, _, h3⟩ := wcj l
  refine wnt ?_ ?_ fun x => ?_
  · unfold upTo
    refine List.Pairwise.map _ (fun a b (h : a < b) => ?_) ((List.pairwise_lt_range).filter _)
    omega
  · have hs : (wan l).Nodup := (wiv l).nodup_iff.2 hn
    exact (h1.and hs).imp fun {x y} h => by omega
  · rw [h3]
    unfold upTo
    rw [List.mem_map]
    constructor
    · rintro ⟨a, ha, rfl⟩
      exact List.contains_iff_mem.1 (List.mem_filter.1 ha).2
    · intro hx
      have := hr x hx
      refine ⟨x.toNat, List.mem_filter.2 ⟨List.mem_range.2 (by omega), ?_⟩, by omega⟩
      rw [List.contains_iff_mem, Int.toNat_of_nonneg this.1]
      exact hx
theorem wtp {l : List Int} (hl : (l.length : Int) < 9223372036854775807) (x : Int) : waxy l x = some (l.contains x) := by
  have hs : wako (l, x) 0 = _ := wfi (f := fun v => (wmf (l, x) v).ev) (l := l) 0 (fun y => y == x) (mk := fun i => (i : Int)) (yes := fun _ => .inr ()) (no := .inl ()) (fun i hi => by
    simp (disch := omega) only [EV, wmf, hi]
    cases (l.getD i 0 == x) <;> rfl) (by simp (disch := omega) only [EV, wmf, Nat.lt_irrefl])
  unfold waxy waxx
  simp (disch := omega) only [EV, hs]
  have e : l.contains x = l.any fun y => y == x := by
    rw [List.contains_eq_any_beq]
    congr 1
    funext y
    exact Bool.beq_comm
  rw [e]
  have h2 := wen (l := l) (q := fun y => y == x)
  cases h : l.findIdx? fun y => y == x with
  | none =>
    rw [h] at h2
    have h3 : (l.any fun y => y == x) = false := by
      rw [Bool.eq_false_iff]
      exact fun h4 => by have := h2.1 h4; simp at this
    rw [h3]
    rfl
  | some i =>
    rw [h] at h2
    rw [h2.2 rfl]
    rfl
theorem wzk {l : List Int} (hn : l.length ≤ 1000) (hl : ∀ a ∈ l, 0 ≤ a ∧ a < 1001) (hd : l.Nodup) : wayd l = some (wan l) := by
  have hz : l.contains (-1) = false := by
    rw [Bool.eq_false_iff]
    intro h
    have := hl _ (List.contains_iff_mem.1 h)
    omega
  obtain ⟨r, h1, h2⟩ := wbb (f := fun v => (wgg l v).ev) (n := 1002) (fun k v => v = (((k : Int) - 1), upTo l (k - 1))) (fun r => r = wan l)
    (fun k v hk hv => by
      subst hv
      cases k with
      | zero =>
        refine ⟨(0, []), ?_, rfl⟩
        have e0 : (((0 : Nat) : Int) - 1) = -1 := rfl
        rw [e0]
        simp (disch := omega) only [EV, wgg, wtp (l := l) (by omega), hz]
        rfl
      | succ k =>
        have e1 : (((k + 1 : Nat) : Int) - 1) = (k : Int) := by omega
        have e2 : (((k + 1 + 1 : Nat) : Int) - 1) = (k : Int) + 1 := by omega
        have hk' : (k : Int) ≤ 1000 := by omega
        have hu := wbam l k
        have r1 := wzi (upTo l k) (k : Int) (by omega)
        have hs := wapu l k
        rw [Nat.add_sub_cancel, e1, Nat.add_sub_cancel, e2]
        cases hb : l.contains (k : Int) with
        | true =>
          rw [hb] at hs
          refine ⟨_, ?_, rfl⟩
          rw [hs]
          simp (disch := omega) only [EV, wgg, hk', wtp (l := l) (by omega), hb, r1]
        | false =>
          rw [hb] at hs
          refine ⟨_, ?_, rfl⟩
          rw [hs]
          simp (disch := omega) only [EV, wgg, hk', wtp (l := l) (by omega), hb])
    (fun v hv => by
      subst hv
      have e1 : (((1002 : Nat) : Int) - 1) = 1001 := rfl
      have hk' : ¬ (1001 : Int) ≤ 1000 := by omega
      rw [e1]
      exact ⟨_, by simp (disch := omega) only [EV, wgg, hk'], wapv hl hd⟩)
    (v := ((-1 : Int), ([] : List Int))) rfl
  rw [h2] at h1
  have h1' : wakq l ((-1 : Int), ([] : List Int)) = _ := h1
  unfold wayd wayc
  simp (disch := omega) only [EV, h1']
def wadk (o : List Int) (ds : List (List Int)) (k : Int) : Bool := wdj o ds && wmq k 1 (o.length : Int)
theorem wapw {o : List Int} {ds : List (List Int)} (ho : wdu o) (hd : Low2 ds) (k : Int) : watl o ds k = some (wadk o ds k) := by
  unfold watl watk wadk
  simp (disch := omega) only [EV, whf ho hd, wyt]
  cases wdj o ds <;> rfl
theorem wmv {o : List Int} {ds : List (List Int)} (ho : wdu o) (hd : Low2 ds) (hf : Fld o ds) {k : Int} (hk : 1 ≤ k ∧ k ≤ (o.length : Int)) : F_zo o ds k = some (wzg ds o.length k, true) := by
  obtain ⟨q1, _, q2, _⟩ := wbw hf.pos hf.len (wfq (ds := ds) hf.len hk)
  unfold F_zo T_zo F_zy T_zy
  simp (disch := omega) only [EV, wed ho hd, wec, wcd.2 hf, wsc.2 hk, wvx hf hk, wee hf q1 q2]
  rfl
theorem wwg {o : List Int} {ds : List (List Int)} {s : List Int} (ho : wdu o) (hd : Low2 ds) (hs : wdu s) (h : wyw o ds s = true) : F_zr o ds s = some (serve ds s, true) := by
  obtain ⟨hf, hp, h0⟩ := wanw hs h
  unfold F_zr T_zr
  simp (disch := omega) only [EV, wyx ho hd hs, h, wee hf hp h0]
structure GS (n k : Nat) (s : List Int) : Prop where
  len : s.length = k
  mem : ∀ x ∈ s, 0 ≤ x ∧ x < (n : Int)
theorem GS.ins {n k : Nat} {s : List Int} (h : GS n k s) {x : Int} (hx : 0 ≤ x ∧ x < (n : Int)) : GS n (k + 1) (ins x s) := by
  refine ⟨by rw [wyz, h.len], fun y hy => ?_⟩
  rcases List.mem_cons.1 ((wmk x s).mem_iff.1 hy) with rfl | hy
  · exact hx
  · exact h.mem y hy
theorem GS.places {n k : Nat} {s : List Int} (h : GS n k s) (hk : k ≤ 8) : Places s n := ⟨by have := h.len; omega, fun i hi => h.mem _ (getD_mem hi)⟩
theorem wadl {o : List Int} {ds : List (List Int)} (hf : Fld o ds) {set : List Int} {k : Nat} (hs : GS o.length k set) (hk : k < o.length) (z : Int) (out : List Int) :
    ∃ b : Int, wahi (z, (set, (o, (ds, out)))) (-1, 0) = some b ∧ 0 ≤ b ∧ b < (o.length : Int) ∧ b ∉ set := by
  have h7 := hf.len
  obtain ⟨r, h1, h2⟩ := wbb (f := fun v => (wfg (z, (set, (o, (ds, out)))) v).ev) (n := o.length)
    (fun i v => v.2 = (i : Int) ∧ ((v.1 < 0 ∧ ∀ a, a < i → (a : Int) ∈ set) ∨ (0 ≤ v.1 ∧ v.1 < (o.length : Int) ∧ v.1 ∉ set))) (fun b => 0 ≤ b ∧ b < (o.length : Int) ∧ b ∉ set)
    (fun i v hi hv => by
      obtain ⟨b, j⟩ := v
      obtain ⟨rfl, hv⟩ := hv
      simp only at hv
      have e1 := wvw (l := set) (by have := hs.len; omega) (i : Int)
      cases hc : set.contains (i : Int) with
      | true =>
        rw [hc] at e1
        refine ⟨(b, (i : Int) + 1), ?_, ⟨rfl, ?_⟩⟩
        · simp (disch := omega) only [EV, wfg, hi, e1]
        · rcases hv with ⟨h1, h2⟩ | h
          · refine .inl ⟨h1, fun a ha => ?_⟩
            by_cases e : a = i
            · rw [e]; exact List.contains_iff_mem.1 hc
            · exact h2 a (by omega)
          · exact .inr h
      | false =>
        rw [hc] at e1
        have hni : (i : Int) ∉ set := fun h => by rw [List.contains_iff_mem.2 h] at hc; cases hc
        have hgi : (0 : Int) ≤ (i : Int) ∧ (i : Int) < (o.length : Int) ∧ (i : Int) ∉ set := ⟨by omega, by omega, hni⟩
        rcases hv with ⟨h1, h2⟩ | ⟨h1, h2, h3⟩
        · refine ⟨((i : Int), (i : Int) + 1), ?_, ⟨rfl, .inr hgi⟩⟩
          simp (disch := omega) only [EV, wfg, hi, e1, h1]
        · have hb : ¬ b < 0 := by omega
          have p1 := whj (l := set) (x := (i : Int)) (by have := hs.len; omega) hni
          have p2 := whj (l := set) (x := b) (by have := hs.len; omega) h3
          have g1 := hs.ins (x := (i : Int)) ⟨by omega, by omega⟩
          have g2 := hs.ins (x := b) ⟨h1, h2⟩
          have s1 := wcz hf (g1.places (by omega)) (by rw [g1.len]; omega)
          have s2 := wcz hf (g2.places (by omega)) (by rw [g2.len]; omega)
          by_cases hl : serve ds (ins (i : Int) set) < serve ds (ins b set)
          · refine ⟨((i : Int), (i : Int) + 1), ?_, ⟨rfl, .inr hgi⟩⟩
            simp (disch := omega) only [EV, wfg, hi, e1, hb, p1, p2, s1, s2, hl]
          · refine ⟨(b, (i : Int) + 1), ?_, ⟨rfl, .inr ⟨h1, h2, h3⟩⟩⟩
            simp (disch := omega) only [EV, wfg, hi, e1, hb, p1, p2, s1, s2, hl])
    (fun v hv => by
      obtain ⟨b, j⟩ := v
      obtain ⟨rfl, hv⟩ := hv
      refine ⟨b, by simp (disch := omega) only [EV, wfg, Nat.lt_irrefl], ?_⟩
      rcases hv with ⟨_, h2⟩ | h
      · have := wwb o.length set h2
        have := hs.len
        omega
      · exact h)
    (v := ((-1 : Int), (0 : Int))) ⟨rfl, .inl ⟨by omega, fun a ha => by omega⟩⟩
  exact ⟨r, h1, h2⟩
theorem wapx {o : List Int} {ds : List (List Int)} (hdr : DrF o ds) : ∃ b l, waug o ds (o.length : Int) = some (b, l) ∧ l.length ≤ 8 := by
  unfold waug wauf
  cases hm : wadk o ds (o.length : Int) with
  | false =>
    simp (disch := omega) only [EV, wapw hdr.o1 hdr.d2, hm]
    exact ⟨_, _, rfl, by simp⟩
  | true =>
    unfold wadk at hm
    have hf := wcd.1 (Bool.and_eq_true_iff.1 hm).1
    have h7 := hf.len
    obtain ⟨r, h1, h2⟩ := wbb (f := fun v => (wlw ((o.length : Int), (o, ds)) v).ev) (n := o.length)
      (fun i v => GS o.length i v.1 ∧ v.2.length = i) (fun r => r.length ≤ 8)
      (fun i v hi hv => by
        obtain ⟨s, out⟩ := v
        obtain ⟨hg, hl⟩ := hv
        simp only at hg hl
        obtain ⟨b, e1, b0, b1, b2⟩ := wadl hf hg hi (o.length : Int) out
        have p1 := whj (l := s) (x := b) (by have := hg.len; omega) b2
        have r1 := wzi out b (by omega)
        have hlt : ((out.length : Nat) : Int) < (o.length : Int) := by omega
        refine ⟨(ins b s, out ++ [b]), ?_, ⟨hg.ins ⟨b0, b1⟩, by simp [hl]⟩⟩
        simp (disch := omega) only [EV, wlw, hlt, e1, r1, p1])
      (fun v hv => by
        obtain ⟨s, out⟩ := v
        obtain ⟨hg, hl⟩ := hv
        simp only at hg hl
        have hlt : ¬ ((out.length : Nat) : Int) < (o.length : Int) := by omega
        exact ⟨out, by simp (disch := omega) only [EV, wlw, hlt], by omega⟩)
      (v := (([] : List Int), ([] : List Int))) ⟨⟨rfl, fun x hx => by cases hx⟩, rfl⟩
    have h1' : wahj ((o.length : Int), (o, ds)) (([] : List Int), ([] : List Int)) = some r := h1
    unfold wadk at *
    simp (disch := omega) only [EV, wapw hdr.o1 hdr.d2, wadk, hm, h1']
    exact ⟨_, _, rfl, h2⟩
theorem wapy {B : Int} {l : List Int} {i : Int} {o : List Int} (d : List (List Int)) (ho : o.length ≤ 8) (c : Int) (h : CK B l i) (hB : B ≤ 500000) :
    ∃ r i' c', wahn (o, d) (0, (l, (i, (c, [])))) = some (l, (i', (c', r))) ∧ r.length ≤ 8 ∧ CK (B + 20) l i' := by
  obtain ⟨r, h1, h2⟩ := wbb (f := fun v => (wlx (o, d) v).ev) (n := o.length)
    (fun k v => v.1 = (k : Int) ∧ v.2.1 = l ∧ v.2.2.2.2.length = k ∧ CK (B + 2 * (k : Int)) l v.2.2.1) (fun r => r.1 = l ∧ r.2.2.2.length ≤ 8 ∧ CK (B + 20) l r.2.1)
    (fun k v hk hv => by
      obtain ⟨j, l', i', c', r⟩ := v
      obtain ⟨rfl, rfl, hl, hck⟩ := hv
      simp only at hl hck
      have w1 : IntKind.wrap .i64 (((r.length : Nat) : Int) + 1) = ((r.length : Nat) : Int) + 1 := wrap64 (by omega) (by omega)
      obtain ⟨x, i2, c2, e1, x0, x1, h2⟩ := wdt (((r.length : Nat) : Int) + 1) c' hck (by omega) (by omega)
      obtain ⟨y, rfl⟩ : ∃ y : Nat, x = (y : Int) := ⟨x.toNat, by omega⟩
      have hy : y ≤ r.length := by omega
      have g1 : (decide ((0 : Int) ≤ (y : Int)) && decide ((y : Int) ≤ ((r.length : Nat) : Int))) = true := by
        rw [decide_eq_true (by omega), decide_eq_true (by omega)]; rfl
      refine ⟨((k : Int) + 1, (l', (i2, (c2, ((([] : List Int) ++ List.drop 0 (List.take y r)) ++ [(k : Int)]) ++ List.drop y (List.take r.length r))))), ?_, ⟨rfl, rfl, ?_, h2.mono (by omega)⟩⟩
      · have g2 : (List.length ([] : List Int) + List.length (List.drop 0 (List.take y r))) * 8 ≤ 140737488355328 := by simp; omega
        have g3 : (List.length (([] : List Int) ++ List.drop 0 (List.take y r)) + List.length ([(k : Int)] : List Int)) * 8 ≤ 140737488355328 := by simp; omega
        have g4 : (List.length ((([] : List Int) ++ List.drop 0 (List.take y r)) ++ ([(k : Int)] : List Int)) + List.length (List.drop y (List.take r.length r))) * 8 ≤ 140737488355328 := by simp; omega
        have hki : (k : Int) < ((o.length : Nat) : Int) := by omega
        have wk : IntKind.wrap .i64 ((k : Int) + 1) = (k : Int) + 1 := wrap64 (by omega) (by omega)
        unfold wlx
        dsimp only
        rw [Tr.ev_t, decide_eq_true hki, cond_true, Tr.ev_c, w1, e1, Option.bind_some]
        dsimp only
        rw [Int.toNat_natCast, Tr.ev_g, g1, cond_true, Tr.ev_g, decide_eq_true g2, cond_true, Tr.ev_g, decide_eq_true g3, cond_true, Tr.ev_g, cond_true, Tr.ev_g, decide_eq_true g4, cond_true, Tr.ev_l, wk]
      · simp
        omega)
    (fun v hv => by
      obtain ⟨j, l', i', c', r⟩ := v
      obtain ⟨rfl, rfl, hl, hck⟩ := hv
      simp only at hl hck
      exact ⟨(l', (i', (c', r))), by simp (disch := omega) only [EV, wlx, Nat.lt_irrefl], rfl, by simp only; omega, hck.mono (by omega)⟩)
    (v := ((0 : Int), (l, (i, (c, ([] : List Int)))))) ⟨rfl, rfl, rfl, by simpa using h⟩
  obtain ⟨l', i', c', s⟩ := r
  obtain ⟨rfl, h3, h4⟩ := h2
  exact ⟨s, i', c', h1, h3, h4⟩
theorem wtq {l : List Int} (h : CK 0 l 0) : ∃ o d r, wauj l = some (o, (d, r)) ∧ DrF o d ∧ r.length ≤ 9 := by
  obtain ⟨o, d, i1, c1, e1, hd, h1⟩ := wbai 0 h (by omega)
  obtain ⟨r, i2, c2, e2, hr, h2⟩ := wapy d hd.lo c1 h1 (by omega)
  obtain ⟨b, g, e3, hg⟩ := wapx hd
  have last : ∀ (s : List Int) {i3 : Int} (c3 : Int), s.length ≤ 8 → CK 300 l i3 → ∃ r, (Tr.c ((Bool) × ((List (Int)) × ((Int) × (Int)))) (wvc (20 : Int) l i3 c3) fun r19_ =>
          .t r19_.1
            (.c ((Int) × ((List (Int)) × ((Int) × (Int)))) (wjl ([(0 : Int), (-1 : Int), (7 : Int)] : List (Int)) r19_.2.1 r19_.2.2.1 r19_.2.2.2) fun r20_ =>
              .g (decide ((List.length s + List.length ([r20_.1] : List (Int))) * 8 ≤ 140737488355328)) <|
              .l (o, (d, (s ++ ([r20_.1] : List (Int))))))
            (.l (o, (d, s)))).ev = some (o, (d, r)) ∧ r.length ≤ 9 := fun s i3 c3 hs h3 => by
    obtain ⟨b, i4, c4, e4, h4⟩ := wbcl 20 c3 h3 (by omega) (by omega)
    cases b with
    | false =>
      simp (disch := omega) only [EV, e4]
      exact ⟨_, rfl, by omega⟩
    | true =>
      obtain ⟨x, i5, c5, e5, _, _⟩ := wfr [(0 : Int), (-1 : Int), (7 : Int)] c4 h4 (by omega) (by simp)
      have r1 := wzi s x (by omega)
      simp (disch := omega) only [EV, e4, e5, r1]
      exact ⟨_, rfl, by simp; omega⟩
  unfold wauj waui
  rw [Tr.ev_c, e1, Option.bind_some, Tr.ev_c]
  dsimp only
  rw [e2, Option.bind_some, Tr.ev_c, e3, Option.bind_some, Tr.ev_t]
  dsimp only
  cases b with
  | true =>
    obtain ⟨b2, i4, c4, e4, h4⟩ := wbcl 2 c2 h2 (by omega) (by omega)
    rw [cond_true, Tr.ev_c, e4, Option.bind_some, Tr.ev_t]
    dsimp only
    cases b2 with
    | true =>
      obtain ⟨s, k1, k2⟩ := last g c4 hg (h4.mono (by omega))
      exact ⟨o, d, s, k1, hd, k2⟩
    | false =>
      obtain ⟨s, k1, k2⟩ := last r c4 hr (h4.mono (by omega))
      exact ⟨o, d, s, k1, hd, k2⟩
  | false =>
    obtain ⟨s, k1, k2⟩ := last r c2 hr (h2.mono (by omega))
    exact ⟨o, d, s, k1, hd, k2⟩
end Go.Proofs.YtbofjefpngpegaaGreat
