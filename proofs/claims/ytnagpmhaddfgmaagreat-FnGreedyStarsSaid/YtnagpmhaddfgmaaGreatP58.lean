/-
 Plain laws: local openings in metric fields have at most three times the least total.
-/
import Derived.Test.YtnagpmhaddfgmaaGreatP57
import Derived.Test.YtnagpmhaddfgmaaGreatP51
namespace Go.Proofs.YtnagpmhaddfgmaaGreat
section
variable {n : Nat} {s : List Int}
theorem warv {b : Nat} (hb : b < n) (h : (b : Int) ∉ s) : ins (b : Int) s ∈ wbm n s := by
 have hc : s.contains (b : Int) = false := by
  rw [Bool.eq_false_iff]
  exact fun h' => h (List.contains_iff_mem.1 h')
 have e := wxk n s n
 unfold wbm mvs
 rw [e]
 refine List.mem_append_left _ (List.mem_append_left _ (List.mem_filterMap.2 ⟨b, List.mem_range.2 hb, ?_⟩))
 unfold opG
 rw [hc]
 rfl
theorem waib {a : Nat} (ha : a < n) (h : (a : Int) ∈ s) (h0 : 0 < (wo s (a : Int)).length) : wo s (a : Int) ∈ wbm n s := by
 have e := wxk n s n
 unfold wbm mvs
 rw [e]
 refine List.mem_append_left _ (List.mem_append_right _ (List.mem_filterMap.2 ⟨a, List.mem_range.2 ha, ?_⟩))
 unfold clG
 rw [if_pos ⟨List.contains_iff_mem.2 h, h0⟩]
theorem waic {a b : Nat} (ha : a < n) (h : (a : Int) ∈ s) (hb : b < n) (h' : (b : Int) ∉ s) : ins (b : Int) (wo s (a : Int)) ∈ wbm n s := by
 have hc : s.contains (b : Int) = false := by
  rw [Bool.eq_false_iff]
  exact fun h1 => h' (List.contains_iff_mem.1 h1)
 have e := wxk n s n
 unfold wbm mvs
 rw [e]
 refine List.mem_append_right _ (List.mem_flatMap.2 ⟨a, List.mem_range.2 ha, ?_⟩)
 unfold swsG
 rw [List.contains_iff_mem.2 h, if_pos rfl]
 refine List.mem_filterMap.2 ⟨b, List.mem_range.2 hb, ?_⟩
 unfold swG
 rw [hc]
 rfl
end
section
variable {o : List Int} {ds : List (List Int)}
theorem wui {s m : List Int} (h : wah o ds s = none) (hm : m ∈ wbm o.length s) : wco o ds s ≤ wco o ds m := by
 unfold wah at h
 have := List.find?_eq_none.1 h m hm
 simp only [decide_eq_true_eq] at this
 omega
theorem wbcn {s : List Int} (hp : s.Pairwise (· < ·)) {x : Int} (hx : x ∈ s) : pay o (wo s x) + o.getD x.toNat 0 = pay o s := by
 have hn : s.Nodup := hp.imp fun h => by omega
 have h1 := wlh hn (T := [x]) (by simp) fun y hy => by rw [List.mem_singleton.1 hy]; exact hx
 have h2 : (s.filter fun y => ![x].contains y) = wo s x := by
  unfold wo
  congr 1
  funext y
  rw [List.contains_cons, List.contains_nil, Bool.or_false]
  rfl
 rw [h2] at h1
 rw [whd, whd, wgp _ h1, wfn]
 simp only [wak]
 omega
def wbco (n : Nat) (ds : List (List Int)) : Prop := ∀ i, i < ds.length → ∀ j, j < ds.length → ∀ a b, a < n → b < n → at2 ds i a ≤ at2 ds i b + at2 ds j b + at2 ds j a
theorem wbwp (hf : Fld o ds) (hm : wbco o.length ds) {s O : List Int} (hs : ris o.length s) (h0 : s ≠ []) (hl : wah o ds s = none) (hO : ris o.length O) (hO0 : O ≠ []) : wco o ds s ≤ 3 * wco o ds O := by
 have tot : ∀ {u : List Int}, wco o ds u = wak (toN u) (fun a => o.getD a 0) + wak (List.range ds.length) fun j => at2 ds j (srv ds j u) := fun {u} => by
  unfold wco
  rw [whd, wfc]
  unfold toN
  rw [wjh]
  rfl
 have nat : ∀ {u : List Int}, ris o.length u → ∀ a, a ∈ toN u ↔ (a : Int) ∈ u := fun {u} hu a => by
  unfold toN
  rw [List.mem_map]
  constructor
  ·rintro ⟨x, hx, rfl⟩
   have := hu.1 x hx
   rwa [show ((x.toNat : Nat) : Int) = x by omega]
  ·intro h
   exact ⟨(a : Int), h, by simp⟩
 have nod : ∀ {u : List Int}, ris o.length u → (toN u).Nodup := fun {u} hu => by
  unfold toN
  refine List.pairwise_map.2 (hu.2.imp_of_mem fun {x y} hx hy h e => ?_)
  have h1 := hu.1 x hx
  have h2 := hu.1 y hy
  omega
 have ne : ∀ {u : List Int}, u ≠ [] → toN u ≠ [] := fun {u} hu h => hu (List.map_eq_nil_iff.1 h)
 have smem : ∀ {u : List Int}, u ≠ [] → ∀ j, srv ds j u ∈ toN u := fun {u} hu j => by
  obtain ⟨k, hk, e⟩ := wafr ds j (List.length_pos_iff.2 hu)
  rw [e]
  unfold pl toN
  exact List.mem_map_of_mem (getD_mem hk)
 have low : ∀ {u : List Int}, ris o.length u → ∀ a ∈ toN u, a < o.length := fun {u} hu a ha => by
  have := hu.1 _ ((nat hu a).1 ha)
  omega
 have small : ∀ {u : List Int}, ris o.length u → ∀ (j a : Nat), (a : Int) ∈ u → at2 ds j (srv ds j u) ≤ at2 ds j a := fun {u} hu j a ha => by
  have := wart (o := o) (ds := ds) j (hu.places hf.len) ha
  rwa [Int.toNat_natCast] at this
 have servLe : ∀ {u : List Int}, ris o.length u → ∀ r : Nat → Nat, (∀ j ∈ List.range ds.length, (r j : Int) ∈ u) → serve ds u ≤ wak (List.range ds.length) fun j => at2 ds j (r j) := fun {u} hu r hr => by
  rw [wfc]
  exact wdd fun j hj => small hu j _ (hr j hj)
 have serveS : serve ds s = wak (List.range ds.length) fun j => at2 ds j (srv ds j s) := wfc ds s
 have d0 : ∀ j ∈ List.range ds.length, ∀ a, 0 ≤ at2 ds j a := fun j hj a => by
  have hj := List.mem_range.1 hj
  by_cases ha : a < o.length
  ·exact (hf.at2 hj ha).1
  ·unfold at2
   have := hf.rowLen j hj
   rw [List.getD_eq_getElem?_getD (l := ds.getD j []), List.getElem?_eq_none (by omega)]
   exact Int.le_refl _
 have h := wbpe (J := List.range ds.length) (S := toN s) (O := toN O) (f := fun a => o.getD a 0) (d := fun j a => at2 ds j a) (σ := fun j => srv ds j s) (ω := fun j => srv ds j O)
  (fun a => by
   by_cases ha : a < o.length
   ·exact (hf.cost a ha).1
   ·show 0 ≤ o.getD a 0
    rw [List.getD_eq_getElem?_getD, List.getElem?_eq_none (by omega)]
    exact Int.le_refl _)
  d0 (fun a => a < o.length) (low hs) (low hO) (fun i hi j hj a b ha hb => hm i (List.mem_range.1 hi) j (List.mem_range.1 hj) a b ha hb)
  (nod hs) (nod hO) (ne h0) (ne hO0) (fun j _ => smem h0 j) (fun j _ => smem hO0 j) (fun j _ a ha => small hs j a ((nat hs a).1 ha))
  (fun b hb hbS r hr => by
   have hbn := low hO b hb
   have hbs : (b : Int) ∉ s := fun h => hbS ((nat hs b).2 h)
   have h1 := wui hl (warv hbn hbs)
   have hi := hs.ins (a := (b : Int)) (by omega) (by omega) hbs
   have h2 := servLe hi r fun j hj => wfm.2 (by
    rcases hr j hj with h | h
    ·exact .inr ((nat hs _).1 h)
    ·exact .inl (by rw [h]))
   unfold wco at h1
   rw [waat, Int.toNat_natCast, serveS] at h1
   show _ ≤ o.getD b 0 + _
   omega)
  (fun a ha ht r hr => by
   have han := low hs a ha
   have has := (nat hs a).1 ha
   obtain ⟨t, ht1, ht2⟩ := ht
   have htw : (t : Int) ∈ wo s (a : Int) := List.mem_filter.2 ⟨(nat hs t).1 ht1, by simp; omega⟩
   have h1 := wui hl (waib han has (List.length_pos_of_mem htw))
   have h2 := servLe (hs.wo (a : Int)) r fun j hj => List.mem_filter.2 ⟨(nat hs _).1 (hr j hj).1, by
    have := (hr j hj).2
    simp
    omega⟩
   have h3 := wbcn (o := o) hs.2 has
   rw [Int.toNat_natCast] at h3
   unfold wco at h1
   rw [serveS] at h1
   show o.getD a 0 + _ ≤ _
   omega)
  (fun a ha b hb hbS r hr => by
   have han := low hs a ha
   have has := (nat hs a).1 ha
   have hbn := low hO b hb
   have hbs : (b : Int) ∉ s := fun h => hbS ((nat hs b).2 h)
   have h1 := wui hl (waic han has hbn hbs)
   have hi := (hs.wo (a : Int)).ins (a := (b : Int)) (by omega) (by omega) (wha hbs)
   have h2 := servLe hi r fun j hj => wfm.2 (by
    rcases hr j hj with h | h
    ·exact .inr (List.mem_filter.2 ⟨(nat hs _).1 h.1, by
      have := h.2
      simp
      omega⟩)
    ·exact .inl (by rw [h]))
   have h3 := wbcn (o := o) hs.2 has
   rw [Int.toNat_natCast] at h3
   unfold wco at h1
   rw [waat, Int.toNat_natCast, serveS] at h1
   show o.getD a 0 + _ ≤ o.getD b 0 + _
   omega)
 rw [tot, tot]
 exact h
def locB (o : List Int) (ds : List (List Int)) (s : List Int) : Bool × Bool := bif wcx o ds s then (!(wah o ds s).isSome, true) else (false, false)
theorem waav {s : List Int} (ho : wdp o) (hd : wul ds) (hs : wdp s) : waxa o ds s = some (locB o ds s) := by
 unfold waxa wbkm locB
 rw [Tr.ev_c, wafg ho hd hs, Option.bind_some, Tr.ev_t]
 cases hb : wcx o ds s with
 | false => rfl
 | true =>
  obtain ⟨hf, hp, h0⟩ := wfa hs hb
  have hr : ris o.length s := by
   unfold wcx at hb
   simp only [Bool.and_eq_true] at hb
   exact wgl.1 hb.2.1
  rw [Bool.not_true, cond_false, Tr.ev_c, wle hf hr (List.length_pos_iff.1 h0), Option.bind_some, Tr.ev_l]
  cases wah o ds s <;> rfl
theorem wpq {s : List Int} (ho : wdp o) (hd : wul ds) (hs : wdp s) : F_zw o ds s = some (locB o ds s) := by
 unfold F_zw T_zw locB
 rw [Tr.ev_c, whz ho hd hs, Option.bind_some, Tr.ev_t]
 cases hb : wcx o ds s with
 | false => rfl
 | true =>
  obtain ⟨hf, hp, h0⟩ := wfa hs hb
  have hr : ris o.length s := by
   unfold wcx at hb
   simp only [Bool.and_eq_true] at hb
   exact wgl.1 hb.2.1
  rw [Bool.not_true, cond_false, Tr.ev_c, wlj hf hr (List.length_pos_iff.1 h0), Option.bind_some, Tr.ev_l]
  cases wah o ds s <;> rfl
end
end Go.Proofs.YtnagpmhaddfgmaaGreat
