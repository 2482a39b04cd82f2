/-
 A types' table is checked.
-/
import Derived.Test.YtnagpmhaddfgmaaB26
import Derived.ProofKit
namespace Go.Proofs.Ytnagpmhaddfgmaa
def wgi (P : Program) (T : Nat) (t : Ty) : Bool :=
 match P.info? T with
 | some i => Nat.beq i.size t.size && match i.zero with
  | some z => isZ t z.cells.toList
  | none => false
 | none => false
def wpu (P : Program) (T : Nat) : Ty → Bool
 | .int k => match P.underlying T with
  | some (.int k') => decide (k' = k)
  | _ => false
 | .bool => match P.underlying T with
  | some .bool => true
  | _ => false
 | .str => match P.underlying T with
  | some .string => true
  | _ => false
 | _ => false
def weh (P : Program) : List Go.Field → List (Nat × Ty) → Nat → Bool
 | [], [], _ => true
 | f :: fs, (ty, t) :: ts, o => Nat.beq f.type ty && Nat.beq f.offset o && wgi P ty t && weh P fs ts (o + t.size)
 | _, _, _ => false
def wuc (P : Program) (T : Nat) : TD → Bool
 | .sc t => wpu P T t && wgi P T t
 | .sl e t b => (match P.underlying T with
   | some (.slice e') => Nat.beq e' e
   | _ => false) && (match P.info? e with
   | some i => Nat.beq i.size t.size && Nat.beq i.bytes b && (match i.zero with
    | some z => isZ t z.cells.toList
    | none => false)
   | none => false) && (match P.info? T with
   | some i => Nat.beq i.size 1 && (match i.zero with
    | some (.slice none 0 0) => true
    | _ => false)
   | none => false)
 | .st t fs => (match P.underlying T with
   | some (.struct fields) => weh P fields.toList fs 0 && (!scFs fs || (!P.eqGuardType P.depth T && !P.stoodInHeld T && fields.toList.all fun f => f.name != "_"))
   | _ => false) && Nat.beq (wtj fs) t.size && wgi P T t
 | .ar n e te t => (match P.underlying T with
   | some (.array n' e') => Nat.beq n' n && Nat.beq e' e
   | _ => false) && wgi P e te && (Nat.beq (n * te.size) t.size && (!scTy te || !P.eqGuardType P.depth T)) && wgi P T t
 | .other => (match P.underlying T with
   | some d => wfa d
   | none => false) && (match P.info? T with
   | some i => Nat.beq i.size 1 && (match i.zero with
    | some z => Nat.beq z.cells.size 1
    | none => false)
   | none => false)
 | .no => true
theorem wei {P : Program} {T : Nat} {t : Ty} (h : wgi P T t = true) : wgv P T t := by
 unfold wgi at h
 split at h
 next i hi =>
  simp only [Bool.and_eq_true] at h
  obtain ⟨h1, h2⟩ := h
  split at h2
  next z hz => exact ⟨i, z, hi, Nat.eq_of_beq_eq_true h1, hz, h2⟩
  next => cases h2
 next => cases h
theorem waiz {P : Program} {T : Nat} {t : Ty} (h : wpu P T t = true) : ∃ d, wsx t = some d ∧ P.underlying T = some d := by
 cases t with
 | int k =>
  simp only [wpu] at h
  split at h
  next k' hk =>
   have : k' = k := by simpa using h
   subst this
   exact ⟨_, rfl, hk⟩
  next => cases h
 | bool =>
  simp only [wpu] at h
  split at h
  next hk => exact ⟨_, rfl, hk⟩
  next => cases h
 | str =>
  simp only [wpu] at h
  split at h
  next hk => exact ⟨_, rfl, hk⟩
  next => cases h
 | slice t => simp [wpu] at h
 | seq g => simp [wpu] at h
 | hdr => simp [wpu] at h
 | pair a b => simp [wpu] at h
theorem wjk {P : Program} : ∀ {fs : List Go.Field} {ts : List (Nat × Ty)} {o : Nat}, weh P fs ts o = true → wft P fs ts o
 | [], [], _, _ => trivial
 | f :: fs, (ty, t) :: ts, o, h => by
  simp only [weh, Bool.and_eq_true] at h
  exact ⟨Nat.eq_of_beq_eq_true h.1.1.1, Nat.eq_of_beq_eq_true h.1.1.2, wei h.1.2, wjk h.2⟩
 | [], _ :: _, _, h => by simp [weh] at h
 | _ :: _, [], _, h => by simp [weh] at h
theorem waja {P : Program} {T : Nat} {d : TD} (h : wuc P T d = true) : TDok P T d := by
 cases d with
 | sc t =>
  simp only [wuc, Bool.and_eq_true] at h
  obtain ⟨d, h1, h2⟩ := waiz h.1
  exact ⟨d, h1, h2, wei h.2⟩
 | sl e t b =>
  simp only [wuc, Bool.and_eq_true] at h
  obtain ⟨⟨h1, h2⟩, h3⟩ := h
  split at h1
  next e' he =>
   split at h2
   next i hi =>
    simp only [Bool.and_eq_true] at h2
    split at h3
    next j hj =>
     simp only [Bool.and_eq_true] at h3
     obtain ⟨h3, h4⟩ := h3
     obtain ⟨⟨h5, h6⟩, h7⟩ := h2
     split at h4
     next hz =>
      split at h7
      next z hz' =>
       exact ⟨by rw [he, Nat.eq_of_beq_eq_true h1], ⟨i, z, hi, Nat.eq_of_beq_eq_true h5, Nat.eq_of_beq_eq_true h6, hz', h7⟩, j, hj, Nat.eq_of_beq_eq_true h3, hz⟩
      next => cases h7
     next => cases h4
    next => cases h3
   next => cases h2
  next => cases h1
 | st t fs =>
  simp only [wuc, Bool.and_eq_true] at h
  obtain ⟨⟨h1, h2⟩, h3⟩ := h
  split at h1
  next fields hf =>
   simp only [Bool.and_eq_true] at h1
   refine ⟨fields, hf, wjk h1.1, ⟨Nat.eq_of_beq_eq_true h2, fun hs => ?_⟩, wei h3⟩
   have h4 := h1.2
   rw [hs] at h4
   simp only [Bool.not_true, Bool.false_or, Bool.and_eq_true, Bool.not_eq_true', List.all_eq_true, bne_iff_ne, ne_eq] at h4
   exact ⟨h4.1.1, h4.1.2, h4.2⟩
  next => cases h1
 | ar n e te t =>
  simp only [wuc, Bool.and_eq_true] at h
  obtain ⟨⟨⟨h1, h2⟩, h3⟩, h4⟩ := h
  split at h1
  next n' e' he =>
   simp only [Bool.and_eq_true] at h1
   refine ⟨by rw [he, Nat.eq_of_beq_eq_true h1.1, Nat.eq_of_beq_eq_true h1.2], wei h2, ⟨Nat.eq_of_beq_eq_true h3.1, fun hs => ?_⟩, wei h4⟩
   have h5 := h3.2
   rw [hs] at h5
   simpa using h5
  next => cases h1
 | other =>
  simp only [wuc, Bool.and_eq_true] at h
  obtain ⟨h1, h2⟩ := h
  split at h1
  next d hd =>
   split at h2
   next i hi =>
    simp only [Bool.and_eq_true] at h2
    obtain ⟨h3, h4⟩ := h2
    split at h4
    next z hz => exact ⟨d, i, z, hd, h1, hi, Nat.eq_of_beq_eq_true h3, hz, Nat.eq_of_beq_eq_true h4⟩
    next => cases h4
   next => cases h2
  next => cases h1
 | no => trivial
theorem wamu {P : Program} {l : List (Nat × TD)} (h : l.all (fun p => wuc P p.1 p.2) = true) : waj P (fun i => match look l i with | some d => d | none => .no) := by
 intro T
 simp only
 split
 next d hd => exact waja (List.all_eq_true.1 h _ (wbw hd))
 next => trivial
end Go.Proofs.Ytnagpmhaddfgmaa
/-
 Plain rules for rounds that count.
-/
namespace Go.Proofs.Ytnagpmhaddfgmaa
theorem wrap64 {n : Int} (h1 : -9223372036854775808 ≤ n) (h2 : n < 9223372036854775808) : IntKind.wrap .i64 n = n := by
 unfold IntKind.wrap
 simp only [IntKind.bits, IntKind.signed]
 simp
 omega
end Go.Proofs.Ytnagpmhaddfgmaa
/-
 Arguments are opened: what is trodden reads as typed data.
-/
namespace Go.Proofs.Ytnagpmhaddfgmaa
open Go.RowKit (Below)
def Fit : (t : Ty) → t.I → Prop
 | .int k, n => (Lit.int k n).wf = true
 | .bool, _ => True
 | .str, s => List.length (α := UInt8) s ≤ maxLen
 | .seq _, _ => False
 | .hdr, _ => False
 | .slice t, l => l.length ≤ maxLen ∧ ∀ x ∈ l, Fit t x
 | .pair a b, v => Fit a v.1 ∧ Fit b v.2
def wet (P : Program) (chk : Nat → Ty → Bool) : List Go.Field → Nat → Ty → Bool
 | [], _, _ => false
 | [f], o, t => Nat.beq f.offset o && Nat.beq (P.cellsOf f.type) t.size && chk f.type t
 | f :: g :: fs, o, .pair a b => Nat.beq f.offset o && Nat.beq (P.cellsOf f.type) a.size && chk f.type a && wet P chk (g :: fs) (o + a.size) b
 | _ :: _ :: _, _, _ => false
def wlm (P : Program) : Nat → Nat → Ty → Bool
 | 0, _, _ => false
 | n + 1, T, t => match P.underlying T with
  | some (.int k) => match t with
   | .int k' => decide (k = k')
   | _ => false
  | some .bool => match t with
   | .bool => true
   | _ => false
  | some .string => match t with
   | .str => true
   | _ => false
  | some (.slice e) => match t with
   | .slice t => Nat.beq (P.cellsOf e) t.size && wlm P n e t
   | _ => false
  | some (.struct fs) => Nat.beq (P.cellsOf T) t.size && wet P (wlm P n) fs.toList 0 t
  | _ => false
section
variable {H : Type} {enc : TypeId × Value → H} {P : Program} {w : World} {base : Nat} {spare : Nat → Bool} {held : Bool}
theorem wwo {α β : Type} {f : α → Option β} : ∀ {l : List α} {r : List β}, l.mapM f = some r → ∀ (i : Nat) (a : α), l[i]? = some a → ∃ b, r[i]? = some b ∧ f a = some b
 | [], r, h, i, a, ha => by simp at ha
 | x :: l, r, h, i, a, ha => by
  rw [List.mapM_cons] at h
  cases hx : f x with
  | none => rw [hx] at h; cases h
  | some y =>
   rw [hx] at h
   cases hl : l.mapM f with
   | none => simp [hl] at h
   | some ys =>
    simp [hl] at h
    subst h
    match i, ha with
    | 0, ha => simp at ha; subst ha; exact ⟨y, rfl, hx⟩
    | i + 1, ha => exact wwo hl i a ha
theorem wado {a : Addr} {n : Nat} {cs : List Value} (h : w.cells? base a n = some cs) : cs.length = n ∧ ∀ j u, cs[j]? = some u → w.cell? (a.add j) = some u := by
 unfold World.cells? at h
 split at h
 ·have hlen : ∀ {l : List Nat} {r : List Value}, l.mapM (fun i => w.cell? (a.add i)) = some r → r.length = l.length := by
   intro l
   induction l with
   | nil => intro r h; simp at h; subst h; rfl
   | cons x l ih =>
    intro r h
    rw [List.mapM_cons] at h
    cases hx : w.cell? (a.add x) with
    | none => rw [hx] at h; cases h
    | some y =>
     rw [hx] at h
     cases hl : l.mapM (fun i => w.cell? (a.add i)) with
     | none => simp [hl] at h
     | some ys => simp [hl] at h; subst h; simp [ih hl]
  have hl := hlen h
  rw [List.length_range] at hl
  refine ⟨hl, fun j u hu => ?_⟩
  have hj : j < n := by
   rw [← hl]
   exact (List.getElem?_eq_some_iff.1 hu).1
  obtain ⟨b, h1, h2⟩ := wwo h j j (List.getElem?_range hj)
  rw [hu] at h1
  cases h1
  exact h2
 ·cases h
theorem wadp {a : Addr} {u : Value} (h : w.cell? a = some u) : a.spot = none := by
 unfold World.cell? at h
 split at h
 ·split at h
  ·cases h
  ·rename_i hs
   cases hsp : a.spot with
   | none => rfl
   | some x => rw [hsp] at hs; simp at hs
 ·cases h
theorem won {chk : Nat → Ty → Bool} {cs : List Value} {G : List Go.Field}
  (hF : ∀ f ∈ G, ∀ t, chk f.type t = true → P.cellsOf f.type = t.size → f.offset + t.size ≤ cs.length → ∃ v, Rep (fun _ => True) w t v ((cs.drop f.offset).take t.size) ∧ Fit t v) :
  ∀ {fs : List Go.Field} {o : Nat} {t : Ty}, (∀ f ∈ fs, f ∈ G) → wet P chk fs o t = true → o + t.size ≤ cs.length → ∃ v, Rep (fun _ => True) w t v ((cs.drop o).take t.size) ∧ Fit t v
 | [], _, _, _, h, _ => by simp [wet] at h
 | [f], o, t, hm, h, hle => by
  simp only [wet, Bool.and_eq_true] at h
  obtain ⟨⟨h1, h2⟩, h3⟩ := h
  have e1 := Nat.eq_of_beq_eq_true h1
  rw [← e1] at hle ⊢
  exact hF f (hm f (by simp)) t h3 (Nat.eq_of_beq_eq_true h2) hle
 | f :: g :: fs, o, .pair a b, hm, h, hle => by
  simp only [wet, Bool.and_eq_true] at h
  obtain ⟨⟨⟨h1, h2⟩, h3⟩, h4⟩ := h
  have e1 := Nat.eq_of_beq_eq_true h1
  simp only [Ty.size] at hle
  obtain ⟨v1, r1, k1⟩ := hF f (hm f (by simp)) a h3 (Nat.eq_of_beq_eq_true h2) (by omega)
  rw [e1] at r1
  obtain ⟨v2, r2, k2⟩ := won hF (fun x hx => hm x (List.mem_cons_of_mem _ hx)) h4 (by omega)
  refine ⟨(v1, v2), ⟨_, _, ?_, r1, r2⟩, k1, k2⟩
  simp only [Ty.size]
  rw [← List.drop_drop, List.take_add]
 | _ :: _ :: _, _, .int _, _, h, _ => by simp [wet] at h
 | _ :: _ :: _, _, .bool, _, h, _ => by simp [wet] at h
 | _ :: _ :: _, _, .str, _, h, _ => by simp [wet] at h
 | _ :: _ :: _, _, .seq _, _, h, _ => by simp [wet] at h
 | _ :: _ :: _, _, .hdr, _, h, _ => by simp [wet] at h
 | _ :: _ :: _, _, .slice _, _, h, _ => by simp [wet] at h
theorem wpv : ∀ {n T : Nat} {t : Ty} {fuel : Nat} {cs : List Value} {x : DataW H × List MemPlace}, wlm P n T t = true → DataW.trod enc P w base spare held fuel T cs = some x → ∃ v, Rep (fun _ => True) w t v cs ∧ Fit t v
 | 0, _, _, _, _, _, h, _ => by simp [wlm] at h
 | n + 1, T, t, fuel, cs, x, hc, h => by
  simp only [wlm] at hc
  split at hc
  next k hk =>
   split at hc
   next k' =>
    have e : k = k' := by simpa using hc
    subst e
    obtain ⟨m, rfl, _, hw⟩ := DataW.trod_int hk h
    exact ⟨m, rfl, hw⟩
   next => cases hc
  next hk =>
   split at hc
   next =>
    obtain ⟨b, rfl, _⟩ := DataW.trod_bool hk h
    exact ⟨b, rfl, trivial⟩
   next => cases hc
  next hk =>
   split at hc
   next =>
    obtain ⟨s, rfl, _, hs⟩ := DataW.trod_string hk h
    exact ⟨s.data.toList, by simp [Rep], by
     show s.data.toList.length ≤ maxLen
     rw [Array.length_toList]
     exact hs⟩
   next => cases hc
  next e hk =>
   split at hc
   next t =>
    simp only [Bool.and_eq_true] at hc
    have hce := Nat.eq_of_beq_eq_true hc.1
    rcases DataW.trod_slice hk h with ⟨rfl, _⟩ | ⟨a, len, cap, els, rest, m, _, rfl, _, _, hlc, hm, hlen, hels, _⟩
    ·exact ⟨[], Rep.nil, Nat.zero_le _, fun x hx => by cases hx⟩
    ·have hex : ∀ i, ∃ v : t.I, i < len → Fit t v ∧ ∃ c, Rep (fun _ => True) w t v c ∧ ∀ j u, c[j]? = some u → w.cell? ((a.add (i * t.size)).add j) = some u := fun i => by
      by_cases hi : i < len
      ·have hy := hels i hi
       rw [List.getElem?_eq_getElem (by omega)] at hy
       obtain ⟨c, hcs, hy⟩ := wcn hy
       obtain ⟨v, h1, h2⟩ := wpv hc.2 hy
       exact ⟨v, fun _ => ⟨h2, c, h1, by rw [← hce]; exact (wado hcs).2⟩⟩
      ·exact ⟨t.dflt, fun h => absurd h hi⟩
     refine ⟨(List.range len).map fun i => (hex i).choose, ⟨some a, cap, by simp, by simpa using hlc, fun i x hx => ?_⟩, by simp; omega, fun x hx => ?_⟩
     ·rw [List.getElem?_map] at hx
      have hi : i < len := by
       rcases Nat.lt_or_ge i len with h | h
       ·exact h
       ·rw [List.getElem?_eq_none (by simpa using h)] at hx; cases hx
      rw [List.getElem?_range hi] at hx
      simp only [Option.map_some, Option.some.injEq] at hx
      subst hx
      obtain ⟨_, c, h1, h2⟩ := (hex i).choose_spec hi
      have hpos := t.size_pos
      have hl := h1.len
      have hsp : a.spot = none := by
       obtain ⟨_, c0, g1, g2⟩ := (hex 0).choose_spec (by omega)
       have hl0 := g1.len
       have h0 : ∃ u, c0[0]? = some u := ⟨c0[0]'(by omega), List.getElem?_eq_getElem _⟩
       obtain ⟨u, hu⟩ := h0
       have := wadp (g2 0 u hu)
       rw [Nat.zero_mul] at this
       have e : (a.add 0).add 0 = a := by simp [Addr.add]
       rw [e] at this
       exact this
      obtain ⟨ab, ao, asp⟩ := a
      simp only at hsp
      subst hsp
      refine ⟨ab, ao, c, rfl, trivial, h1, fun j u hu => ?_⟩
      have := h2 j u hu
      rw [Addr.add_lit, Addr.add_lit, Nat.add_assoc] at this
      exact this
     ·obtain ⟨i, hi, rfl⟩ := List.mem_map.1 hx
      exact ((hex i).choose_spec (List.mem_range.1 hi)).1
   next => cases hc
  next fs hk =>
   simp only [Bool.and_eq_true] at hc
   have hce := Nat.eq_of_beq_eq_true hc.1
   obtain ⟨xs, m, _, _, hlen, hxl, hf⟩ := DataW.trod_struct hk h
   have hlt : cs.length = t.size := by rw [hlen, hce]
   obtain ⟨v, h1, h2⟩ := won (P := P) (w := w) (cs := cs) (G := fs.toList) (chk := wlm P n) (fun f hmem t' hc' hsz hle => by
    obtain ⟨i, hi, he⟩ := List.getElem_of_mem hmem
    have hi' : i < fs.size := by simpa using hi
    have := hf i f (by rw [Array.getElem?_eq_getElem hi']; simpa using he)
    rw [List.getElem?_eq_getElem (by omega), hsz] at this
    exact wpv hc' this) (fun _ h => h) hc.2 (by omega)
   rw [List.drop_zero, List.take_of_length_le (by omega)] at h1
   exact ⟨v, h1, h2⟩
  next => cases hc
end
end Go.Proofs.Ytnagpmhaddfgmaa
/-
 The row of a law: a function that hands back true for all data that fit its parameters' types.
-/
namespace Go.Proofs.Ytnagpmhaddfgmaa
open Go.ChangeShapes Go.WideShapes Go.ChangeAt Go.RowKit
open Go.RowKit (Below)
def FitL : (ts : List Ty) → HL ts → Prop
 | [], _ => True
 | t :: ts, x => Fit t x.1 ∧ FitL ts x.2
def wwp (P : Program) (n T : Nat) (t : Ty) : Bool :=
 wlm P n T t && P.readableRec T && decide (T < P.types.size) && match P.underlying T with
  | some (.struct _) => !(Nat.beq t.size 1)
  | _ => true
def wdr (P : Program) (n : Nat) : List Nat → List Ty → Bool
 | [], [] => true
 | T :: Ts, t :: ts => wwp P n T t && wdr P n Ts ts
 | _, _ => false
section
variable {H : Type} {enc : TypeId × Value → H} {P : Program} {w w' : World} {base : Nat}
theorem wajb {n T : Nat} {t : Ty} {v : Value} {d : DataW H} {p : List MemPlace} {spare : Nat → Bool} {held : Bool} {b : Nat} (hc : wwp P n T t = true) (hv : Value.okWide P w .any b T v) (h : DataW.Trod enc P w base spare held T v d p) :
  ∃ x, Rep (fun _ => True) w t x v.cells.toList ∧ (t.size = 1 → v.cells = #[v]) ∧ (t.size ≠ 1 → ∃ cs, v = .agg cs) ∧ Fit t x := by
 simp only [wwp, Bool.and_eq_true] at hc
 obtain ⟨⟨⟨h1, _⟩, _⟩, h4⟩ := hc
 obtain ⟨fuel, h⟩ := h
 obtain ⟨x, k1, k2⟩ := wpv h1 h
 refine ⟨x, k1, ?_, ?_, k2⟩
 ·intro hs
  cases n with
  | zero => simp [wlm] at h1
  | succ n =>
   simp only [wlm] at h1
   split at h1
   next k hk => obtain ⟨m, rfl⟩ := okWide_int hk hv; rfl
   next hk => obtain ⟨m, rfl⟩ := okWide_bool hk hv; rfl
   next hk => obtain ⟨m, rfl⟩ := okWide_string hk hv; rfl
   next e hk => obtain ⟨a, l, c, rfl⟩ := okWide_slice hk hv; rfl
   next fs hk =>
    rw [hk] at h4
    simp [hs] at h4
   next => cases h1
 ·intro hs
  cases n with
  | zero => simp [wlm] at h1
  | succ n =>
   simp only [wlm] at h1
   split at h1
   next k hk =>
    cases t <;> simp_all [Ty.size]
   next hk => cases t <;> simp_all [Ty.size]
   next hk => cases t <;> simp_all [Ty.size]
   next e hk => cases t <;> simp_all [Ty.size]
   next fs hk =>
    obtain ⟨cs, h, _⟩ := okWide_struct hk hv
    exact ⟨cs, h⟩
   next => cases h1
theorem wrr [Tabs] {n : Nat} : ∀ {Ts : List Nat} {ts : List Ty} {vs : List Value} {ds : List (DataW H)} {p : List MemPlace}, wdr P n Ts ts = true →
  (∀ (j : Nat) t v, Ts[j]? = some t → vs[j]? = some v → Value.okWide P w .any base t v) → DataW.TrodAll enc P w 0 (fun _ => true) true Ts vs ds p → ∃ h : HL ts, HRel w ts h vs ∧ FitL ts h
 | [], [], [], _, _, _, _, _ => ⟨(), rfl, trivial⟩
 | [], [], _ :: _, [], _, _, _, h => by simp [DataW.TrodAll] at h
 | [], [], _ :: _, _ :: _, _, _, _, h => by simp [DataW.TrodAll] at h
 | [], _ :: _, _, _, _, hc, _, _ => by simp [wdr] at hc
 | _ :: _, [], _, _, _, hc, _, _ => by simp [wdr] at hc
 | T :: Ts, t :: ts, [], _, _, _, _, h => by simp [DataW.TrodAll] at h
 | T :: Ts, t :: ts, v :: vs, [], _, _, _, h => by simp [DataW.TrodAll] at h
 | T :: Ts, t :: ts, v :: vs, d :: ds, p, hc, hv, h => by
  simp only [wdr, Bool.and_eq_true] at hc
  obtain ⟨p1, p2, h1, h2, rfl⟩ := h
  obtain ⟨x, k1, k2, k3, k4⟩ := wajb hc.1 (hv 0 T v rfl rfl) h1
  obtain ⟨r, k5, k6⟩ := wrr hc.2 (fun j t v ht hv' => hv (j + 1) t v ht hv') h2
  exact ⟨(x, r), ⟨v, vs, rfl, k1, k2, k3, k5⟩, k4, k6⟩
theorem trod_stays (hl : laidOutB P = true) {sp : Nat → Bool} {n : Nat} (hb : Below w.heap.size w w') : ∀ {Ts : List Nat} {ts : List Ty} {vs : List Value} {ds : List (DataW H)} {p : List MemPlace}, wdr P n Ts ts = true →
  (∀ x ∈ p, x.block < w.heap.size ∧ sp x.block = true) → DataW.TrodAll enc P w 0 (fun _ => true) true Ts vs ds p → DataW.TrodAll enc P w' 0 sp true Ts vs ds p
 | [], [], [], [], _, _, _, h => h
 | [], _ :: _, _, _, _, hc, _, _ => by simp [wdr] at hc
 | _ :: _, [], _, _, _, hc, _, _ => by simp [wdr] at hc
 | [], [], [], _ :: _, _, _, _, h => by simp [DataW.TrodAll] at h
 | [], [], _ :: _, [], _, _, _, h => by simp [DataW.TrodAll] at h
 | [], [], _ :: _, _ :: _, _, _, _, h => by simp [DataW.TrodAll] at h
 | T :: Ts, t :: ts, [], _, _, _, _, h => by simp [DataW.TrodAll] at h
 | T :: Ts, t :: ts, v :: vs, [], _, _, _, h => by simp [DataW.TrodAll] at h
 | T :: Ts, t :: ts, v :: vs, d :: ds, p, hc, hp, h => by
  simp only [wdr, Bool.and_eq_true] at hc
  obtain ⟨p1, p2, h1, h2, rfl⟩ := h
  have hc1 := hc.1
  simp only [wwp, Bool.and_eq_true, decide_eq_true_eq] at hc1
  exact ⟨p1, p2, WideElems.Trod_stays hl hc1.1.1.2 hc1.1.2 h1 (fun x hx => hb.same (hp x (List.mem_append_left _ hx)).1) (fun x hx => (hp x (List.mem_append_left _ hx)).2),
   trod_stays hl hb hc.2 (fun x hx => hp x (List.mem_append_right _ hx)) h2, rfl⟩
theorem wln {sp : Nat → Bool} {held : Bool} : ∀ {Ts : List Nat} {vs : List Value} {ds : List (DataW H)} {p : List MemPlace}, DataW.TrodAll enc P w base sp held Ts vs ds p → Ts.length = vs.length ∧ ds.length = vs.length
 | [], [], [], _, _ => ⟨rfl, rfl⟩
 | [], [], _ :: _, _, h => by simp [DataW.TrodAll] at h
 | [], _ :: _, [], _, h => by simp [DataW.TrodAll] at h
 | [], _ :: _, _ :: _, _, h => by simp [DataW.TrodAll] at h
 | _ :: _, [], _, _, h => by simp [DataW.TrodAll] at h
 | _ :: _, _ :: _, [], _, h => by simp [DataW.TrodAll] at h
 | _ :: _, _ :: _, _ :: _, _, ⟨_, _, _, h, _⟩ => by
  obtain ⟨h1, h2⟩ := wln h
  simp [h1, h2]
end
theorem wrs [Tabs] {H : Type} {enc : TypeId × Value → H} {P : Program} {f : Nat} {fn : Func} {s : ChangeSpec} {d : FD} {ts : List Ty} {n tb : Nat} {cv : HL ts → d.T}
  (hfn : P.funcs[f]? = some fn) (hl : laidOutB P = true) (hpars : wdr P n fn.params.toList ts = true) (hvars : s.vars = []) (hres : fn.resultTypes = #[tb]) (hb : P.underlying tb = some .bool)
  (hspec : ∀ ds : List (DataW H), ds.length = fn.params.size → s.fn H (ds ++ []) = { results := [.lit (.bool true)], args := ds })
  (hname : (fn.name == "runtime.NumGoroutine") = false) (hbody : fn.body.isSome = true) (hcv : ∀ h, val d.A (cv h).1 = hlAV ts h) (hob : ∀ h, wew d.ins (cv h).2 = []) (hfd : war P (f, d))
  (law : ∀ h, FitL ts h → ∃ r, d.F (cv h) = some r ∧ d.emb r = ([.dat .bool true], []))
  {W : World} {base : Nat} {args : Array Value} {ds gs : List (DataW H)} {before : List MemPlace}
  (hval : ∀ (j : Nat) t v, fn.params[j]? = some t → args[j]? = some v → Value.okWide P W .any base t v)
  (hW : DataW.Whole enc P fn.params.toList s.vars false W args.toList ds gs before) (htab : TabsOK W (old W fun _ => none)) :
  Calls P f args W fun e W' => ∃ v, e = .returned v ∧ s.post enc P fn false true false false W args v W' := by
 have hW' := hW
 obtain ⟨p, q, hA, hV, rfl, hfz, _⟩ := hW
 rw [hvars] at hV
 obtain ⟨rfl, rfl⟩ := trodVars_none hV
 obtain ⟨h, hh, hfit⟩ := wrr hpars (fun j t v ht hv => hval j t v (by simpa using ht) (by simpa using hv)) hA
 obtain ⟨r, hr, he⟩ := law h hfit
 have hrel := (wkc (P := P) (lo := old W fun _ => none) (S := SS (fun _ => False) fun _ => none) (fun _ => ⟨fun h => h, fun _ _ h => by cases h⟩) (μ := fun _ => none) hh).to
 have hcall := hfd (cv h) r hr W (fun _ => False) (fun _ => none) args (fun _ h => h.elim)
  ⟨fun _ h => h.elim, fun b hb => hb.1, fun o mv h => (by cases h), fun o p mv mv' b h => (by cases h), htab⟩ (fun p hp => by rw [hob] at hp; cases hp) (by rw [hcv, hrel.1]; simp) fun j v hj => by
  rw [hcv] at hj
  have := hrel.2 j v hj
  simpa using this
 rcases hcall with ⟨_, hcall⟩ | ⟨x, w', hrun, _⟩
 case inr =>
  obtain ⟨c, hc⟩ := Option.isSome_iff_exists.1 hbody
  rw [whl hfn hname hc] at hrun
  cases hrun
 refine hcall.mono fun e w' ⟨x, hx, hkept, μ, _, _, _, hrr⟩ => ?_
 have hbel : Below W.heap.size W w' := ⟨hkept.os, hkept.tape, hkept.output, hkept.size, fun k hlt => hkept.block k ⟨hlt, fun _ _ h => by cases h⟩⟩
 rw [he] at hrr
 have hx2 : x = .bool true := by
  rcases hrr with ⟨v, hv, hr'⟩ | ⟨hne, _⟩
  ·cases hv
   cases hr' with
   | dat _ hrep => simp [Rep] at hrep; exact hrep
  ·exact absurd rfl hne
 subst hx2
 have hlen := wln hA
 have hfe := hspec ds (by rw [hlen.2, ← hlen.1]; simp)
 have hbl : ∀ x ∈ p ++ [], x.block < W.heap.size := fun x hx => by simpa using hW'.lt x hx
 refine ⟨_, hx, ds, [], p ++ [], [], p, [], hW', ?_, ?_, ?_, hbel.frame _, fun hf => nomatch hf⟩
 ·rw [hfe, hres]
  exact trodAll_mk1 (shut_bool hb true)
 ·rw [hfe]
  exact trod_stays hl hbel hpars (fun x hx => ⟨hbl x (by simpa using hx), by simpa using hbl x (by simpa using hx)⟩) hA
 ·rw [hfe, hvars]
  rfl
theorem wbad [Tabs] {H : Type} {enc : TypeId × Value → H} {C : Checked} {os : Os} {f : Nat} {fn : Func} {s : ChangeSpec} {d : FD} {conds : List PathCond} {ts : List Ty} {n tb : Nat} {cv : HL ts → d.T}
  (own : ownKnob C.prog.godebug = none) (started : os.Started) (noInit : C.prog.inits.idxOf? f = none) (hfn : C.prog.funcs[f]? = some fn)
  (witness : ∃ (w : World) (tape : Tape) (i : Input), w.os = os ∧ (w.forCall tape i).Shaped C.prog ∧ i.vars = [] ∧ Input.okWide C.prog (w.forCall tape i) .any w.heap.size f i ∧
   s.pre6 enc C.prog fn conds false (w.forCall tape i).memory i.args ∧ ({} : Assume).holds C.prog (lone (Frame.enter C.prog f i.args .normal) [] (w.forCall tape i)))
  (hl : laidOutB C.prog = true) (hpars : wdr C.prog n fn.params.toList ts = true) (hvars : s.vars = []) (hres : fn.resultTypes = #[tb]) (hb : C.prog.underlying tb = some .bool)
  (hspec : ∀ ds : List (DataW H), ds.length = fn.params.size → s.fn H (ds ++ []) = { results := [.lit (.bool true)], args := ds })
  (hname : (fn.name == "runtime.NumGoroutine") = false) (hbody : fn.body.isSome = true) (hcv : ∀ h, val d.A (cv h).1 = hlAV ts h) (hob : ∀ h, wew d.ins (cv h).2 = []) (hfd : war C.prog (f, d))
  (law : ∀ h, FitL ts h → ∃ r, d.F (cv h) = some r ∧ d.emb r = ([.dat .bool true], [])) (htab : Tabs.tabs = []) :
  ReturnsInHanded {} C os f .any (s.pre6 enc C.prog fn conds false) (s.post enc C.prog fn false true false false) := by
 refine returnsInHanded_of_change own started noInit hfn witness ?_
 intro W base args ds gs before hval hW _ _
 exact wrs hfn hl hpars hvars hres hb hspec hname hbody hcv hob hfd law hval hW fun p hp => by rw [htab] at hp; cases hp
end Go.Proofs.Ytnagpmhaddfgmaa
