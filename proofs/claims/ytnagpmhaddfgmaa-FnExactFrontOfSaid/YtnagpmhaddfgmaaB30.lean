/-
 The row of a law: a function that hands back true for all data that fit its parameters' types.
-/
import Derived.Test.YtnagpmhaddfgmaaB29
import Derived.ProofKit
namespace Go.Proofs.Ytnagpmhaddfgmaa
open Go.ChangeShapes Go.WideShapes Go.ChangeAt Go.RowKit
open Go.RowKit (Below)
def FitL : (ts : List Ty) → HL ts → Prop
 | [], _ => True
 | t :: ts, x => Fit t x.1 ∧ FitL ts x.2
def wxz (P : Program) (n T : Nat) (t : Ty) : Bool :=
 wkw P n T t && P.readableRec T && decide (T < P.types.size) && match P.underlying T with
  | some (.struct _) => !(Nat.beq t.size 1)
  | _ => true
def wde (P : Program) (n : Nat) : List Nat → List Ty → Bool
 | [], [] => true
 | T :: Ts, t :: ts => wxz P n T t && wde P n Ts ts
 | _, _ => false
section
variable {H : Type} {enc : TypeId × Value → H} {P : Program} {w w' : World} {base : Nat}
theorem walq {n T : Nat} {t : Ty} {v : Value} {d : DataW H} {p : List MemPlace} {spare : Nat → Bool} {held : Bool} {b : Nat} (hc : wxz P n T t = true) (hv : Value.okWide P w .any b T v) (h : DataW.Trod enc P w base spare held T v d p) :
  ∃ x, Rep (fun _ => True) w t x v.cells.toList ∧ (t.size = 1 → v.cells = #[v]) ∧ (t.size ≠ 1 → ∃ cs, v = .agg cs) ∧ Fit t x := by
 simp only [wxz, Bool.and_eq_true] at hc
 obtain ⟨⟨⟨h1, _⟩, _⟩, h4⟩ := hc
 obtain ⟨fuel, h⟩ := h
 obtain ⟨x, k1, k2⟩ := wpa h1 h
 refine ⟨x, k1, ?_, ?_, k2⟩
 ·intro hs
  cases n with
  | zero => simp [wkw] at h1
  | succ n =>
   simp only [wkw] at h1
   split at h1
   next k hk => obtain ⟨m, rfl⟩ := okWide_int hk hv; rfl
   next hk => obtain ⟨m, rfl⟩ := okWide_bool hk hv; rfl
   next hk => obtain ⟨m, rfl⟩ := okWide_string hk hv; rfl
   next e hk => obtain ⟨a, l, c, rfl⟩ := okWide_slice hk hv; rfl
   next fs hk =>
    rw [hk] at h4
    simp [hs] at h4
   next => cases h1
 ·intro hs
  cases n with
  | zero => simp [wkw] at h1
  | succ n =>
   simp only [wkw] at h1
   split at h1
   next k hk =>
    cases t <;> simp_all [Ty.size]
   next hk => cases t <;> simp_all [Ty.size]
   next hk => cases t <;> simp_all [Ty.size]
   next e hk => cases t <;> simp_all [Ty.size]
   next fs hk =>
    obtain ⟨cs, h, _⟩ := okWide_struct hk hv
    exact ⟨cs, h⟩
   next => cases h1
theorem wsl [Tabs] {n : Nat} : ∀ {Ts : List Nat} {ts : List Ty} {vs : List Value} {ds : List (DataW H)} {p : List MemPlace}, wde P n Ts ts = true →
  (∀ (j : Nat) t v, Ts[j]? = some t → vs[j]? = some v → Value.okWide P w .any base t v) → DataW.TrodAll enc P w 0 (fun _ => true) true Ts vs ds p → ∃ h : HL ts, HRel w ts h vs ∧ FitL ts h
 | [], [], [], _, _, _, _, _ => ⟨(), rfl, trivial⟩
 | [], [], _ :: _, [], _, _, _, h => by simp [DataW.TrodAll] at h
 | [], [], _ :: _, _ :: _, _, _, _, h => by simp [DataW.TrodAll] at h
 | [], _ :: _, _, _, _, hc, _, _ => by simp [wde] at hc
 | _ :: _, [], _, _, _, hc, _, _ => by simp [wde] at hc
 | T :: Ts, t :: ts, [], _, _, _, _, h => by simp [DataW.TrodAll] at h
 | T :: Ts, t :: ts, v :: vs, [], _, _, _, h => by simp [DataW.TrodAll] at h
 | T :: Ts, t :: ts, v :: vs, d :: ds, p, hc, hv, h => by
  simp only [wde, Bool.and_eq_true] at hc
  obtain ⟨p1, p2, h1, h2, rfl⟩ := h
  obtain ⟨x, k1, k2, k3, k4⟩ := walq hc.1 (hv 0 T v rfl rfl) h1
  obtain ⟨r, k5, k6⟩ := wsl hc.2 (fun j t v ht hv' => hv (j + 1) t v ht hv') h2
  exact ⟨(x, r), ⟨v, vs, rfl, k1, k2, k3, k5⟩, k4, k6⟩
theorem trod_stays (hl : laidOutB P = true) {sp : Nat → Bool} {n : Nat} (hb : Below w.heap.size w w') : ∀ {Ts : List Nat} {ts : List Ty} {vs : List Value} {ds : List (DataW H)} {p : List MemPlace}, wde P n Ts ts = true →
  (∀ x ∈ p, x.block < w.heap.size ∧ sp x.block = true) → DataW.TrodAll enc P w 0 (fun _ => true) true Ts vs ds p → DataW.TrodAll enc P w' 0 sp true Ts vs ds p
 | [], [], [], [], _, _, _, h => h
 | [], _ :: _, _, _, _, hc, _, _ => by simp [wde] at hc
 | _ :: _, [], _, _, _, hc, _, _ => by simp [wde] at hc
 | [], [], [], _ :: _, _, _, _, h => by simp [DataW.TrodAll] at h
 | [], [], _ :: _, [], _, _, _, h => by simp [DataW.TrodAll] at h
 | [], [], _ :: _, _ :: _, _, _, _, h => by simp [DataW.TrodAll] at h
 | T :: Ts, t :: ts, [], _, _, _, _, h => by simp [DataW.TrodAll] at h
 | T :: Ts, t :: ts, v :: vs, [], _, _, _, h => by simp [DataW.TrodAll] at h
 | T :: Ts, t :: ts, v :: vs, d :: ds, p, hc, hp, h => by
  simp only [wde, Bool.and_eq_true] at hc
  obtain ⟨p1, p2, h1, h2, rfl⟩ := h
  have hc1 := hc.1
  simp only [wxz, Bool.and_eq_true, decide_eq_true_eq] at hc1
  exact ⟨p1, p2, WideElems.Trod_stays hl hc1.1.1.2 hc1.1.2 h1 (fun x hx => hb.same (hp x (List.mem_append_left _ hx)).1) (fun x hx => (hp x (List.mem_append_left _ hx)).2),
   trod_stays hl hb hc.2 (fun x hx => hp x (List.mem_append_right _ hx)) h2, rfl⟩
theorem wkx {sp : Nat → Bool} {held : Bool} : ∀ {Ts : List Nat} {vs : List Value} {ds : List (DataW H)} {p : List MemPlace}, DataW.TrodAll enc P w base sp held Ts vs ds p → Ts.length = vs.length ∧ ds.length = vs.length
 | [], [], [], _, _ => ⟨rfl, rfl⟩
 | [], [], _ :: _, _, h => by simp [DataW.TrodAll] at h
 | [], _ :: _, [], _, h => by simp [DataW.TrodAll] at h
 | [], _ :: _, _ :: _, _, h => by simp [DataW.TrodAll] at h
 | _ :: _, [], _, _, h => by simp [DataW.TrodAll] at h
 | _ :: _, _ :: _, [], _, h => by simp [DataW.TrodAll] at h
 | _ :: _, _ :: _, _ :: _, _, ⟨_, _, _, h, _⟩ => by
  obtain ⟨h1, h2⟩ := wkx h
  simp [h1, h2]
end
theorem wsm [Tabs] {H : Type} {enc : TypeId × Value → H} {P : Program} {f : Nat} {fn : Func} {s : ChangeSpec} {d : FD} {ts : List Ty} {n tb : Nat} {cv : HL ts → d.T}
  (hfn : P.funcs[f]? = some fn) (hl : laidOutB P = true) (hpars : wde P n fn.params.toList ts = true) (hvars : s.vars = []) (hres : fn.resultTypes = #[tb]) (hb : P.underlying tb = some .bool)
  (hspec : ∀ ds : List (DataW H), ds.length = fn.params.size → s.fn H (ds ++ []) = { results := [.lit (.bool true)], args := ds })
  (hname : (fn.name == "runtime.NumGoroutine") = false) (hbody : fn.body.isSome = true) (hcv : ∀ h, val d.A (cv h).1 = hlAV ts h) (hob : ∀ h, wej d.ins (cv h).2 = []) (hfd : wat P (f, d))
  (law : ∀ h, FitL ts h → ∃ r, d.F (cv h) = some r ∧ d.emb r = ([.dat .bool true], []))
  {W : World} {base : Nat} {args : Array Value} {ds gs : List (DataW H)} {before : List MemPlace}
  (hval : ∀ (j : Nat) t v, fn.params[j]? = some t → args[j]? = some v → Value.okWide P W .any base t v)
  (hW : DataW.Whole enc P fn.params.toList s.vars false W args.toList ds gs before) (htab : TabsOK W (old W fun _ => none)) :
  Calls P f args W fun e W' => ∃ v, e = .returned v ∧ s.post enc P fn false true false false W args v W' := by
 have hW' := hW
 obtain ⟨p, q, hA, hV, rfl, hfz, _⟩ := hW
 rw [hvars] at hV
 obtain ⟨rfl, rfl⟩ := trodVars_none hV
 obtain ⟨h, hh, hfit⟩ := wsl hpars (fun j t v ht hv => hval j t v (by simpa using ht) (by simpa using hv)) hA
 obtain ⟨r, hr, he⟩ := law h hfit
 have hrel := (wjl (P := P) (lo := old W fun _ => none) (S := SS (fun _ => False) fun _ => none) (fun _ => ⟨fun h => h, fun _ _ h => by cases h⟩) (μ := fun _ => none) hh).to
 have hcall := hfd (cv h) r hr W (fun _ => False) (fun _ => none) args (fun _ h => h.elim)
  ⟨fun _ h => h.elim, fun b hb => hb.1, fun o mv h => (by cases h), fun o p mv mv' b h => (by cases h), htab⟩ (fun p hp => by rw [hob] at hp; cases hp) (by rw [hcv, hrel.1]; simp) fun j v hj => by
  rw [hcv] at hj
  have := hrel.2 j v hj
  simpa using this
 rcases hcall with ⟨_, hcall⟩ | ⟨x, w', hrun, _⟩
 case inr =>
  obtain ⟨c, hc⟩ := Option.isSome_iff_exists.1 hbody
  rw [wkv hfn hname hc] at hrun
  cases hrun
 refine hcall.mono fun e w' ⟨x, hx, hkept, μ, _, _, _, hrr⟩ => ?_
 have hbel : Below W.heap.size W w' := ⟨hkept.os, hkept.tape, hkept.output, hkept.size, fun k hlt => hkept.block k ⟨hlt, fun _ _ h => by cases h⟩⟩
 rw [he] at hrr
 have hx2 : x = .bool true := by
  rcases hrr with ⟨v, hv, hr'⟩ | ⟨hne, _⟩
  ·cases hv
   cases hr' with
   | dat _ hrep => simp [Rep] at hrep; exact hrep
  ·exact absurd rfl hne
 subst hx2
 have hlen := wkx hA
 have hfe := hspec ds (by rw [hlen.2, ← hlen.1]; simp)
 have hbl : ∀ x ∈ p ++ [], x.block < W.heap.size := fun x hx => by simpa using hW'.lt x hx
 refine ⟨_, hx, ds, [], p ++ [], [], p, [], hW', ?_, ?_, ?_, hbel.frame _, fun hf => nomatch hf⟩
 ·rw [hfe, hres]
  exact trodAll_mk1 (shut_bool hb true)
 ·rw [hfe]
  exact trod_stays hl hbel hpars (fun x hx => ⟨hbl x (by simpa using hx), by simpa using hbl x (by simpa using hx)⟩) hA
 ·rw [hfe, hvars]
  rfl
theorem wbet [Tabs] {H : Type} {enc : TypeId × Value → H} {C : Checked} {os : Os} {f : Nat} {fn : Func} {s : ChangeSpec} {d : FD} {conds : List PathCond} {ts : List Ty} {n tb : Nat} {cv : HL ts → d.T}
  (own : ownKnob C.prog.godebug = none) (started : os.Started) (noInit : C.prog.inits.idxOf? f = none) (hfn : C.prog.funcs[f]? = some fn)
  (witness : ∃ (w : World) (tape : Tape) (i : Input), w.os = os ∧ (w.forCall tape i).Shaped C.prog ∧ i.vars = [] ∧ Input.okWide C.prog (w.forCall tape i) .any w.heap.size f i ∧
   s.pre6 enc C.prog fn conds false (w.forCall tape i).memory i.args ∧ ({} : Assume).holds C.prog (lone (Frame.enter C.prog f i.args .normal) [] (w.forCall tape i)))
  (hl : laidOutB C.prog = true) (hpars : wde C.prog n fn.params.toList ts = true) (hvars : s.vars = []) (hres : fn.resultTypes = #[tb]) (hb : C.prog.underlying tb = some .bool)
  (hspec : ∀ ds : List (DataW H), ds.length = fn.params.size → s.fn H (ds ++ []) = { results := [.lit (.bool true)], args := ds })
  (hname : (fn.name == "runtime.NumGoroutine") = false) (hbody : fn.body.isSome = true) (hcv : ∀ h, val d.A (cv h).1 = hlAV ts h) (hob : ∀ h, wej d.ins (cv h).2 = []) (hfd : wat C.prog (f, d))
  (law : ∀ h, FitL ts h → ∃ r, d.F (cv h) = some r ∧ d.emb r = ([.dat .bool true], [])) (htab : Tabs.tabs = []) :
  ReturnsInHanded {} C os f .any (s.pre6 enc C.prog fn conds false) (s.post enc C.prog fn false true false false) := by
 refine returnsInHanded_of_change own started noInit hfn witness ?_
 intro W base args ds gs before hval hW _ _
 exact wsm hfn hl hpars hvars hres hb hspec hname hbody hcv hob hfd law hval hW fun p hp => by rw [htab] at hp; cases hp
end Go.Proofs.Ytnagpmhaddfgmaa
