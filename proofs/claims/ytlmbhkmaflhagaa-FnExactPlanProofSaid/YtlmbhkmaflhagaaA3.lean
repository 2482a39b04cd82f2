/-
  Typed states, what is kept at a loop's head and at an exit; loops; descriptions of functions.
-/
import Derived.Test.YtlmbhkmaflhagaaA2
namespace Go.Proofs.Ytlmbhkmaflhagaa

/-- Shapes of lists of values. -/
inductive Sh where
  | dat (t : Ty)
  | arr (o : Nat)
  | box (o k : Nat)
  | row (o : Nat)
  | nilsl
  | und
  | clo (ts : List Ty) (r : Ty)
  | nil
  | cons (a b : Sh)
  | fn (f : Nat) (caps : Sh)
  | ptr (cs : Sh)
  | agg (cs : Sh)
  | tup (cs : Sh)

@[reducible] def Sh.I : Sh → Type
  | .dat t => t.I
  | .row _ => Nat
  | .clo ts r => HL ts → Option r.I
  | .cons a b => a.I × b.I
  | .fn _ c => c.I
  | .ptr c => c.I
  | .agg c => c.I
  | .tup c => c.I
  | _ => Unit

def val : (s : Sh) → s.I → List AV
  | .dat t, x => [.dat t x]
  | .arr o, _ => [.arr o]
  | .box o k, _ => [.box o k]
  | .row o, i => [.row o i]
  | .nilsl, _ => [.nilsl]
  | .und, _ => [.undef]
  | .clo ts r, p => [.clo ts r p]
  | .nil, _ => []
  | .cons a b, x => val a x.1 ++ val b x.2
  | .fn f c, x => [.fn f (val c x)]
  | .ptr c, x => [.ptr (val c x)]
  | .agg c, x => [.agg (val c x)]
  | .tup c, x => [.tup (val c x)]

def Ty.eqs? : (a b : List Ty) → Option (PLift (a = b))
  | [], [] => some ⟨rfl⟩
  | a :: as, b :: bs => match Ty.eq? a b, Ty.eqs? as bs with
    | some ⟨h⟩, some ⟨k⟩ => some ⟨by rw [h, k]⟩
    | _, _ => none
  | _, _ => none

def cloCast (ts ts' : List Ty) (r r' : Ty) (p : HL ts → Option r.I) : Option (HL ts' → Option r'.I) :=
  match Ty.eqs? ts ts', Ty.eq? r r' with
  | some ⟨h⟩, some ⟨k⟩ => some (h ▸ k ▸ p)
  | _, _ => none

/-- What a function value computes, by the table. -/
def asClo (E : Env) (f : Nat) (caps : List AV) (ts : List Ty) (r : Ty) (h : HL ts) : Option r.I :=
  match E.call f (hlAV ts h ++ caps) [] with
  | some cr => cr.x.bind fun y => match cr.emb y with
    | ([.dat t v], []) => Ty.cast t r v
    | _ => none
  | none => none

def un1 (t : Ty) : AV → Option t.I
  | .dat t' v => Ty.cast t' t v
  | .nilsl => match t with
    | .slice _ => some []
    | _ => none
  | _ => none

/-- A value that names nothing. -/
def cl0 : AV → Bool
  | .dat _ _ => true
  | .nilsl => true
  | .undef => true
  | .clo _ _ _ => true
  | .fn _ [] => true
  | _ => false
def isPtr : AV → Bool
  | .ptr cs => cs.all cl0
  | _ => false

/-- The first values, by its shape. -/
def un (E : Env) : (s : Sh) → List AV → Option (s.I × List AV)
  | .nil, l => some ((), l)
  | .cons a b, l => match un E a l with
    | some (x, r) => match un E b r with
      | some (y, r') => some ((x, y), r')
      | none => none
    | none => none
  | .dat t, l => match l with
    | v :: r => match un1 t v with
      | some x => some (x, r)
      | none => none
    | _ => none
  | .arr o, l => match l with
    | .arr o' :: r => match Nat.beq o o' with
      | true => some ((), r)
      | false => none
    | _ => none
  | .box o k, l => match l with
    | .box o' k' :: r => match Nat.beq o o', Nat.beq k k' with
      | true, true => some ((), r)
      | _, _ => none
    | _ => none
  | .row o, l => match l with
    | .row o' i :: r => match Nat.beq o o' with
      | true => some (i, r)
      | false => none
    | _ => none
  | .nilsl, l => match l with
    | .nilsl :: r => some ((), r)
    | _ => none
  | .und, l => match l with
    | _ :: r => some ((), r)
    | _ => none
  | .clo ts rt, l => match l with
    | .clo ts' rt' p :: r => match cloCast ts' ts rt' rt p with
      | some q => some (q, r)
      | none => none
    | .fn f caps :: r => match deepT rt, Nat.beq rt.size 1, caps.all isPtr && (E.lend f).isEmpty with
      | false, true, true => some (asClo E f caps ts rt, r)
      | _, _, _ => none
    | _ => none
  | .fn f c, l => match l with
    | .fn f' caps :: r => match Nat.beq f f', un E c caps with
      | true, some (x, []) => some (x, r)
      | _, _ => none
    | _ => none
  | .ptr c, l => match l with
    | .ptr cs :: r => match un E c cs with
      | some (x, []) => some (x, r)
      | _ => none
    | _ => none
  | .agg c, l => match l with
    | .agg cs :: r => match un E c cs with
      | some (x, []) => some (x, r)
      | _ => none
    | _ => none
  | .tup c, l => match l with
    | .tup cs :: r => match un E c cs with
      | some (x, []) => some (x, r)
      | _ => none
    | _ => none

/-- The environment that knows nothing. -/
def E0 : Env := ⟨fun _ _ _ => none, fun _ => []⟩

inductive OSh where
  | arr (e : Nat) (t : Ty)
  | rows (e e2 : Nat) (t : Ty)
  | cells (c : Sh)

@[reducible] def OSh.I : OSh → Type
  | .arr _ t => List t.I
  | .rows _ _ t => List (List t.I)
  | .cells c => c.I

def OSh.mk : (o : OSh) → o.I → Ob
  | .arr e t, l => .arr e t l
  | .rows e e2 t, l => .rows e e2 t l none
  | .cells c, x => .cells (val c x)

def OSh.un : (o : OSh) → Ob → Option o.I
  | .arr e t, .arr e' t' l => match Nat.beq e e' with
    | true => Ty.cast (.slice t') (.slice t) l
    | false => none
  | .rows e e2 t, .rows e' e2' t' l none => match Nat.beq e e', Nat.beq e2 e2' with
    | true, true => Ty.cast (.slice (.slice t')) (.slice (.slice t)) l
    | _, _ => none
  | .cells c, .cells cs => match Go.Proofs.Ytlmbhkmaflhagaa.un E0 c cs with
    | some (x, []) => some x
    | _ => none
  | _, _ => none

@[reducible] def OL : List (Nat × OSh) → Type
  | [] => Unit
  | (_, o) :: r => o.I × OL r

def mkObs : (l : List (Nat × OSh)) → OL l → List (Nat × Ob)
  | [], _ => []
  | (i, o) :: r, x => (i, o.mk x.1) :: mkObs r x.2

def unObs (g : Nat → Option Ob) : (l : List (Nat × OSh)) → Option (OL l)
  | [] => some ()
  | (i, o) :: r => match g i with
    | some x => match o.un x, unObs g r with
      | some y, some z => some (y, z)
      | _, _ => none
    | none => none

/-- A typed state: slots and their shape; what is owned. -/
structure SSh where
  slots : List Nat
  sh : Sh
  obs : List (Nat × OSh)

@[reducible] def SSh.T (S : SSh) : Type := S.sh.I × OL S.obs

def zipS : List Nat → List AV → List (Nat × AV)
  | i :: is, v :: vs => (i, v) :: zipS is vs
  | _, _ => []

def mkSt (S : SSh) (x : S.T) : St := { fr := zipS S.slots (val S.sh x.1), ob := mkObs S.obs x.2 }

def unSt (S : SSh) (s : St) : Option S.T :=
  match un E0 S.sh (S.slots.map s.slot) with
  | some (x, []) => match unObs s.g S.obs with
    | some y => some (x, y)
    | none => none
  | _ => none

/-- Does the shape name owned things of this list alone? -/
def Sh.okIds (ids : List Nat) : Sh → Bool
  | .arr o => ids.any (Nat.beq o)
  | .box o _ => ids.any (Nat.beq o)
  | .row o => ids.any (Nat.beq o)
  | .cons a b => a.okIds ids && b.okIds ids
  | .fn _ c => c.okIds ids
  | .ptr c => c.okIds ids
  | .agg c => c.okIds ids
  | .tup c => c.okIds ids
  | _ => true
def OSh.okIds (ids : List Nat) : OSh → Bool
  | .arr _ _ => true
  | .rows _ _ _ => true
  | .cells c => c.okIds ids
def SSh.ok (S : SSh) : Bool :=
  S.sh.okIds (S.obs.map (·.1)) && S.obs.all fun p => p.2.okIds (S.obs.map (·.1))

/-- What is done ahead of a loop's head, or at an exit. 'fz': an array is given up. 'own', 'ownR': the empty slice becomes an array (rows) of its own ('ownC', 'ownRC': a part of an aggregate; 'ownB', 'ownRB': a cell of a box). 'ren': an array gets another number. 'rep': an array takes another one's place, which is given up. -/
inductive CA where
  | fz (o : Nat)
  | rep (o o' : Nat)
  | own (i o e : Nat) (t : Ty)
  | ownR (i o e e2 : Nat) (t : Ty)
  | ownC (i j o e : Nat) (t : Ty)
  | ownRC (i j o e e2 : Nat) (t : Ty)
  | ownB (p j o e : Nat) (t : Ty)
  | ownRB (p j o e e2 : Nat) (t : Ty)
  | ren (o o' : Nat)

def St.ren (s : St) (o o' : Nat) : St :=
  match s.g o, s.g o' with
  | some (.arr e t l), none => s.swap o (.arr o') [(o', .arr e t l)]
  | some (.rows e e2 t l none), none => s.swap o (.arr o') [(o', .rows e e2 t l none)]
  | _, _ => s
def St.act (s : St) : CA → St
  | .fz o => s.freeze o
  | .rep o o' => match s.g o, Nat.beq o o' with
    | some (.arr _ _ _), false => (s.freeze o').ren o o'
    | _, _ => s
  | .own i o e t => match s.slot i, s.g o with
    | .nilsl, none => { fr := (i, .arr o) :: s.fr, ob := (o, .arr e t []) :: s.ob }
    | _, _ => s
  | .ownR i o e e2 t => match s.slot i, s.g o with
    | .nilsl, none => { fr := (i, .arr o) :: s.fr, ob := (o, .rows e e2 t [] none) :: s.ob }
    | _, _ => s
  | .ownC i j o e t => match s.slot i, s.g o with
    | .agg cs, none => match nth cs j with
      | some .nilsl => { fr := (i, .agg (cs.set j (.arr o))) :: s.fr, ob := (o, .arr e t []) :: s.ob }
      | _ => s
    | _, _ => s
  | .ownRC i j o e e2 t => match s.slot i, s.g o with
    | .agg cs, none => match nth cs j with
      | some .nilsl => { fr := (i, .agg (cs.set j (.arr o))) :: s.fr, ob := (o, .rows e e2 t [] none) :: s.ob }
      | _ => s
    | _, _ => s
  | .ownB p j o e t => match s.g p, s.g o with
    | some (.cells cs), none => match nth cs j with
      | some .nilsl => { fr := s.fr, ob := (p, .cells (cs.set j (.arr o))) :: (o, .arr e t []) :: s.ob }
      | _ => s
    | _, _ => s
  | .ownRB p j o e e2 t => match s.g p, s.g o with
    | some (.cells cs), none => match nth cs j with
      | some .nilsl => { fr := s.fr, ob := (p, .cells (cs.set j (.arr o))) :: (o, .rows e e2 t [] none) :: s.ob }
      | _ => s
    | _, _ => s
  | .ren o o' => s.ren o o'
def St.acts (s : St) (l : List CA) : St := l.foldl St.act s

/-- What is kept, and what is done before. -/
structure Keep where
  acts : List CA
  S : SSh

def Keep.at (k : Keep) (s : St) : Option k.S.T := unSt k.S (s.acts k.acts)

/-! ### Loops -/
inductive Ex where
  | exit (id : Nat) (s : St)
  | ret (s : St)
def Ex.out : Ex → Out
  | .exit id s => .exit id s
  | .ret s => .ret s
/-- At the loop's block. -/
def Ex.at (id : Nat) : Ex → Out
  | .exit i s => match Nat.beq i id with
    | true => .normal s
    | false => .exit i s
  | .ret s => .ret s

def iterN {V R : Type} (f : V → Option (V ⊕ R)) : Nat → V → Option R
  | 0, _ => none
  | n + 1, v => match f v with
    | some (.inl v') => iterN f n v'
    | some (.inr r) => some r
    | none => none

open Classical in
/-- Rounds until one ends the loop. -/
noncomputable def iter {V R : Type} (f : V → Option (V ⊕ R)) (v : V) : Option R :=
  if h : ∃ r n, iterN f n v = some r then some h.choose else none

structure LD where
  head : Keep
  exits : List (Nat × Keep)
  rets : Keep
  K : Type
  V : Type
  R : Type
  join : K → V → head.S.T
  sk : head.S.T → K
  sv : head.S.T → V
  step : K → V → Tr (V ⊕ R)
  leaf : K → R → Tr Ex

def keepOut (h : Option Keep) (ex : List (Nat × Keep)) (rt : Keep) : Out → Option Out
  | .normal s => match h with
    | some h => (h.at s).map fun t => .normal (mkSt h.S t)
    | none => none
  | .exit i s => match look ex i with
    | some k => (k.at s).map fun t => .exit i (mkSt k.S t)
    | none => none
  | .ret s => (rt.at s).map fun t => .ret (mkSt rt.S t)

noncomputable def LD.orc (d : LD) (id : Nat) (s : St) : Option (Tr Out) :=
  (d.head.at s).map fun t => .c d.R (iter (fun v => (d.step (d.sk t) v).ev) (d.sv t)) fun r => (d.leaf (d.sk t) r).map (Ex.at id)

def LD.next (d : LD) (k : d.K) : d.V ⊕ d.R → Tr (Option Out)
  | .inl v => .l (some (.normal (mkSt d.head.S (d.join k v))))
  | .inr r => (d.leaf k r).map fun e => some e.out

structure LD.OK (E : Env) (tt : Nat → TD) (fz : Nat → Nat → List Nat) (orc : Orc) (b : Code) (d : LD) : Prop where
  ok : d.head.S.ok = true
  oke : d.exits.all (fun p => p.2.S.ok) = true
  okr : d.rets.S.ok = true
  eta : ∀ t, d.join (d.sk t) (d.sv t) = t
  step : ∀ k v, ((acode E tt fz orc b (mkSt d.head.S (d.join k v))).map (keepOut (some d.head) d.exits d.rets)).ev = ((d.step k v).bind (d.next k)).ev

noncomputable def orcOf (l : List (Nat × LD)) : Orc := fun id s => match look l id with
  | some d => d.orc id s
  | none => none

/-! ### Functions -/
structure FD where
  A : Sh
  ins : List (Nat × OSh)
  lend : List LP
  R : Type
  F : A.I × OL ins → Option R
  emb : R → List AV × List (Nat × Ob)

@[reducible] def FD.T (d : FD) : Type := d.A.I × OL d.ins

def sameIds {α β : Type} : List (Nat × α) → List (Nat × β) → Bool
  | [], [] => true
  | (i, _) :: r, (j, _) :: r' => Nat.beq i j && sameIds r r'
  | _, _ => false

def FD.cr (E : Env) (d : FD) (args : List AV) (obs : List (Nat × Ob)) : Option CR :=
  match un E d.A args with
  | some (x, []) => match sameIds obs d.ins with
    | true => match unObs (look obs) d.ins with
      | some y => some ⟨d.R, d.F (x, y), d.emb⟩
      | none => none
    | false => none
  | _ => none

def envOf : List (Nat × FD) → Env
  | [] => E0
  | (f, d) :: r => ⟨fun f' args obs => match Nat.beq f f' with
    | true => d.cr (envOf r) args obs
    | false => (envOf r).call f' args obs, fun f' => match Nat.beq f f' with
    | true => d.lend
    | false => (envOf r).lend f'⟩

def entry (A : Sh) (ins : List (Nat × OSh)) (x : A.I × OL ins) : St := { fr := zipS (List.range (val A x.1).length) (val A x.1), ob := mkObs ins x.2 }

/-- What is kept at a return: 'res' are the results' variables (a slot, or a cell at an address in a slot). -/
structure RetK where
  acts : List CA
  res : List ResultVar
  sh : Sh
  obs : List (Nat × OSh)
  pins : List (Nat × Nat × Nat)

@[reducible] def RetK.T (k : RetK) : Type := k.sh.I × OL k.obs

def rsVal (tt : Nat → TD) (s : St) : ResultVar → Option AV
  | .tmp i => some (s.slot i)
  | .cell a ty => match s.slot a, tySize tt ty with
    | .box o k, some sz => match s.g o with
      | some (.cells cs) => cut cs k sz
      | _ => none
    | _, _ => none

def rsVals (tt : Nat → TD) (s : St) : List ResultVar → Option (List AV)
  | [] => some []
  | r :: l => match rsVal tt s r, rsVals tt s l with
    | some v, some vs => some (v :: vs)
    | _, _ => none

def RetK.ok (k : RetK) : Bool := k.sh.okIds (k.obs.map (·.1)) && (k.obs.all fun p => p.2.okIds (k.obs.map (·.1))) && k.obs.all fun p => Nat.blt p.1 64 || (k.pins.any fun q => Nat.beq q.2.2 p.1)

/-- The slot (0), or a part of it (j + 1), that held what was lent holds it still. -/
def pinAt (v : AV) (c o : Nat) : Bool :=
  match c with
  | 0 => match v with
    | .box p 0 => Nat.beq p o
    | .arr p => Nat.beq p o
    | _ => false
  | j + 1 => match v with
    | .agg cs => match nth cs j with
      | some (.arr p) => Nat.beq p o
      | _ => false
    | _ => false

def RetK.at (tt : Nat → TD) (k : RetK) (s : St) : Option k.T :=
  match k.pins.all fun q => pinAt ((s.acts k.acts).slot q.1) q.2.1 q.2.2 with
  | true => match rsVals tt (s.acts k.acts) k.res with
    | some vs => match un E0 k.sh vs with
      | some (x, []) => match unObs (s.acts k.acts).g k.obs with
        | some y => some (x, y)
        | none => none
      | _ => none
    | none => none
  | false => none

def keepRet (tt : Nat → TD) (rt : RetK) : Out → Option rt.T
  | .normal s => rt.at tt s
  | .ret s => rt.at tt s
  | .exit _ _ => none
end Go.Proofs.Ytlmbhkmaflhagaa
