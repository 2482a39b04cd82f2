/-
  An abstract evaluator of the model's code on typed data: definitions. What it computes is a tree of tests and calls.
-/
import Derived.WalkKit
namespace Go.Proofs.Ytlmbhkmaflhagaa

/-- Types of data. -/
inductive Ty where
  | int (k : IntKind)
  | bool
  | str
  | slice (t : Ty)
  | pair (a b : Ty)

@[reducible] def Ty.I : Ty → Type
  | .int _ => Int
  | .bool => Bool
  | .str => List UInt8
  | .slice t => List t.I
  | .pair a b => a.I × b.I

def Ty.size : Ty → Nat
  | .pair a b => a.size + b.size
  | _ => 1

def Ty.dflt : (t : Ty) → t.I
  | .int _ => (0 : Int)
  | .bool => false
  | .str => []
  | .slice _ => []
  | .pair a b => (a.dflt, b.dflt)

def Ty.eq? : (a b : Ty) → Option (PLift (a = b))
  | .int j, .int k => if h : j = k then some ⟨by rw [h]⟩ else none
  | .bool, .bool => some ⟨rfl⟩
  | .str, .str => some ⟨rfl⟩
  | .slice a, .slice b => match Ty.eq? a b with
    | some ⟨h⟩ => some ⟨by rw [h]⟩
    | none => none
  | .pair a b, .pair c d => match Ty.eq? a c, Ty.eq? b d with
    | some ⟨h⟩, some ⟨k⟩ => some ⟨by rw [h, k]⟩
    | _, _ => none
  | _, _ => none

def Ty.cast (a b : Ty) (x : a.I) : Option b.I :=
  match Ty.eq? a b with
  | some ⟨h⟩ => some (h ▸ x)
  | none => none

@[reducible] def HL : List Ty → Type
  | [] => Unit
  | t :: ts => t.I × HL ts

/-- Abstract values. 'arr o': the slice over the whole of the owned array o. 'box o k': the address of cell k of the owned block o. 'elt o i s': the address of element i (s cells each) of the owned array o. 'fld o i s k': the address of cell k of that element. 'row o i': row i of the owned rows o. 'relt o i n s': the address of that row's element n (s cells each). 'ptr cs': an address of cells that nobody writes. 'clo': a function value known by what it computes. -/
inductive AV where
  | undef
  | skip
  | dat (t : Ty) (v : t.I)
  | nilsl
  | arr (o : Nat)
  | box (o k : Nat)
  | elt (o i s : Nat)
  | fld (o i s k : Nat)
  | row (o i : Nat)
  | relt (o i n s : Nat)
  | ptr (cs : List AV)
  | fn (f : Nat) (caps : List AV)
  | clo (ts : List Ty) (r : Ty) (p : HL ts → Option r.I)
  | tup (vs : List AV)
  | agg (cs : List AV)

/-- What the activation owns: an array whose element type has number e, or a block of cells. 'txt': the bytes of a text. 'rows': an array of arrays, all of its own; h: a row that was taken out, and as which array it goes. -/
inductive Ob where
  | arr (e : Nat) (t : Ty) (l : List t.I)
  | txt (e : Nat) (l : List Int)
  | rows (e e2 : Nat) (t : Ty) (l : List (List t.I)) (h : Option (Nat × Option Nat))
  | cells (cs : List AV)

/-- Trees of tests and calls. -/
inductive Tr (L : Type) : Type 1 where
  | f
  | l (x : L)
  | t (b : Bool) (x y : Tr L)
  | c (R : Type) (x : Option R) (k : R → Tr L)
  | s (A B : Type) (x : A ⊕ B) (k : A → Tr L) (k' : B → Tr L)

namespace Tr
def bind {L M : Type} : Tr L → (L → Tr M) → Tr M
  | .f, _ => .f
  | .l x, k => k x
  | .t b x y, k => .t b (x.bind k) (y.bind k)
  | .c R x g, k => .c R x fun r => (g r).bind k
  | .s A B x g g', k => .s A B x (fun a => (g a).bind k) fun b => (g' b).bind k
def map {L M : Type} (g : L → M) : Tr L → Tr M
  | .f => .f
  | .l x => .l (g x)
  | .t b x y => .t b (x.map g) (y.map g)
  | .c R x k => .c R x fun r => (k r).map g
  | .s A B x k k' => .s A B x (fun a => (k a).map g) fun b => (k' b).map g
def ev {L : Type} : Tr L → Option L
  | .f => none
  | .l x => some x
  | .t b x y => bif b then x.ev else y.ev
  | .c _ x k => x.bind fun r => (k r).ev
  | .s _ _ x k k' => match x with
    | .inl a => (k a).ev
    | .inr b => (k' b).ev
def opt {L : Type} : Option L → Tr L
  | some x => .l x
  | none => .f
/-- Go on under a condition. -/
def g {L : Type} (b : Bool) (x : Tr L) : Tr L := .t b x .f

@[simp] theorem ev_f {L : Type} : (Tr.f : Tr L).ev = none := rfl
@[simp] theorem ev_l {L : Type} (x : L) : (Tr.l x).ev = some x := rfl
@[simp] theorem ev_t {L : Type} (b : Bool) (x y : Tr L) : (Tr.t b x y).ev = bif b then x.ev else y.ev := rfl
@[simp] theorem ev_c {L : Type} (R : Type) (x : Option R) (k : R → Tr L) : (Tr.c R x k).ev = x.bind fun r => (k r).ev := rfl
theorem ev_bind {L M : Type} (k : L → Tr M) : ∀ x : Tr L, (x.bind k).ev = x.ev.bind fun l => (k l).ev
  | .f => rfl
  | .l _ => rfl
  | .t b x y => by cases b <;> simp [bind, ev_bind k x, ev_bind k y]
  | .c R x g => by cases x <;> simp [bind, ev_bind k]
  | .s A B x g g' => by cases x <;> simp [bind, ev, ev_bind k]
theorem ev_map {L M : Type} (g : L → M) : ∀ x : Tr L, (x.map g).ev = x.ev.map g
  | .f => rfl
  | .l _ => rfl
  | .t b x y => by cases b <;> simp [map, ev_map g x, ev_map g y]
  | .c R x k => by cases x <;> simp [map, ev_map g]
  | .s A B x k k' => by cases x <;> simp [map, ev, ev_map g]
@[simp] theorem ev_opt {L : Type} (x : Option L) : (Tr.opt x).ev = x := by cases x <;> rfl
@[simp] theorem ev_g {L : Type} (b : Bool) (x : Tr L) : (Tr.g b x).ev = bif b then x.ev else none := rfl
end Tr

/-- The result of a call: what is computed, and how it reads: values, and the arrays among them that are new and the caller's own. -/
structure CR where
  R : Type
  x : Option R
  emb : R → List AV × List (Nat × Ob)

/-- Where a function finds what is lent to it: an argument (captured variables come behind the arguments), a cell of what was found before, or a part of an argument. -/
inductive LP where
  | arg (i : Nat)
  | cell (j k : Nat)
  | comp (i j : Nat)

/-- What functions compute: at arguments, and at what is lent to them (by the numbers 64, 65, ..). -/
structure Env where
  call : Nat → List AV → List (Nat × Ob) → Option CR
  lend : Nat → List LP

/-- The types' table. -/
inductive TD where
  | sc (t : Ty)
  | sl (e : Nat) (t : Ty) (b : Nat)
  | st (t : Ty) (fs : List (Nat × Ty))
  | ar (n e : Nat) (te t : Ty)
  | other
  | no

def look {α : Type _} : List (Nat × α) → Nat → Option α
  | [], _ => none
  | (k, x) :: r, i => match Nat.beq k i with
    | true => some x
    | false => look r i

def nth {α : Type} : List α → Nat → Option α
  | [], _ => none
  | x :: _, 0 => some x
  | _ :: r, i + 1 => nth r i

def flat : (t : Ty) → t.I → List AV
  | .pair a b, (x, y) => flat a x ++ flat b y
  | .int k, n => [.dat (.int k) n]
  | .bool, b => [.dat .bool b]
  | .str, s => [.dat .str s]
  | .slice t, l => [.dat (.slice t) l]

def zeroAV : Ty → List AV
  | .pair a b => zeroAV a ++ zeroAV b
  | .int k => [.dat (.int k) (0 : Int)]
  | .bool => [.dat .bool false]
  | .str => [.dat .str ([] : List UInt8)]
  | .slice _ => [.nilsl]

/-- A value of one cell, as data of type t. -/
def get1 (t : Ty) : AV → Option t.I
  | .dat t' v => Ty.cast t' t v
  | .nilsl => match t with
    | .slice _ => some []
    | _ => none
  | _ => none

def unflat : (t : Ty) → List AV → Option t.I
  | .pair a b, cs => match unflat a (cs.take a.size), unflat b (cs.drop a.size) with
    | some x, some y => some (x, y)
    | _, _ => none
  | t, cs => match cs with
    | [v] => get1 t v
    | _ => none

def cellsOf : AV → Option (List AV)
  | .agg cs => some cs
  | .undef => none
  | .skip => none
  | .tup _ => none
  | v => some [v]

/-- A value of a type, as one abstract value: data of one cell, or an aggregate. -/
def inj (t : Ty) (v : t.I) : AV :=
  match flat t v with
  | [x] => x
  | cs => .agg cs

def getT (t : Ty) (v : AV) : Option t.I := (cellsOf v).bind (unflat t)

/-- The place of a number in a list. -/
def ixOf : List Nat → Nat → Nat → Option Nat
  | [], _, _ => none
  | x :: r, o, i => match Nat.beq x o with
    | true => some i
    | false => ixOf r o (i + 1)

/-- How a value reads to a callee or behind the return: arrays of the activation's own as data; what is lent (the numbers of ρ) keeps a number. -/
def ext0 (ρ : List Nat) (g : Nat → Option Ob) : AV → AV
  | .dat t v => .dat t v
  | .nilsl => .nilsl
  | .arr o => match ixOf ρ o 64 with
    | some i => .arr i
    | none => match g o with
      | some (.arr _ t l) => .dat (.slice t) l
      | some (.rows _ _ t l none) => .dat (.slice (.slice t)) l
      | _ => .undef
  | .row o i => match ixOf ρ o 64 with
    | some _ => .undef
    | none => match g o with
      | some (.rows _ _ t l none) => .dat (.slice t) (l.getD i [])
      | _ => .undef
  | .clo ts r p => .clo ts r p
  | .fn f [] => .fn f []
  | _ => .undef
def ext1 (ρ : List Nat) (g : Nat → Option Ob) : AV → AV
  | .agg cs => .agg (cs.map (ext0 ρ g))
  | v => ext0 ρ g v
/-- A captured variable, as a callee finds it. -/
def extC (ρ : List Nat) (g : Nat → Option Ob) (p : Bool) : AV → AV
  | .box o k => match ixOf ρ o 64 with
    | some i => .box i k
    | none => match g o with
      | some (.cells cs) => if k < cs.length then .ptr ((cs.map (ext0 ρ g)).drop k) else .undef
      | _ => .undef
  | .ptr cs => match p with
    | true => .ptr (cs.map (ext0 ρ g))
    | false => .undef
  | _ => .undef
def extA (ρ : List Nat) (g : Nat → Option Ob) : AV → AV
  | .fn f caps => .fn f (caps.map (extC ρ g true))
  | .box o k => match ixOf ρ o 64 with
    | some i => .box i k
    | none => .undef
  | v => ext1 ρ g v
/-- A cell of what is lent. -/
def extL (ρ : List Nat) (g : Nat → Option Ob) : AV → AV
  | .fn f caps => .fn f (caps.map (extC ρ g false))
  | .box o k => match ixOf ρ o 64 with
    | some i => .box i k
    | none => .undef
  | .arr o => match ixOf ρ o 64 with
    | some i => .arr i
    | none => .undef
  | .dat t v => .dat t v
  | .nilsl => .nilsl
  | .clo ts r p => .clo ts r p
  | _ => .undef
def extOb (ρ : List Nat) (g : Nat → Option Ob) : Ob → Ob
  | .cells cs => .cells (cs.map (extL ρ g))
  | .rows e e2 t l h => .rows e e2 t l (h.map fun p => (p.1, none))
  | x => x

/-- What is lent: the numbers of the caller. -/
def lendIds (g : Nat → Option Ob) (as : List AV) : List LP → List Nat → Option (List Nat)
  | [], acc => some acc
  | .arg i :: r, acc => match nth as i with
    | some (.box o 0) => lendIds g as r (acc ++ [o])
    | some (.arr o) => lendIds g as r (acc ++ [o])
    | _ => none
  | .cell j k :: r, acc => match nth acc j with
    | some p => match g p with
      | some (.cells cs) => match nth cs k with
        | some (.box o 0) => lendIds g as r (acc ++ [o])
        | some (.arr o) => lendIds g as r (acc ++ [o])
        | _ => none
      | _ => none
    | none => none
  | .comp i j :: r, acc => match nth as i with
    | some (.agg cs) => match nth cs j with
      | some (.arr o) => lendIds g as r (acc ++ [o])
      | _ => none
    | _ => none
/-- What is lent, as the callee finds it. -/
def insOf (ρ : List Nat) (g : Nat → Option Ob) : List Nat → Nat → List (Nat × Ob)
  | [], _ => []
  | o :: r, i => match g o with
    | some x => (i, extOb ρ g x) :: insOf ρ g r (i + 1)
    | none => insOf ρ g r (i + 1)

def isArr0 (ρ : List Nat) : AV → Bool
  | .arr o => match ixOf ρ o 64 with
    | some _ => false
    | none => true
  | .row _ _ => true
  | _ => false
def isArr (ρ : List Nat) : AV → Bool
  | .agg cs => cs.any (isArr0 ρ)
  | v => isArr0 ρ v
/-- Does the value, or a part of it, lie in memory? -/
def deepT : Ty → Bool
  | .slice _ => true
  | .pair a b => deepT a || deepT b
  | _ => false
def deep0 : AV → Bool
  | .dat t _ => deepT t
  | .arr _ => false
  | .nilsl => false
  | _ => true
def deep1 : AV → Bool
  | .agg cs => cs.any deep0
  | v => deep0 v

/-- The callee's numbers among the caller's: d * 64 and on for what is new, ρ for what was lent. -/
def rn (ρ : List Nat) (d o : Nat) : Nat := if o < 64 then d * 64 + o else (nth ρ (o - 64)).getD 0
def ren0 (ρ : List Nat) (d : Nat) : AV → AV
  | .arr o => .arr (rn ρ d o)
  | v => v
def ren1 (ρ : List Nat) (d : Nat) : AV → AV
  | .agg cs => .agg (cs.map (ren0 ρ d))
  | v => ren0 ρ d v
/-- A captured variable that a lent cell's function holds. -/
def renC (ρ : List Nat) (d : Nat) : AV → AV
  | .box o k => if o < 64 then .undef else .box (rn ρ d o) k
  | _ => .undef
def renL (ρ : List Nat) (d : Nat) : AV → AV
  | .fn f caps => .fn f (caps.map (renC ρ d))
  | .box o k => if o < 64 then .undef else .box (rn ρ d o) k
  | .arr o => .arr (rn ρ d o)
  | .dat t v => .dat t v
  | .nilsl => .nilsl
  | _ => .undef
def renOb (ρ : List Nat) (d : Nat) : Ob → Ob
  | .cells cs => .cells (cs.map (renL ρ d))
  | .rows e e2 t l h => .rows e e2 t l (h.map fun p => (p.1, none))
  | x => x

abbrev QR := AV × List (Nat × Ob)

def inR (n : Int) (len : Nat) : Bool := decide (0 ≤ n) && decide (n < (len : Int))
def bq (b : Bool) : Tr QR := .l (.dat .bool b, [])
def iq (k : IntKind) (n : Int) : Tr QR := .l (.dat (.int k) n, [])
def vq (v : AV) : Tr QR := .l (v, [])

/-- Bytes in a string as the model compares them. -/
def sless : List UInt8 → List UInt8 → Bool := Op.bytesLess

def abin (tt : Nat → TD) (op : BinOp) (ty : Nat) : AV → AV → Tr QR
  | .dat (.int k) a, .dat (.int k') b =>
    match op with
    | .shl => .g (decide ((0 : Int) ≤ b)) (iq k (k.wrap ((a : Int) * 2 ^ (min (b : Int).toNat k.bits))))
    | .shr => .g (decide ((0 : Int) ≤ b)) (iq k ((a : Int).fdiv (2 ^ (min (b : Int).toNat k.bits))))
    | _ => if k = k' then
        match op with
        | .add => iq k (k.wrap ((a : Int) + b))
        | .sub => iq k (k.wrap ((a : Int) - b))
        | .mul => iq k (k.wrap ((a : Int) * b))
        | .quo => .g (!decide ((b : Int) = 0)) (iq k (k.wrap ((a : Int).tdiv b)))
        | .rem => .g (!decide ((b : Int) = 0)) (iq k ((a : Int).tmod b))
        | .and => iq k (k.wrap (BitVec.ofInt k.bits a &&& BitVec.ofInt k.bits b).toNat)
        | .or => iq k (k.wrap (BitVec.ofInt k.bits a ||| BitVec.ofInt k.bits b).toNat)
        | .xor => iq k (k.wrap (BitVec.ofInt k.bits a ^^^ BitVec.ofInt k.bits b).toNat)
        | .andNot => iq k (k.wrap (BitVec.ofInt k.bits a &&& ~~~BitVec.ofInt k.bits b).toNat)
        | .eql => bq ((a : Int) == b)
        | .neq => bq ((a : Int) != b)
        | .lss => bq (decide ((a : Int) < b))
        | .leq => bq (decide ((a : Int) ≤ b))
        | .gtr => bq (decide ((b : Int) < a))
        | .geq => bq (decide ((b : Int) ≤ a))
        | _ => .f
      else .f
  | .dat .bool a, .dat .bool b =>
    match tt ty with
    | .sc .bool => match op with
      | .eql => bq ((a : Bool) == b)
      | .neq => bq (!((a : Bool) == b))
      | _ => .f
    | _ => .f
  | .dat .str a, .dat .str b =>
    match op with
    | .add => .g (decide (List.length (α := UInt8) a + List.length (α := UInt8) b ≤ 9223372036854775807)) (vq (.dat .str ((a : List UInt8) ++ b)))
    | .eql => bq ((a : List UInt8) == b)
    | .neq => bq (!((a : List UInt8) == b))
    | .lss => bq (sless a b)
    | .leq => bq (sless a b || (a : List UInt8) == b)
    | .gtr => bq (!(sless a b || (a : List UInt8) == b))
    | .geq => bq (!sless a b)
    | _ => .f
  | _, _ => .f

def aun (op : UnOp) : AV → Tr QR
  | .dat .bool b => match op with
    | .not => bq (!b)
    | _ => .f
  | .dat (.int k) n => match op with
    | .neg => iq k (k.wrap (0 - (n : Int)))
    | _ => .f
  | _ => .f

def tySize (tt : Nat → TD) (ty : Nat) : Option (Nat × Bool) :=
  match tt ty with
  | .sc t => some (t.size, false)
  | .sl _ _ _ => some (1, false)
  | .st t _ => some (t.size, true)
  | .ar _ _ _ t => some (t.size, true)
  | .other => some (1, false)
  | .no => none

/-- The part of n cells from k on: one cell as it is, or an aggregate. -/
def cut (cs : List AV) (k : Nat) (sz : Nat × Bool) : Option AV :=
  match sz.2 with
  | true => if k + sz.1 ≤ cs.length then some (.agg ((cs.drop k).take sz.1)) else none
  | false => nth cs k

def flatPrefix : List (Nat × Ty) → Nat → Nat → Option (Nat × Nat)
  | [], _, _ => none
  | (ty, _) :: _, o, 0 => some (ty, o)
  | (_, t) :: r, o, i + 1 => flatPrefix r (o + t.size) i

/-- Field i of a struct: its type's number, its first cell. -/
def fieldOf (tt : Nat → TD) (ty i : Nat) : Option (Nat × Nat) :=
  match tt ty with
  | .st _ fs => flatPrefix fs 0 i
  | _ => none

def aload (tt : Nat → TD) (g : Nat → Option Ob) (ty : Nat) (a : AV) : Tr QR :=
  match tySize tt ty, a with
  | some sz, .box o k => match g o with
    | some (.cells cs) => (Tr.opt (cut cs k sz)).bind vq
    | _ => .f
  | some sz, .ptr cs => (Tr.opt (cut cs 0 sz)).bind vq
  | some sz, .elt o i s => match g o with
    | some (.arr _ t l) => if sz.1 = t.size ∧ s = t.size then .g (decide (i < l.length)) ((Tr.opt (cut (flat t (l.getD i t.dflt)) 0 sz)).bind vq) else .f
    | some (.txt _ l) => if sz.1 = 1 ∧ sz.2 = false ∧ s = 1 then .g (decide (i < l.length)) (iq .u8 (l.getD i 0)) else .f
    | some (.rows _ _ _ l none) => if sz.1 = 1 ∧ sz.2 = false ∧ s = 1 then .g (decide (i < l.length)) (vq (.row o i)) else .f
    | _ => .f
  | some sz, .fld o i s k => match g o with
    | some (.arr _ t l) => if s = t.size then .g (decide (i < l.length)) ((Tr.opt (cut (flat t (l.getD i t.dflt)) k sz)).bind vq) else .f
    | _ => .f
  | some sz, .relt o i n s => match g o with
    | some (.rows _ _ t l none) => if sz.1 = t.size ∧ s = t.size then .g (decide (n < (l.getD i []).length)) ((Tr.opt (cut (flat t ((l.getD i []).getD n t.dflt)) 0 sz)).bind vq) else .f
    | _ => .f
  | _, _ => .f

def aindex (tt : Nat → TD) (g : Nat → Option Ob) (ty : Nat) : AV → AV → Tr QR
  | .dat (.slice t) l, .dat (.int _) n => match tt ty with
    | .sl _ t' _ => if t.size = t'.size then .g (inR n l.length) (vq (.ptr (flat t (l.getD (n : Int).toNat t.dflt)))) else .f
    | _ => .f
  | .arr o, .dat (.int _) n => match tt ty, g o with
    | .sl _ t' _, some (.arr _ t l) => if t.size = t'.size then .g (inR n l.length) (vq (.elt o (n : Int).toNat t.size)) else .f
    | .sl _ t' _, some (.txt _ l) => if t'.size = 1 then .g (inR n l.length) (vq (.elt o (n : Int).toNat 1)) else .f
    | .sl _ t' _, some (.rows _ _ _ l _) => if t'.size = 1 then .g (inR n l.length) (vq (.elt o (n : Int).toNat 1)) else .f
    | _, _ => .f
  | .row o i, .dat (.int _) n => match tt ty, g o with
    | .sl _ t' _, some (.rows _ _ t l none) => if t.size = t'.size then .g (inR n (l.getD i []).length) (vq (.relt o i (n : Int).toNat t.size)) else .f
    | _, _ => .f
  | .box o k, .dat (.int _) n => match tt ty with
    | .ar m _ te _ => .g (inR n m) (vq (.box o (k + (n : Int).toNat * te.size)))
    | _ => .f
  | .ptr cs, .dat (.int _) n => match tt ty with
    | .ar m _ te _ => if (n : Int).toNat * te.size < cs.length then .g (inR n m) (vq (.ptr (cs.drop ((n : Int).toNat * te.size)))) else .f
    | _ => .f
  | _, _ => .f

def aindexV (tt : Nat → TD) (ty : Nat) : AV → AV → Tr QR
  | .dat .str s, .dat (.int _) n => match tt ty with
    | .sc .str => .g (inR n (List.length (α := UInt8) s)) (iq .u8 ((List.getD (α := UInt8) s (n : Int).toNat 0).toNat : Int))
    | _ => .f
  | .agg cs, .dat (.int _) n => match tt ty with
    | .ar m e te _ => match tySize tt e with
      | some sz => if sz.1 = te.size then .g (inR n m) ((Tr.opt (cut cs ((n : Int).toNat * te.size) sz)).bind vq) else .f
      | none => .f
    | _ => .f
  | _, _ => .f

def alen (tt : Nat → TD) (g : Nat → Option Ob) (ty : Nat) : AV → Tr QR
  | .dat (.slice _) l => match tt ty with
    | .sl _ _ _ => iq .i64 (l.length : Int)
    | _ => .f
  | .nilsl => match tt ty with
    | .sl _ _ _ => iq .i64 (0 : Int)
    | _ => .f
  | .arr o => match tt ty, g o with
    | .sl _ _ _, some (.arr _ _ l) => iq .i64 (l.length : Int)
    | .sl _ _ _, some (.txt _ l) => iq .i64 (l.length : Int)
    | .sl _ _ _, some (.rows _ _ _ l _) => iq .i64 (l.length : Int)
    | _, _ => .f
  | .row o i => match tt ty, g o with
    | .sl _ _ _, some (.rows _ _ _ l none) => iq .i64 ((l.getD i []).length : Int)
    | _, _ => .f
  | .dat .str s => match tt ty with
    | .sc .str => iq .i64 (List.length (α := UInt8) s : Int)
    | _ => .f
  | _ => .f

/-- An argument as data. -/
def getA (t : Ty) : AV → Option t.I
  | .agg cs => if t.size = 1 then none else unflat t cs
  | v => if t.size = 1 then get1 t v else none

def hlOf : (ts : List Ty) → List AV → Option (HL ts)
  | [], [] => some ()
  | t :: ts, v :: vs => match getA t v, hlOf ts vs with
    | some x, some h => some (x, h)
    | _, _ => none
  | _, _ => none
def hlAV : (ts : List Ty) → HL ts → List AV
  | [], _ => []
  | t :: ts, (x, h) => inj t x :: hlAV ts h

/-- Values as a call may hand them back. -/
def res0 : AV → Bool
  | .dat _ _ => true
  | .nilsl => true
  | .arr _ => true
  | .undef => true
  | _ => false
def res1 : AV → Bool
  | .agg cs => cs.all res0
  | v => res0 v
/-- Does what a lent cell holds, or a part of it, lie in memory that is not lent? -/
def deepL : AV → Bool
  | .dat t _ => deepT t
  | _ => false
def deepOb : Ob → Bool
  | .arr _ t _ => deepT t
  | .txt _ _ => false
  | .rows _ _ t _ _ => deepT t
  | .cells cs => cs.any deepL
/-- What a call hands back: values, arrays that are new, and all that was lent. -/
def okRes (n : Nat) (r : List AV × List (Nat × Ob)) : Bool :=
  r.2.all (fun p => decide (p.1 < 64 + n) && match p.2 with | .arr _ _ _ => true | .txt _ _ => false | .rows _ _ _ _ h => h.isNone | .cells _ => decide (64 ≤ p.1)) && decide (r.2.map (·.1)).Nodup && r.1.all res1 && (List.range n).all (fun i => (r.2.map (·.1)).contains (64 + i))

/-- Does a captured variable hold an array of the activation's own? -/
def capArr (ρ : List Nat) (g : Nat → Option Ob) : AV → Bool
  | .box o _ => match ixOf ρ o 64 with
    | some _ => false
    | none => match g o with
      | some (.cells cs) => cs.any (isArr0 ρ)
      | _ => false
  | _ => false

def adopt (ρ : List Nat) (d : Nat) (res : List AV × List (Nat × Ob)) : QR × List (Nat × Ob) :=
  ((match res.1 with
    | [v] => ren1 ρ d v
    | vs => .tup (vs.map (ren1 ρ d)), (res.2.filter fun p => decide (p.1 < 64)).map fun p => (d * 64 + p.1, p.2)), (res.2.filter fun p => decide (64 ≤ p.1)).map fun p => (rn ρ d p.1, renOb ρ d p.2))

/-- Is what the value names known? -/
def rs0 (g : Nat → Option Ob) : AV → Bool
  | .arr o => (g o).isSome
  | .row o _ => (g o).isSome
  | _ => true
def rs1 (g : Nat → Option Ob) : AV → Bool
  | .agg cs => cs.all (rs0 g)
  | v => rs0 g v
def rsC (g : Nat → Option Ob) : AV → Bool
  | .box o _ => match g o with
    | some (.cells cs) => cs.all (rs0 g)
    | _ => false
  | .ptr cs => cs.all (rs0 g)
  | _ => true
def rsA (g : Nat → Option Ob) : AV → Bool
  | .fn _ caps => caps.all (rsC g)
  | v => rs1 g v

def lentOK (g : Nat → Option Ob) (o : Nat) : Bool :=
  match g o with
  | some (.cells cs) => cs.all (rsA g)
  | some (.arr _ _ _) => true
  | some (.txt _ _) => false
  | some (.rows _ _ _ _ h) => h.isNone
  | none => false

/-- A call. A result may not lie in arrays that may be written. -/
def acall (E : Env) (g : Nat → Option Ob) (d : Nat) (h : AV) (args : List AV) : Tr (QR × List (Nat × Ob)) :=
  match h with
  | .fn f caps => match lendIds g (args ++ caps) (E.lend f) [] with
    | some ρ => if args.all (rsA g) && caps.all (rsC g) && decide ρ.Nodup && ρ.all (lentOK g) then
        match E.call f (args.map (extA ρ g) ++ caps.map (extC ρ g false)) (insOf ρ g ρ 64) with
        | some cr => .c cr.R cr.x fun r =>
            .g (okRes ρ.length (cr.emb r) && (!(args.any (isArr ρ) || caps.any (capArr ρ g)) || !((cr.emb r).1.any deep1 || (cr.emb r).2.any fun p => deepOb p.2))) (.l (adopt ρ d (cr.emb r)))
        | none => .f
      else .f
    | none => .f
  | .clo ts r p => if args.all (rs1 g) then
      match hlOf ts (args.map (ext1 [] g)) with
      | some hl => .c r.I (p hl) fun y => .l ((inj r y, []), [])
      | none => .f
    else .f
  | _ => .f

end Go.Proofs.Ytlmbhkmaflhagaa
