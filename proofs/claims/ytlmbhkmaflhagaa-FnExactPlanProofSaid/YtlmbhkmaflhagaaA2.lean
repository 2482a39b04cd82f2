/-
  An abstract evaluator of the model's code on typed data: operations, regions, code, functions.
-/
import Derived.Test.YtlmbhkmaflhagaaA1
namespace Go.Proofs.Ytlmbhkmaflhagaa

structure St where
  fr : List (Nat × AV)
  ob : List (Nat × Ob)

def St.g (s : St) : Nat → Option Ob := look s.ob
def St.slot (s : St) (i : Nat) : AV := (look s.fr i).getD .undef

def cval : Value → AV
  | .bool b => .dat .bool b
  | .int k n => .dat (.int k) n
  | .string s => .dat .str s.data.toList
  | .slice none 0 0 => .nilsl
  | _ => .undef

def opd (fr : Nat → AV) : Operand → AV
  | .tmp t => fr t
  | .const v => cval v
  | .func f => .fn f []
  | .global _ => .undef

def abounds (len : Nat) : Option AV → Option AV → Option (Bool × Nat × Nat)
  | none, none => some (true, 0, len)
  | none, some (.dat (.int _) h) => some (decide ((0 : Int) ≤ h) && decide ((h : Int) ≤ (len : Int)), 0, (h : Int).toNat)
  | some (.dat (.int _) l), none => some (decide ((0 : Int) ≤ l) && decide ((l : Int) ≤ (len : Int)), (l : Int).toNat, len)
  | some (.dat (.int _) l), some (.dat (.int _) h) => some (decide ((0 : Int) ≤ l) && decide ((l : Int) ≤ (h : Int)) && decide ((h : Int) ≤ (len : Int)), (l : Int).toNat, (h : Int).toNat)
  | _, _ => none

def aslice (tt : Nat → TD) (ty : Nat) (x : AV) (lo hi : Option AV) : Tr QR :=
  match x, tt ty with
  | .dat (.slice t) l, .sl _ t' _ => if t.size = t'.size then match abounds l.length lo hi with
      | some (b, i, j) => .g b (vq (.dat (.slice t) ((l.take j).drop i)))
      | none => .f
    else .f
  | .dat .str s, .sc .str => match abounds (List.length (α := UInt8) s) lo hi with
    | some (b, i, j) => .g b (vq (.dat .str ((List.take (α := UInt8) j s).drop i)))
    | none => .f
  | .nilsl, .sl _ _ _ => match abounds 0 lo hi with
    | some (b, _, _) => .g b (vq .nilsl)
    | none => .f
  | _, _ => .f

/-- A capacity, where it is known. -/
def acap (tt : Nat → TD) (ty : Nat) : AV → Tr QR
  | .nilsl => match tt ty with
    | .sl _ _ _ => iq .i64 (0 : Int)
    | _ => .f
  | _ => .f

def putAt {α : Type} : List α → Nat → α → List α
  | [], _, _ => []
  | _ :: r, 0, y => y :: r
  | x :: r, i + 1, y => x :: putAt r i y
def putCells (cs : List AV) (k : Nat) : List AV → List AV
  | [] => cs
  | v :: r => putCells (putAt cs k v) (k + 1) r

/-- The parts of an aggregate, each put at its place. -/
def afill (place : Nat → Option (Nat × Nat)) : List (Nat × AV) → List AV → Option (List AV)
  | [], cs => some cs
  | (i, v) :: r, cs => match place i, cellsOf v with
    | some (off, n), some vs => if vs.length = n ∧ off + n ≤ cs.length then afill place r (putCells cs off vs) else none
    | _, _ => none

def placeF : List (Nat × Ty) → Nat → Nat → Option (Nat × Nat)
  | [], _, _ => none
  | (_, t) :: _, o, 0 => some (o, t.size)
  | (_, t) :: r, o, i + 1 => placeF r (o + t.size) i

def abuild (tt : Nat → TD) (ty : Nat) (ps : List (Nat × AV)) : Tr QR :=
  match tt ty with
  | .st t fs => (Tr.opt (afill (placeF fs 0) ps (zeroAV t))).bind fun cs => vq (.agg cs)
  | .ar _ _ te t => (Tr.opt (afill (fun i => some (i * te.size, te.size)) ps (zeroAV t))).bind fun cs => vq (.agg cs)
  | _ => .f

/-- Cells read as the elements of a list. -/
def chunks (t : Ty) : Nat → List AV → Option (List t.I)
  | 0, [] => some []
  | 0, _ => none
  | n + 1, cs => match unflat t (cs.take t.size), chunks t n (cs.drop t.size) with
    | some x, some l => some (x :: l)
    | _, _ => none

def abuildSlice (tt : Nat → TD) (d : Nat) (ty n : Nat) (ps : List (Nat × AV)) : Tr QR :=
  match tt ty with
  | .sl e t _ => if n ≤ 4096 ∧ t.size ≤ 4096 then
      (Tr.opt (afill (fun i => some (i * t.size, t.size)) ps (List.flatMap (flat t) (List.replicate n t.dflt)))).bind fun cs => (Tr.opt (chunks t n cs)).bind fun l => .l (.arr d, [(d, .arr e t l)]) else .f
  | _ => .f

/-- A list of one array that is owned: rows. -/
def abuildS (tt : Nat → TD) (g : Nat → Option Ob) (d : Nat) (ty n : Nat) (ps : List (Nat × AV)) : Tr QR :=
  match tt ty, n, ps with
  | .sl e te _, 1, [(0, .arr p)] => match tt e, g p with
    | .sl e2 t _, some (.arr e3 t3 _) => if te.size = 1 ∧ e3 = e2 ∧ (Ty.eq? t3 t).isSome = true then .l (.arr d, [(d, .rows e e2 t [[]] (some (0, some p)))]) else .f
    | _, _ => .f
  | _, _, _ => abuildSlice tt d ty n ps

def amake (tt : Nat → TD) (d : Nat) (ty : Nat) : AV → AV → Tr QR
  | .dat (.int _) l, .dat (.int _) c => match tt ty with
    | .sl e t b => .g (decide ((0 : Int) ≤ l) && decide ((l : Int) ≤ c) && decide ((b : Int) * c ≤ 281474976710656)) (if 0 < b then .l (.arr d, [(d, .arr e t (List.replicate (l : Int).toNat t.dflt))]) else .f)
    | _ => .f
  | _, _ => .f

def afield (tt : Nat → TD) (ty i : Nat) : AV → Tr QR
  | .agg cs => match fieldOf tt ty i with
    | some (ft, off) => match tySize tt ft with
      | some sz => (Tr.opt (cut cs off sz)).bind vq
      | none => .f
    | none => .f
  | _ => .f

def afieldA (tt : Nat → TD) (ty i : Nat) : AV → Tr QR
  | .box o k => match fieldOf tt ty i with
    | some (_, off) => vq (.box o (k + off))
    | none => .f
  | .ptr cs => match fieldOf tt ty i with
    | some (_, off) => if off < cs.length then vq (.ptr (cs.drop off)) else .f
    | none => .f
  | .elt o j z => match fieldOf tt ty i with
    | some (_, off) => vq (.fld o j z off)
    | none => .f
  | _ => .f

/-- The elements that an append appends. -/
def srcOf (g : Nat → Option Ob) (t : Ty) : AV → Option (List t.I)
  | .dat (.slice t') l => Ty.cast (.slice t') (.slice t) l
  | .nilsl => some []
  | .arr o => match g o with
    | some (.arr _ t' l) => Ty.cast (.slice t') (.slice t) l
    | some (.txt _ l) => Ty.cast (.slice (.int .u8)) (.slice t) l
    | _ => none
  | .row o i => match g o with
    | some (.rows _ _ t' l none) => Ty.cast (.slice t') (.slice t) (l.getD i [])
    | _ => none
  | _ => none

/-- Bytes as a text holds them. -/
def bytesOf (l : List Int) : List UInt8 := l.map fun n => UInt8.ofNat n.toNat
def aconv (tt : Nat → TD) (g : Nat → Option Ob) (s d : Nat) : AV → Tr QR
  | .dat (.int _) n => match tt s, tt d with
    | .sc (.int _), .sc (.int k) => iq k (k.wrap n)
    | _, _ => .f
  | x => match srcOf g (.int .u8) x, tt s, tt d with
    | some l, .sl e _ _, .sc .str => match tt e with
      | .sc (.int .u8) => vq (.dat .str (bytesOf l))
      | _ => .f
    | _, _, _ => .f

/-- A text as bytes: a row of its own. -/
def aconvB (tt : Nat → TD) (g : Nat → Option Ob) (dst s d : Nat) (x : AV) : Tr QR :=
  match x with
  | .dat .str b => match tt s, tt d with
    | .sc .str, .sl e _ _ => match tt e with
      | .sc (.int .u8) => .l (.arr dst, [(dst, .txt e (List.map (α := UInt8) (fun c => ((c.toNat : Nat) : Int)) b))])
      | _ => .f
    | _, _ => .f
  | x => aconv tt g s d x

def apick : AV → AV → AV → Tr QR
  | .dat .bool b, x, y => .t b (vq x) (vq y)
  | _, _, _ => .f

def zeroOf (tt : Nat → TD) (ty : Nat) : Option (List AV) :=
  match tt ty with
  | .sc t => some (zeroAV t)
  | .sl _ _ _ => some [.nilsl]
  | .st t _ => some (zeroAV t)
  | .ar _ _ _ t => some (zeroAV t)
  | .other => some [.undef]
  | .no => none

def aminmax (mx : Bool) : List AV → Tr QR
  | [.dat (.int k) a, .dat (.int k') b] => if k = k' then iq k (if mx then (if (a : Int) < b then b else a) else (if (b : Int) < a then b else a)) else .f
  | _ => .f

/-- Are the parts of two aggregates equal? -/
def aeqs (tt : Nat → TD) : List (Nat × Ty) → List AV → List AV → Option Bool
  | [], [], [] => some true
  | (ty, _) :: fs, .dat (.int k) a :: r, .dat (.int k') b :: r' => match tt ty with
    | .sc (.int _) => if k = k' then match aeqs tt fs r r' with
        | some z => some (((a : Int) == b) && z)
        | none => none
      else none
    | _ => none
  | (ty, _) :: fs, .dat .bool a :: r, .dat .bool b :: r' => match tt ty with
    | .sc .bool => match aeqs tt fs r r' with
      | some z => some (((a : Bool) == b) && z)
      | none => none
    | _ => none
  | (ty, _) :: fs, .dat .str a :: r, .dat .str b :: r' => match tt ty with
    | .sc .str => match aeqs tt fs r r' with
      | some z => some (((a : List UInt8) == b) && z)
      | none => none
    | _ => none
  | _, _, _ => none
def scTy : Ty → Bool
  | .int _ => true
  | .bool => true
  | .str => true
  | _ => false
def scFs (fs : List (Nat × Ty)) : Bool := fs.all fun p => scTy p.2
def abinA (tt : Nat → TD) (op : BinOp) (ty : Nat) (x y : AV) : Tr QR :=
  match x, y with
  | .agg a, .agg b => match tt ty with
    | .st _ fs => match scFs fs with
      | true => match aeqs tt fs a b with
        | some z => match op with
          | .eql => bq z
          | .neq => bq (!z)
          | _ => .f
        | none => .f
      | false => .f
    | _ => .f
  | x, y => abin tt op ty x y

/-- Operations that write nothing that was there. -/
def aq (tt : Nat → TD) (g : Nat → Option Ob) (f : Operand → AV) (o : Oper) : Tr QR :=
  match o.op, o.dst with
  | .move x, some _ => vq (f x)
  | .assign x, some _ => vq (f x)
  | .pick c a b, some _ => apick (f c) (f a) (f b)
  | .binOp op ty x y _, some _ => abinA tt op ty (f x) (f y)
  | .unOp op _ x, some _ => aun op (f x)
  | .convert s d x, some dst => aconvB tt g dst s d (f x)
  | .box _ x, some d => (Tr.opt (cellsOf (f x))).bind fun cs => .l (.box d 0, [(d, .cells cs)])
  | .alloc e, some d => (Tr.opt (zeroOf tt e)).bind fun cs => .l (.box d 0, [(d, .cells cs)])
  | .load ty x, some _ => aload tt g ty (f x)
  | .nilCheck x, some _ => match f x with
    | .box o k => vq (.box o k)
    | .ptr cs => vq (.ptr cs)
    | _ => .f
  | .fieldAddr ty x i, some _ => afieldA tt ty i (f x)
  | .field ty x i, some _ => afield tt ty i (f x)
  | .indexAddr ty x i, some _ => aindex tt g ty (f x) (f i)
  | .index ty x i, some _ => aindexV tt ty (f x) (f i)
  | .extract x i, some _ => match f x with
    | .tup vs => (Tr.opt (nth vs i)).bind vq
    | _ => .f
  | .slice ty x lo hi none, some _ => aslice tt ty (f x) (lo.map f) (hi.map f)
  | .build ty ps, some _ => abuild tt ty (ps.toList.map fun p => (p.1, f p.2))
  | .buildSlice ty n ps, some d => abuildS tt g d ty n (ps.toList.map fun p => (p.1, f p.2))
  | .makeSlice ty l c, some d => amake tt d ty (f l) (f c)
  | .makeFunc (.func k) first caps, some _ => if first.size = 0 then vq (.fn k (caps.toList.map f)) else .f
  | .call { callee := .builtin .len, args := as, argTypes := ts }, some _ => match as.toList, ts.toList with
    | [x], [ty] => alen tt g ty (f x)
    | _, _ => .f
  | .call { callee := .builtin .cap, args := as, argTypes := ts }, some _ => match as.toList, ts.toList with
    | [x], [ty] => acap tt ty (f x)
    | _, _ => .f
  | .call { callee := .builtin .min, args := as, .. }, some _ => aminmax false (as.toList.map f)
  | .call { callee := .builtin .max, args := as, .. }, some _ => aminmax true (as.toList.map f)
  | _, _ => .f

/-- What an array that is given up reads as. -/
def frzL (o : Nat) (d : AV) : AV → AV
  | .arr p => match Nat.beq p o with
    | true => d
    | false => .arr p
  | .row p i => match Nat.beq p o with
    | true => .undef
    | false => .row p i
  | .relt p i n s => match Nat.beq p o with
    | true => .undef
    | false => .relt p i n s
  | .elt p i s => match Nat.beq p o with
    | true => .undef
    | false => .elt p i s
  | .fld p i s k => match Nat.beq p o with
    | true => .undef
    | false => .fld p i s k
  | .box p k => match Nat.beq p o with
    | true => .undef
    | false => .box p k
  | .dat t v => .dat t v
  | .nilsl => .nilsl
  | .clo ts r p => .clo ts r p
  | .fn f [] => .fn f []
  | _ => .undef
def frzC (o : Nat) (d : AV) : AV → AV
  | .ptr cs => .ptr (cs.map (frzL o d))
  | v => frzL o d v
def frz1 (o : Nat) (d : AV) : AV → AV
  | .agg cs => .agg (cs.map (frzL o d))
  | .fn f caps => .fn f (caps.map (frzC o d))
  | v => frzC o d v
def frz2 (o : Nat) (d : AV) : AV → AV
  | .tup vs => .tup (vs.map (frz1 o d))
  | v => frz1 o d v
/-- A row that was taken out as o goes as o no more. -/
def unl (o : Nat) : Option (Nat × Option Nat) → Option (Nat × Option Nat)
  | some (i, some d) => match Nat.beq d o with
    | true => some (i, none)
    | false => some (i, some d)
  | h => h
def frzOb (o : Nat) (d : AV) : Ob → Ob
  | .rows e e2 t l h => .rows e e2 t l (unl o h)
  | .cells cs => .cells (cs.map (frz1 o d))
  | x => x
def St.swap (s : St) (o : Nat) (d : AV) (w : List (Nat × Ob)) : St :=
  { fr := s.fr.map fun p => (p.1, frz2 o d p.2), ob := w ++ (s.ob.filter fun p => !(Nat.beq p.1 o)).map fun p => (p.1, frzOb o d p.2) }
/-- Was d taken out of these rows? -/
def holds (d : Nat) : Ob → Bool
  | .rows _ _ _ _ (some (_, some d')) => Nat.beq d' d
  | _ => false
/-- The array d is given up: it reads as data from now on, or goes back among the rows that it was taken from. -/
def St.freeze (s : St) (d : Nat) : St :=
  match s.g d with
  | some (.arr e t l) => match s.ob.find? (fun p => holds d p.2) with
    | some p => match s.g p.1 with
      | some (.rows e1 e2 t2 l2 (some (i, some d'))) => match Nat.beq d' d, Nat.beq e2 e, Ty.cast (.slice t) (.slice t2) l with
        | true, true, some l' => s.swap d .undef [(p.1, .rows e1 e2 t2 (l2.set i l') none)]
        | _, _, _ => s
      | _ => s
    | none => s.swap d (.dat (.slice t) l) []
  | some (.rows _ _ t l none) => s.swap d (.dat (.slice (.slice t)) l) []
  | _ => s
/-- The headers of the rows of p may turn: they are known by their places no more. -/
def St.kill (s : St) (p : Nat) : St := { fr := s.fr.map fun q => (q.1, frz2 p (.arr p) q.2), ob := s.ob.map fun q => (q.1, frzOb p (.arr p) q.2) }
def St.kills (s : St) (l : List Nat) : St := l.foldl St.kill s
/-- The row that slot k names is taken out: from now on the array d is there. -/
def St.take (s : St) (k d : Nat) : St :=
  match s.slot k with
  | .row p i => match s.g p, s.g d with
    | some (.rows e e2 t l none), none => if d ≠ p then { fr := (k, .arr d) :: s.fr, ob := (d, .arr e2 t (l.getD i [])) :: (p, .rows e e2 t l (some (i, some d))) :: s.ob } else s
    | _, _ => s
  | _ => s

/-- The things of a list that were arrays of rows, and whose rows' headers may have turned. -/
def rowId (g : Nat → Option Ob) (p : Nat × Ob) : Bool := match p.2 with
  | .rows _ _ _ _ (some _) => false
  | _ => match g p.1 with
    | some (.rows _ _ _ _ _) => true
    | _ => false
def rowIds (g : Nat → Option Ob) (objs : List (Nat × Ob)) : List Nat := (objs.filter (rowId g)).map (·.1)

def arrsOf : AV → List Nat
  | .arr o => [o]
  | .agg cs => cs.flatMap fun | .arr o => [o] | _ => []
  | _ => []
def St.freezes (s : St) (l : List Nat) : St := l.foldl St.freeze s
/-- What is done ahead of an operation: numbers of slots whose arrays are given up, or (from 2000000 on) whose rows are taken out. -/
def St.ahead (s0 s : St) : List Nat → St
  | [] => s
  | k :: r => St.ahead s0 (match Nat.ble 2000000 k with
    | true => s.take (k - 2000000) (k - 1500000)
    | false => s.freezes (arrsOf (s0.slot k))) r

/-- A value of one cell. -/
def one : AV → Bool
  | .undef => false
  | .skip => false
  | .agg _ => false
  | .tup _ => false
  | _ => true

/-- What an operation does: the slot that it fills, a slot that is not known any more, the owned things that are new or turned. -/
structure LU where
  d : Option (Nat × AV)
  und : Option Nat
  objs : List (Nat × Ob)

def St.app (s : St) (u : LU) : St :=
  { fr := match u.d with
      | some p => p :: (match u.und with | some b => (b, .undef) :: s.fr | none => s.fr)
      | none => s.fr
    ob := u.objs ++ s.ob }

/-- A store. -/
def astore (tt : Nat → TD) (g : Nat → Option Ob) (ty : Nat) (a v : AV) : Tr LU :=
  match a with
  | .box o k => match g o, cellsOf v, tySize tt ty with
    | some (.cells cs), some vs, some sz => if vs.length = sz.1 ∧ k + vs.length ≤ cs.length ∧ vs.all one = true then .l ⟨none, none, [(o, .cells (putCells cs k vs))]⟩ else .f
    | _, _, _ => .f
  | .elt o i z => match g o, tySize tt ty with
    | some (.arr e t l), some sz => if sz.1 = t.size ∧ z = t.size then match getT t v with
        | some x => .g (decide (i < l.length)) (.l ⟨none, none, [(o, .arr e t (l.set i x))]⟩)
        | none => .f
      else .f
    | some (.txt e l), some sz => if sz.1 = 1 ∧ z = 1 then match getT (.int .u8) v with
        | some x => .g (decide (i < l.length)) (.l ⟨none, none, [(o, .txt e (l.set i x))]⟩)
        | none => .f
      else .f
    | _, _ => .f
  | .fld o i z k => match g o, cellsOf v, tySize tt ty with
    | some (.arr e t l), some vs, some sz => if vs.length = sz.1 ∧ z = t.size ∧ k + vs.length ≤ t.size then match unflat t (putCells (flat t (l.getD i t.dflt)) k vs) with
        | some y => .g (decide (i < l.length)) (.l ⟨none, none, [(o, .arr e t (l.set i y))]⟩)
        | none => .f
      else .f
    | _, _, _ => .f
  | _ => .f

/-- An append to a row: the row goes as d from now on. -/
def aappendR (tt : Nat → TD) (g : Nat → Option Ob) (d ty p i : Nat) (x : AV) : Tr LU :=
  match tt ty, g p, g d with
  | .sl e t b, some (.rows e1 e2 t2 l none), none => match srcOf g t x, Ty.cast (.slice t2) (.slice t) (l.getD i []) with
    | some src, some r => if e2 = e ∧ 0 < b ∧ d ≠ p then .g (decide ((r.length + src.length) * b ≤ 140737488355328)) (.l ⟨some (d, .arr d), none, [(d, .arr e t (r ++ src)), (p, .rows e1 e2 t2 l (some (i, none)))]⟩) else .f
    | _, _ => .f
  | _, _, _ => .f

def aappend (tt : Nat → TD) (d : Nat) (ty : Nat) (a x : AV) (s : St) : Tr St :=
  match a with
  | .row p i => (aappendR tt s.g d ty p i x).bind fun u => .l (s.app u)
  | a => match tt ty with
  | .sl e t b => match srcOf s.g t x with
    | some src => match a with
      | .arr o => match s.g o with
        | some (.arr e' t' l) => match Ty.cast (.slice t') (.slice t) l with
          | some l' => if e' = e ∧ 0 < b then .g (decide ((l'.length + src.length) * b ≤ 140737488355328))
              (.l { fr := (d, .arr o) :: s.fr.map (fun p => (p.1, frz2 o .undef p.2)), ob := (o, .arr e t (l' ++ src)) :: (s.ob.filter fun p => !(Nat.beq p.1 o)).map fun p => (p.1, frzOb o .undef p.2) }) else .f
          | none => .f
        | _ => .f
      | .nilsl => match s.g d with
        | none => if 0 < b then .g (decide (src.length * b ≤ 140737488355328)) (.l { fr := (d, .arr d) :: s.fr, ob := (d, .arr e t src) :: s.ob }) else .f
        | some _ => .f
      | _ => .f
    | none => .f
  | _ => .f

/-- Zeros appended to nothing. -/
def aappendZ (tt : Nat → TD) (d ty ty' : Nat) (a n : AV) (s : St) : Tr St :=
  match a, n with
  | .nilsl, .dat (.int _) n => match tt ty, tt ty', s.g d with
    | .sl e t b, .sc (.int _), none => .g (decide ((0 : Int) < n) && decide ((n : Int) * (b : Int) ≤ 281474976710656)) (if 0 < b then .l { fr := (d, .arr d) :: s.fr, ob := (d, .arr e t (List.replicate (n : Int).toNat t.dflt)) :: s.ob } else .f)
    | _, _, _ => .f
  | _, _ => .f

/-- An append to an array that one slot alone knows. -/
def aappendL (tt : Nat → TD) (g : Nat → Option Ob) (d ty : Nat) (b : Nat) (a x : AV) : Tr LU :=
  match tt ty with
  | .sl e t by' => match srcOf g t x with
    | some src => match a with
      | .arr o => match g o with
        | some (.arr e' t' l) => match Ty.cast (.slice t') (.slice t) l with
          | some l' => if e' = e ∧ 0 < by' then .g (decide ((l'.length + src.length) * by' ≤ 140737488355328)) (.l ⟨some (d, .arr o), some b, [(o, .arr e t (l' ++ src))]⟩) else .f
          | none => .f
        | _ => .f
      | _ => .f
    | none => .f
  | _ => .f

def fresh (g : Nat → Option Ob) (l : List (Nat × Ob)) : Bool := l.all (fun p => match g p.1 with | none => true | some _ => false) && decide (l.map (·.1)).Nodup

/-- What one operation does (but for an append in the order of the text). -/
def alu (E : Env) (tt : Nat → TD) (g : Nat → Option Ob) (f : Operand → AV) (o : Oper) : Tr LU :=
  match o.op, o.dst with
  | .store ty a v, none => astore tt g ty (f a) (f v)
  | .call { callee := .builtin .append, args := as, argTypes := ts }, some d => match as.toList, ts.toList with
    | [.tmp b, y], [ty, ty'] => if ty = ty' then match f (.tmp b) with
        | .row p i => aappendR tt g d ty p i (f y)
        | a => aappendL tt g d ty b a (f y)
      else .f
    | _, _ => .f
  | .call { callee := .value h, args := as, .. }, some d => (acall E g d (f h) (as.toList.map f)).bind fun r => if fresh g r.1.2 then .l ⟨some (d, r.1.1), none, r.1.2 ++ r.2⟩ else .f
  | _, some d => (aq tt g f o).bind fun q => if fresh g q.2 then .l ⟨some (d, q.1), none, q.2⟩ else .f
  | _, none => .f

/-- Is this an append? -/
def isAppend (o : Oper) : Bool :=
  match o.op with
  | .call { callee := .builtin .append, .. } => true
  | _ => false

/-! ### Operations on arrays of arrays whose rows are owned -/
/-- An element of a row is written. -/
def rowsSet (tt : Nat → TD) (ty : Nat) (av vv : AV) (s : St) : Option (Tr St) :=
  match av with
  | .relt o i n z => some (match s.g o, tySize tt ty with
    | some (.rows e e2 t l none), some sz => if sz.1 = t.size ∧ z = t.size then match getT t vv with
        | some x => .g (decide (n < (l.getD i []).length)) (.l (s.app ⟨none, none, [(o, .rows e e2 t (l.set i ((l.getD i []).set n x)) none)]⟩))
        | none => .f
      else .f
    | _, _ => .f)
  | _ => none
/-- An array of one's own becomes a row. -/
def rowsStore (tt : Nat → TD) (ty : Nat) (av vv : AV) (s : St) : Option (Tr St) :=
  match av, vv with
  | .elt p i z, .arr q => match s.g p, s.g q with
    | some (.rows e e2 t l h), some (.arr e3 t3 _) => some (match tySize tt ty with
      | some sz => if sz.1 = 1 ∧ z = 1 ∧ p ≠ q ∧ e3 = e2 ∧ (Ty.eq? t3 t).isSome = true then match h with
          | none => .g (decide (i < l.length)) (.l (((s.kill p).app ⟨none, none, [(p, .rows e e2 t l (some (i, some q)))]⟩).freeze q))
          | some (i', none) => .g (decide (i < l.length) && decide (i = i')) (.l (((s.kill p).app ⟨none, none, [(p, .rows e e2 t l (some (i, some q)))]⟩).freeze q))
          | some (_, some _) => .f
        else .f
      | none => .f)
    | _, _ => none
  | _, _ => none
def rowsMake (tt : Nat → TD) (ty : Nat) (nv cv : AV) (d : Nat) (s : St) : Tr St :=
  match nv, cv, tt ty, s.g d with
  | .dat (.int _) n, .dat (.int _) c, .sl e te b, none => match tt e with
    | .sl e2 t _ => if te.size = 1 ∧ 0 < b then .g (decide ((0 : Int) ≤ n) && decide ((n : Int) ≤ c) && decide ((b : Int) * c ≤ 281474976710656)) (.l { fr := (d, .arr d) :: s.fr, ob := (d, .rows e e2 t (List.replicate (n : Int).toNat []) none) :: s.ob }) else .f
    | _ => .f
  | _, _, _, _ => .f
/-- None, or one row: it is among the rows when these are appended. -/
def rowsBuild (tt : Nat → TD) (ty n : Nat) (ps : List (Nat × AV)) (d : Nat) (s : St) : Tr St :=
  match tt ty, s.g d, n, ps with
  | .sl e te _, none, 0, [] => match tt e with
    | .sl e2 t _ => if te.size = 1 then .l { fr := (d, .arr d) :: s.fr, ob := (d, .rows e e2 t [] none) :: s.ob } else .f
    | _ => .f
  | .sl e te _, none, 1, [(0, .arr p)] => match tt e, s.g p with
    | .sl e2 t _, some (.arr e3 t3 _) => if te.size = 1 ∧ e3 = e2 ∧ (Ty.eq? t3 t).isSome = true ∧ d ≠ p then .l { fr := (d, .arr d) :: s.fr, ob := (d, .rows e e2 t [[]] (some (0, some p))) :: s.ob } else .f
    | _, _ => .f
  | _, _, _, _ => .f
/-- One row, that goes as p and stands alone in q, is appended to the rows o. -/
def appRow (s : St) (d o q p e e2 : Nat) (t : Ty) (l : List (List t.I)) : St :=
  ({ fr := (d, .arr o) :: ((s.swap q .undef []).swap o .undef []).fr, ob := (o, .rows e e2 t (l ++ [[]]) (some (l.length, some p))) :: ((s.swap q .undef []).swap o .undef []).ob } : St).freeze p
def rowsApp (tt : Nat → TD) (ty ty' d : Nat) (xv yv : AV) (s : St) : Option (Tr St) :=
  match yv with
  | .arr q => match s.g q with
    | some (.rows eq _ _ [_] (some (0, some p))) => some (match tt ty, xv with
      | .sl e te b, .arr o => match s.g o with
        | some (.rows e1 e2 t l none) => if ty = ty' ∧ e1 = e ∧ eq = e ∧ te.size = 1 ∧ 0 < b ∧ o ≠ q ∧ o ≠ p ∧ p ≠ q then .g (decide ((l.length + 1) * b ≤ 140737488355328)) (.l (appRow s d o q p e1 e2 t l)) else .f
        | _ => .f
      | .sl e te b, .nilsl => match tt e, s.g d with
        | .sl e2 t _, none => if ty = ty' ∧ eq = e ∧ te.size = 1 ∧ 0 < b ∧ d ≠ q ∧ d ≠ p ∧ p ≠ q then .g (decide ((List.length ([] : List (List t.I)) + 1) * b ≤ 140737488355328)) (.l (appRow { fr := s.fr, ob := (d, .rows e e2 t [] none) :: s.ob } d d q p e e2 t [])) else .f
        | _, _ => .f
      | _, _ => .f)
    | _ => none
  | _ => none
/-- The first elements of an array: it is shorter from now on. -/
def atrunc (tt : Nat → TD) (ty : Nat) (xv hv : AV) (d : Nat) (s : St) : Option (Tr St) :=
  match xv, hv with
  | .arr o, .dat (.int _) n => match tt ty, s.g o with
    | .sl e0 t0 _, some (.arr e t l) => some (if e0 = e ∧ t0.size = t.size then .g (decide ((0 : Int) ≤ n) && decide ((n : Int) ≤ (l.length : Int))) (.l { fr := (d, .arr o) :: s.fr.map (fun p => (p.1, frz2 o .undef p.2)), ob := (o, .arr e t (l.take (n : Int).toNat)) :: (s.ob.filter fun p => !(Nat.beq p.1 o)).map fun p => (p.1, frzOb o .undef p.2) }) else .f)
    | _, _ => none
  | _, _ => none
/-- 'm': a new array is made with rows of its own. -/
def rowsOp (tt : Nat → TD) (m : Bool) (o : Oper) (s : St) : Option (Tr St) :=
  match o.op, o.dst with
  | .store ty a v, none => match rowsSet tt ty (opd s.slot a) (opd s.slot v) s with
    | some r => some r
    | none => rowsStore tt ty (opd s.slot a) (opd s.slot v) s
  | .makeSlice ty n c, some d => match m with
    | true => some (rowsMake tt ty (opd s.slot n) (opd s.slot c) d s)
    | false => none
  | .buildSlice ty n ps, some d => match m with
    | true => some (rowsBuild tt ty n (ps.toList.map fun p => (p.1, opd s.slot p.2)) d s)
    | false => none
  | .call { callee := .builtin .append, args := as, argTypes := ts }, some d => match as.toList, ts.toList with
    | [x, y], [ty, ty'] => rowsApp tt ty ty' d (opd s.slot x) (opd s.slot y) s
    | _, _ => none
  | .slice ty x none (some h) none, some d => atrunc tt ty (opd s.slot x) (opd s.slot h) d s
  | _, _ => none

/-- One operation in the order of the text. 'fz': the arrays that are given up ahead of it (by the destination, or the place of a store). -/
def aop (E : Env) (tt : Nat → TD) (fz : Nat → List Nat) (o : Oper) (i : Nat) (s0 : St) : Tr St :=
  let s := St.ahead s0 s0 (fz i)
  match rowsOp tt ((fz i).any (Nat.beq 1000000)) o s with
  | some r => r
  | none => match isAppend o with
  | true => match o.op, o.dst with
    | .call { callee := .builtin .append, args := as, argTypes := ts }, some d => match as.toList, ts.toList with
      | [x, y], [ty, ty'] => if ty = ty' then aappend tt d ty (opd s.slot x) (opd s.slot y) s else aappendZ tt d ty ty' (opd s.slot x) (opd s.slot y) s
      | _, _ => .f
    | _, _ => .f
  | false => (alu E tt s.g (opd s.slot) o).bind fun u => .l ((s.kills (rowIds s.g u.objs)).app u)

/-- The operations of a region in the order of the text. -/
def aops (E : Env) (tt : Nat → TD) (fz : Nat → List Nat) (ops : Nat → Option Oper) : List Oper → Nat → St → Tr St
  | [], _, s => .l s
  | o :: r, i, s =>
    match o.guard with
    | none => (aop E tt fz o i s).bind (aops E tt fz ops r (i + 1))
    | some (j, want) => match (ops j).bind (·.dst) with
      | some dj => match s.slot dj with
        | .dat .bool b =>
          let sk (b' : Bool) : Tr St := match o.dst with
            | some d => aops E tt fz ops r (i + 1) { s with fr := (d, .skip) :: (dj, .dat .bool b') :: s.fr }
            | none => aops E tt fz ops r (i + 1) { s with fr := (dj, .dat .bool b') :: s.fr }
          let go (b' : Bool) : Tr St := (aop E tt fz o i { s with fr := (dj, .dat .bool b') :: s.fr }).bind (aops E tt fz ops r (i + 1))
          match want with
          | true => .t b (go true) (sk false)
          | false => .t b (sk true) (go false)
        | .skip => match o.dst with
          | some d => aops E tt fz ops r (i + 1) { s with fr := (d, .skip) :: s.fr }
          | none => aops E tt fz ops r (i + 1) s
        | _ => .f
      | none => .f

/-! ### Regions whose order is drawn -/
def edgesOf (o : Oper) : List Nat := (o.after.toList.filter (Region.binds .any)).map (·.on)

/-- Each edge leads back; from p on each operation waits for the one before; each one ahead is waited for. -/
def chainAt (ops : List Oper) (p : Nat) : Bool :=
  (List.range ops.length).all (fun i => match nth ops i with
    | some o => !Nat.blt p i || (edgesOf o).any (Nat.beq (i - 1))
    | none => true) &&
  (Nat.beq p ops.length || (List.range p).all fun i => (List.range (p + 1)).any fun j => Nat.blt i j && match nth ops j with
    | some o => (edgesOf o).any (Nat.beq i)
    | none => false)
def backOK (ops : List Oper) : Bool :=
  (List.range ops.length).all (fun i => match nth ops i with
    | some o => (edgesOf o).all fun e => Nat.blt e i
    | none => true)
def findP (f : Nat → Bool) : Nat → Nat → Nat
  | 0, i => i
  | n + 1, i => match f i with
    | true => i
    | false => findP f n (i + 1)
def drawP (ops : List Oper) : Nat := findP (chainAt ops) ops.length 0

/-- The operations that each waits for, near and far. -/
def ancs : List Oper → List (List Nat) → List (List Nat)
  | [], acc => acc
  | o :: r, acc => ancs r (acc ++ [edgesOf o ++ (edgesOf o).flatMap fun j => (nth acc j).getD []])

def LU.touch (u : LU) : List Nat := match u.d with
  | some p => p.1 :: (match u.und with | some b => [b] | none => [])
  | none => []
def LU.ids (u : LU) : List Nat := u.objs.map (·.1)

def nmL : AV → List Nat
  | .arr o => [o]
  | .box o _ => [o]
  | .elt o _ _ => [o]
  | .fld o _ _ _ => [o]
  | .row o _ => [o]
  | .relt o _ _ _ => [o]
  | _ => []
def nmC : AV → List Nat
  | .ptr cs => cs.flatMap nmL
  | .agg cs => cs.flatMap nmL
  | v => nmL v
/-- The owned things that a value names. -/
def nm1 : AV → List Nat
  | .agg cs => cs.flatMap nmL
  | .fn _ caps => caps.flatMap nmC
  | v => nmC v
def nmOb : Ob → List Nat
  | .cells cs => cs.flatMap nm1
  | .txt _ _ => []
  | .rows _ _ _ _ h => match h with
    | some (_, some d) => [d]
    | _ => []
  | .arr _ _ _ => []
def reach (g : Nat → Option Ob) : Nat → List Nat → List Nat
  | 0, l => l
  | n + 1, l => l ++ reach g n (l.flatMap fun o => match g o with | some x => nmOb x | none => [])
def has (l : List Nat) (n : Nat) : Bool := l.any (Nat.beq n)
def disj (l m : List Nat) : Bool := l.all fun x => !has m x

/-- A value that is the same without the thing o. -/
def clL (o : Nat) : AV → Bool
  | .arr p => !Nat.beq p o
  | .elt p _ _ => !Nat.beq p o
  | .fld p _ _ _ => !Nat.beq p o
  | .row p _ => !Nat.beq p o
  | .relt p _ _ _ => !Nat.beq p o
  | .box p _ => !Nat.beq p o
  | .dat _ _ => true
  | .nilsl => true
  | .undef => true
  | .clo _ _ _ => true
  | .fn _ [] => true
  | _ => false
def clC (o : Nat) : AV → Bool
  | .ptr cs => cs.all (clL o)
  | v => clL o v
def cl1 (o : Nat) : AV → Bool
  | .agg cs => cs.all (clL o)
  | .fn _ caps => caps.all (clC o)
  | v => clC o v
def cl2 (o : Nat) : AV → Bool
  | .tup vs => vs.all (cl1 o)
  | .skip => true
  | v => cl1 o v
def clOb (o : Nat) : Ob → Bool
  | .cells cs => cs.all (cl1 o)
  | .txt _ _ => true
  | .rows _ _ _ _ h => match h with
    | some (_, some d) => !Nat.beq d o
    | _ => true
  | .arr _ _ _ => true

/-- What is named at an operation is all that can be met from there. -/
def closedOK (g : Nat → Option Ob) (l : List Nat) : Bool := l.all fun o => match g o with | some x => (nmOb x).all (has l) | none => true

/-- What an operation names. -/
def namesOf (g : Nat → Option Ob) (sl : Nat → AV) (o : Oper) : List Nat := reach g 3 (o.op.operands.toList.flatMap fun x => nm1 (opd sl x))

/-- The trace of operations in the order of the text: what each does, and what it names. -/
def atrace (E : Env) (tt : Nat → TD) (ops : Nat → Option Oper) : List Oper → St → List (LU × List Nat) → Tr (St × List (LU × List Nat))
  | [], s, acc => .l (s, acc)
  | o :: r, s, acc =>
    let run (s : St) : Tr (St × List (LU × List Nat)) := (alu E tt s.g (opd s.slot) o).bind fun u => match closedOK s.g (namesOf s.g s.slot o) && (rowIds s.g u.objs).isEmpty with
      | true => atrace E tt ops r (s.app u) (acc ++ [(u, namesOf s.g s.slot o)])
      | false => .f
    let skip (s : St) : Tr (St × List (LU × List Nat)) := let u : LU := ⟨o.dst.map fun d => (d, .skip), none, []⟩; atrace E tt ops r (s.app u) (acc ++ [(u, [])])
    match o.guard with
    | none => run s
    | some (j, want) => match (ops j).bind (·.dst) with
      | some dj => match s.slot dj with
        | .dat .bool b => match want with
          | true => .t b (run { s with fr := (dj, .dat .bool true) :: s.fr }) (skip { s with fr := (dj, .dat .bool false) :: s.fr })
          | false => .t b (skip { s with fr := (dj, .dat .bool true) :: s.fr }) (run { s with fr := (dj, .dat .bool false) :: s.fr })
        | .skip => skip s
        | _ => .f
      | none => .f

def looksOf (ops : List Oper) (o : Oper) : List Nat :=
  (o.op.operands.toList.filterMap fun | .tmp t => some t | _ => none) ++
  (match o.guard with
   | some (g, _) => ((nth ops g).bind (·.dst)).toList
   | none => [])

/-- Does an operation ask an array for its length alone? -/
def lenOp (o : Oper) : Bool :=
  match o.op with
  | .indexAddr .. => true
  | .move _ => true
  | .assign _ => true
  | .nilCheck _ => true
  | .call { callee := .builtin .len, .. } => true
  | _ => false
def isStore (o : Oper) : Bool :=
  match o.op with
  | .store .. => true
  | _ => false
/-- Does an operation hand a value on, whatever is there? -/
def isMove (o : Oper) : Bool :=
  match o.op with
  | .move _ => true
  | .assign _ => true
  | _ => false
/-- What an operation depends on: not on an array of which it asks the length alone, where nothing but stores turns it. -/
def effN (ops : List Oper) (tr : List (LU × List Nat)) (o : Oper) (x : LU × List Nat) : List Nat :=
  match isMove o with
  | true => []
  | false =>
  match lenOp o && x.2.all (fun n => (List.range tr.length).all fun k => match nth tr k, nth ops k with
    | some y, some ok => !has y.1.ids n || isStore ok
    | _, _ => true) with
  | true => []
  | false => x.2

/-- Do two operations, neither of which waits for the other, leave each other alone? -/
def apart (l l' : List Nat) (x y : LU × List Nat) : Bool :=
  disj x.1.touch (l' ++ y.1.touch) && disj y.1.touch l && disj x.1.ids (y.2 ++ y.1.ids) && disj y.1.ids x.2

def pairOK (ops : List Oper) (an : List (List Nat)) (tr : List (LU × List Nat)) (i j : Nat) : Bool :=
  match nth ops i, nth ops j, nth tr i, nth tr j, nth an j with
  | some oi, some oj, some x, some y, some a => has a i || apart (looksOf ops oi) (looksOf ops oj) (x.1, effN ops tr oi x) (y.1, effN ops tr oj y)
  | _, _, _, _, _ => false

/-- An append among them: no other slot, and nothing owned, names the array. -/
def appOK (an : List (List Nat)) (s : St) (tr : List (LU × List Nat)) (k : Nat) (x : LU × List Nat) : Bool :=
  match x.1.und with
  | none => true
  | some b => x.1.ids.all fun o =>
      s.fr.all (fun q => Nat.beq q.1 b || cl2 o q.2) && s.ob.all (fun q => Nat.beq q.1 o || clOb o q.2) &&
      (List.range tr.length).all fun n => match nth tr n, nth an n, nth an k with
        | some y, some a, some ak => Nat.beq n k || has a k ||
          ((match y.1.d with
            | some q => cl2 o q.2 || Nat.beq q.1 b || (List.range tr.length).any fun m => Nat.blt n m && has ak m && match nth tr m with
              | some z => match z.1.und with
                | some c => Nat.beq c q.1
                | none => false
              | none => false
            | none => true) && y.1.objs.all fun q => Nat.beq q.1 o || clOb o q.2)
        | _, _, _ => false

def drawChk (ops : List Oper) (p : Nat) (s : St) (tr : List (LU × List Nat)) : Bool :=
  let an := ancs ops []
  backOK ops && (List.range p).all (fun j => (List.range j).all fun i => pairOK ops an tr i j) && (List.range p).all fun k => match nth tr k with
    | some x => appOK an s tr k x
    | none => false

/-- A region whose order is drawn. -/
def adraw (E : Env) (tt : Nat → TD) (fz : Nat → List Nat) (ops : Nat → Option Oper) (l : List Oper) (s0 : St) : Tr St :=
  let p := drawP l
  let s := St.ahead s0 s0 (fz 0)
  (atrace E tt ops (l.take p) s []).bind fun r => match drawChk l p s r.2 with
    | true => aops E tt fz ops (l.drop p) p r.1
    | false => .f

/-- What is known behind a piece of code. -/
inductive Out where
  | normal (s : St)
  | exit (id : Nat) (s : St)
  | ret (s : St)

/-- The oracle of the loops: what a loop (by its block's number) comes to. -/
@[reducible] def Orc := Nat → St → Option (Tr Out)

def acode (E : Env) (tt : Nat → TD) (fz : Nat → Nat → List Nat) (orc : Orc) : Code → St → Tr Out
  | .skip, s => .l (.normal s)
  | .region id ops draw, s => (match draw with
    | true => adraw E tt (fz id) (fun j => ops[j]?) ops.toList s
    | false => aops E tt (fz id) (fun j => ops[j]?) ops.toList 0 s).bind fun s' => .l (.normal s')
  | .seq a b, s => (acode E tt fz orc a s).bind fun
    | .normal s' => acode E tt fz orc b s'
    | o => .l o
  | .cond c a b, s => match opd s.slot c with
    | .dat .bool v => .t v (acode E tt fz orc a s) (acode E tt fz orc b s)
    | _ => .f
  | .block id (.loop _), s => match orc id s with
    | some x => x
    | none => .f
  | .block id b, s => (acode E tt fz orc b s).bind fun
    | .exit i s' => match Nat.beq i id with
      | true => .l (.normal s')
      | false => .l (.exit i s')
    | o => .l o
  | .exit id, s => .l (.exit id s)
  | .ret, s => .l (.ret s)
  | _, _ => .f
end Go.Proofs.Ytlmbhkmaflhagaa
