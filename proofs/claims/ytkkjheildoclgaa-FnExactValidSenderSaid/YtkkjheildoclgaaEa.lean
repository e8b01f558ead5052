/- A text of the claim: an evaluator of Go functions, and why it answers as they do. -/
import Derived.Calls
import Derived.Laws.BytesArg
import Derived.KernelRfl
import Derived.Maps.AppendAt
import Derived.Below
import Derived.OwnWalk
import Derived.WalkKit
import Derived.Laws.MakeOwn
import Derived.Laws.IdiomStrings
import Derived.Laws.Small
import Derived.Laws.CopyRow
import Derived.Laws.Slices
import Derived.Great.BuildSlice
import Derived.Laws.OwnMore
set_option linter.all false
set_option linter.unusedVariables false
set_option linter.unusedSimpArgs false
set_option autoImplicit false
namespace Go.Ev

/-- the layout of a cell, or of a row of cells -/
inductive CT where
  | int (k : IntKind) | bool | str | sl (e : TypeId) (t : CT) | nil | cons (a b : CT)
  deriving DecidableEq

@[reducible] def Den : CT → Type
  | .int _ => Int
  | .bool => Bool
  | .str => ByteArray
  | .sl _ t => List (Den t)
  | .nil => Unit
  | .cons a b => Den a × Den b

def CT.sz : CT → Nat
  | .nil => 0
  | .cons a b => a.sz + b.sz
  | _ => 1

def CT.z : (t : CT) → Den t
  | .int _ => (0 : Int)
  | .bool => false
  | .str => (⟨#[]⟩ : ByteArray)
  | .sl _ _ => []
  | .nil => ()
  | .cons a b => (a.z, b.z)

def CT.hasSl : CT → Bool
  | .sl _ _ => true
  | .cons a b => a.hasSl || b.hasSl
  | _ => false

inductive Src where
  | imm
  | inn (n ver : Nat) (pos : Option (Int × Nat))

inductive AV where
  | int (k : IntKind) (n : Int)
  | bool (b : Bool)
  | str (s : ByteArray)
  | sl (e : TypeId) (t : CT) (xs : List (Den t)) (src : Src)
  | ref (n : Nat)
  | nilsl
  | agg (cs : List AV)
  | tup (vs : List AV)
  | pbox (b off : Nat)
  | pel (n : Nat) (i : Int) (off : Nat)
  | pro (t : CT) (x : Den t) (off : Nat) (src : Src)
  | fn (f : FuncId)
  | clo (f : FuncId) (caps : List AV)
  | mref (n : Nat)
  | ifc (T : TypeId) (cs : List AV)
  | junk

def cells : (t : CT) → Den t → (Nat → Src) → Nat → List AV
  | .int k, n, _, _ => [.int k n]
  | .bool, b, _, _ => [.bool b]
  | .str, s, _, _ => [.str s]
  | .sl e t, xs, src, o => [.sl e t xs (src o)]
  | .nil, _, _, _ => []
  | .cons a b, x, src, o => cells a x.1 src o ++ cells b x.2 src (o + a.sz)

structure Root where
  e : TypeId
  t : CT
  xs : List (Den t)
  deep : Bool
  pin : Bool
  ver : Nat

inductive Ent where
  | root (q : Root)
  | box (cs : List AV)
  | mp (es : List (ByteArray × Int))
  | zb (e : TypeId)

structure St where
  tm : Nat → AV
  st : Nat → Option Ent
  us : Nat → Bool
  nt : Nat

structure Tab where
  lay : List (TypeId × (Bool × CT))
  fld : List (TypeId × List (Nat × Nat × Bool))
  elem : List (TypeId × TypeId)
  byt : List (TypeId × Nat)
  maps : List (TypeId × Unit)
  meth : List (TypeId × List (String × FuncId))
  zf : List (TypeId × Nat)

def look {α : Type} (d : α) (n : Nat) : List (Nat × α) → α
  | [] => d
  | x :: r => bif Nat.beq x.1 n then x.2 else look d n r
def lookO {α : Type} (n : Nat) : List (Nat × α) → Option α
  | [] => none
  | x :: r => bif Nat.beq x.1 n then some x.2 else lookO n r
def elemN (n : Nat) : List Nat → Bool
  | [] => false
  | x :: r => bif Nat.beq x n then true else elemN n r

def ofConst : Value → AV
  | .int k n => .int k n
  | .bool b => .bool b
  | .string s => .str s
  | .slice none 0 0 => .nilsl
  | _ => .junk

def St.op (s : St) : Operand → AV
  | .tmp t => s.tm t
  | .const v => ofConst v
  | .func f => .fn f
  | .global _ => .junk

def upd {α : Type} (f : Nat → α) (d : Nat) (v : α) : Nat → α := fun i => bif Nat.beq i d then v else f i
def St.put (s : St) (d : Option Nat) (v : AV) : St := match d with
  | some d => bif Nat.blt d s.nt then { s with tm := upd s.tm d v } else s
  | none => s

/-- what an operation writes: a name, what it becomes, is it new -/
structure W where
  n : Nat
  e : Option Ent
  new : Bool

def St.write (s : St) : List W → St
  | [] => s
  | w :: r => St.write { s with st := upd s.st w.n w.e, us := upd s.us w.n (s.us w.n || w.new) } r
def freshOk (us : Nat → Bool) : List W → Bool
  | [] => true
  | w :: r => bif w.new then (bif us w.n then false else freshOk (upd us w.n true) r) else freshOk us r

abbrev Mem := Nat → Option Ent
def flat : AV → Option (List AV)
  | .agg cs => some cs
  | .junk => none
  | .tup _ => none
  | .clo _ _ => none
  | .ifc _ _ => none
  | v => some [v]
def unflat (isAgg : Bool) (cs : List AV) : AV := bif isAgg then .agg cs else cs.headD .junk
def splice (cs : List AV) (off : Nat) (vs : List AV) : List AV := cs.take off ++ vs ++ cs.drop (off + vs.length)
def zcells : CT → List AV
  | .int k => [.int k 0]
  | .bool => [.bool false]
  | .str => [.str ⟨#[]⟩]
  | .sl _ _ => [.nilsl]
  | .nil => []
  | .cons a b => zcells a ++ zcells b

/-- cells as data; is what they lead to wholly owned; the names given up; the cells left -/
def toDen (m : Mem) : (t : CT) → List AV → Option (Den t × Bool × List Nat × List AV)
  | .int k, .int k' n :: r => bif decide (k' = k) then some (n, true, [], r) else none
  | .bool, .bool b :: r => some (b, true, [], r)
  | .str, .str b :: r => some (b, true, [], r)
  | .sl _ _, .nilsl :: r => some ([], true, [], r)
  | .sl e t, .sl e' t' xs .imm :: r => if h : t' = t then (bif Nat.beq e' e then some (h ▸ xs, false, [], r) else none) else none
  | .sl e t, .ref n :: r => match m n with
    | some (.root q) => if h : q.t = t then (bif Nat.beq q.e e && !q.pin then some (h ▸ q.xs, q.deep, [n], r) else none) else none
    | _ => none
  | .nil, r => some ((), true, [], r)
  | .cons a b, l => match toDen m a l with
    | some (x, o, c, r) => match toDen m b r with
      | some (y, o', c', r') => some ((x, y), o && o', c ++ c', r')
      | none => none
    | none => none
  | _, _ => none
def okCells : List AV → Bool
  | [] => true
  | .junk :: _ => false
  | _ :: r => okCells r
def anyN (a b : List Nat) : Bool := match a with
  | [] => false
  | x :: r => bif elemN x b then true else anyN r b
def okV0 : AV → Bool
  | .tup _ => false
  | .clo _ _ => false
  | .ifc _ _ => false
  | _ => true
def okV0s : List AV → Bool
  | [] => true
  | x :: r => bif okV0 x then okV0s r else false
def okV1 : AV → Bool
  | .tup _ => false
  | _ => true
def okV1s : List AV → Bool
  | [] => true
  | x :: r => bif okV1 x then okV1s r else false
/-- a map from texts to numbers: its entries, in the order in which they came -/
def mhas (k : ByteArray) : List (ByteArray × Int) → Bool
  | [] => false
  | e :: r => k == e.1 || mhas k r
def mget (k : ByteArray) : List (ByteArray × Int) → Int
  | [] => 0
  | e :: r => bif k == e.1 then e.2 else mget k r
def mput (k : ByteArray) (v : Int) : List (ByteArray × Int) → List (ByteArray × Int)
  | [] => [(k, v)]
  | e :: r => bif k == e.1 then (k, v) :: r else e :: mput k v r
def midx (k : ByteArray) : List (ByteArray × Int) → Nat
  | [] => 0
  | e :: r => bif k == e.1 then 0 else midx k r + 1
def nodupN : List Nat → Bool
  | [] => true
  | x :: r => bif elemN x r then false else nodupN r

/-- one cell of an element written -/
def putC (m : Mem) : (t : CT) → Den t → Nat → AV → Option (Den t × Bool × List Nat)
  | .cons a b, x, off, v => bif Nat.blt off a.sz then (match putC m a x.1 off v with | some (y, o, c) => some ((y, x.2), o, c) | none => none)
      else (match putC m b x.2 (off - a.sz) v with | some (y, o, c) => some ((x.1, y), o, c) | none => none)
  | t, _, _, v => match toDen m t [v] with
    | some (y, o, c, _) => some (y, o, c)
    | none => none
def putCs (m : Mem) (t : CT) : Den t → Nat → List AV → Option (Den t × Bool × List Nat)
  | x, _, [] => some (x, true, [])
  | x, off, v :: r => match putC m t x off v with
    | some (y, o, c) => (match putCs m t y (off + 1) r with
      | some (z, o', c') => some (z, o && o', c ++ c')
      | none => none)
    | none => none

def gone (l : List Nat) : List W := l.map fun n => ⟨n, none, false⟩

/-! forms: what is known of a slot, an argument, a result -/
inductive Fm where
  | int (k : IntKind) | bool | str
  | sl (e : TypeId) (t : CT)
  | own (e : TypeId) (t : CT) (deep : Bool)
  | pin (n : Nat) (e : TypeId) (t : CT) (deep : Bool)
  | box (f : Fm) | agg (f : Fm) | tup (f : Fm)
  | nil | cons (a b : Fm)
  | mp | ptr (t : CT) | bx (f : Fm) | clo (f : FuncId) (c : Fm) | ifc (T : TypeId) (f : Fm) | alt (a b : Fm)

@[reducible] def DenF : Fm → Type
  | .int _ => Int
  | .bool => Bool
  | .str => ByteArray
  | .sl _ t => List (Den t)
  | .own _ t _ => List (Den t)
  | .pin _ _ t _ => List (Den t)
  | .box f => DenF f
  | .agg f => DenF f
  | .tup f => DenF f
  | .nil => Unit
  | .cons a b => DenF a × DenF b
  | .mp => List (ByteArray × Int)
  | .ptr t => Den t
  | .bx f => DenF f
  | .clo _ c => DenF c
  | .ifc _ f => DenF f
  | .alt a b => DenF a ⊕ DenF b

/-- what comes back in the arguments that a call may write -/
@[reducible] def DenB : Fm → Type
  | .pin _ _ t _ => List (Den t)
  | .bx f => DenF f
  | .agg f => DenB f
  | .cons a b => DenB a × DenB b
  | _ => Unit
def Fm.hasPin : Fm → Bool
  | .pin _ _ _ _ => true
  | .bx _ => true
  | .agg f => f.hasPin
  | .cons a b => a.hasPin || b.hasPin
  | _ => false
def Fm.hasImm : Fm → Bool
  | .sl _ _ => true
  | .own _ t d => !d && t.hasSl
  | .pin _ _ t d => !d && t.hasSl
  | .box f | .agg f | .tup f | .bx f | .clo _ f | .ifc _ f => f.hasImm
  | .cons a b | .alt a b => a.hasImm || b.hasImm
  | .ptr _ => true
  | _ => false
def Fm.immB : Fm → Bool
  | .pin _ _ t d => !d && t.hasSl
  | .bx f => f.hasImm
  | .agg f => f.immB
  | .cons a b => a.immB || b.immB
  | _ => false

def noPos : Src → Src
  | .imm => .imm
  | .inn n ver _ => .inn n ver none
def liveSrc (m : Mem) : Src → Bool
  | .imm => true
  | .inn n ver _ => match m n with
    | some (.root q) => Nat.beq q.ver ver
    | _ => false

/-- the row that a value is: its contents, its name (if it is owned) -/
structure Row where
  e : TypeId
  t : CT
  xs : List (Den t)
/-- a row inside an element -/
def getRow : (t : CT) → Den t → Nat → Option Row
  | .sl e t, x, off => bif Nat.beq off 0 then some ⟨e, t, x⟩ else none
  | .cons a b, x, off => bif Nat.blt off a.sz then getRow a x.1 off else getRow b x.2 (off - a.sz)
  | _, _, _ => none
def setRow (u : CT) (y : List (Den u)) : (t : CT) → Den t → Nat → Option (Den t)
  | .sl _ t, _, off => if h : u = t then (bif Nat.beq off 0 then some (h ▸ y) else none) else none
  | .cons a b, x, off => bif Nat.blt off a.sz then (match setRow u y a x.1 off with
      | some z => some (z, x.2)
      | none => none) else (match setRow u y b x.2 (off - a.sz) with
      | some z => some (x.1, z)
      | none => none)
  | _, _, _ => none
def rowOf (m : Mem) : AV → Option Row
  | .sl e t xs .imm => some ⟨e, t, xs⟩
  | .sl e t xs (.inn n ver _) => match m n with
    | some (.root q) => bif Nat.beq q.ver ver then some ⟨e, t, xs⟩ else none
    | _ => none
  | .ref n => match m n with
    | some (.root q) => some ⟨q.e, q.t, q.xs⟩
    | _ => none
  | _ => none
def names1 : AV → List Nat
  | .ref n => [n]
  | .sl _ _ _ (.inn n _ _) => [n]
  | .pel n _ _ => [n]
  | .pro _ _ _ (.inn n _ _) => [n]
  | .mref n => [n]
  | _ => []
/-- cells as data that are only read: the data, the names that are lent, the cells left -/
def viewC (m : Mem) : (t : CT) → List AV → Option (Den t × List Nat × List AV)
  | .int k, .int k' n :: r => bif decide (k' = k) then some (n, [], r) else none
  | .bool, .bool b :: r => some (b, [], r)
  | .str, .str b :: r => some (b, [], r)
  | .sl _ _, .nilsl :: r => some ([], [], r)
  | .sl _ t, v :: r => match rowOf m v with
    | some q => if h : q.t = t then some (h ▸ q.xs, names1 v, r) else none
    | none => none
  | .nil, r => some ((), [], r)
  | .cons a b, l => match viewC m a l with
    | some (x, c, r) => match viewC m b r with
      | some (y, c', r') => some ((x, y), c ++ c', r')
      | none => none
    | none => none
  | _, _ => none
/-- what a call is given: the data, the names that are lent, the names that are given up -/
def lendCell (m : Mem) : (f : Fm) → AV → Option (DenF f × List Nat × List Nat)
  | .int k, .int k' n => bif decide (k' = k) then some (n, [], []) else none
  | .bool, .bool b => some (b, [], [])
  | .str, .str b => some (b, [], [])
  | .sl _ t, .sl _ t' xs .imm => if h : t' = t then some (h ▸ xs, [], []) else none
  | .sl _ t, .sl _ t' xs (.inn n ver p) => if h : t' = t then (bif liveSrc m (.inn n ver p) then some (h ▸ xs, [n], []) else none) else none
  | .sl _ _, .nilsl => some ([], [], [])
  | .sl _ t, .ref n => match m n with
    | some (.root q) => if h : q.t = t then some (h ▸ q.xs, [n], []) else none
    | _ => none
  | .own e t d, .ref n => match m n with
    | some (.root q) => if h : q.t = t then (bif (Nat.beq q.e e && !q.pin) && (q.deep == d || !t.hasSl) then some (h ▸ q.xs, [], [n]) else none) else none
    | _ => none
  | .own _ _ _, .nilsl => some ([], [], [])
  | .pin _ e t d, .ref n => match m n with
    | some (.root q) => if h : q.t = t then (bif Nat.beq q.e e && (q.deep == d || !t.hasSl) then some (h ▸ q.xs, [], [n]) else none) else none
    | _ => none
  | .pin _ _ _ _, .nilsl => some ([], [], [])
  | .pin _ e t d, .sl _ _ _ (.inn n ver (some (i, o))) => match m n with
    | some (.root q) => bif Nat.beq q.ver ver && (q.deep && d) then (match getRow q.t (q.xs.getD i.toNat q.t.z) o with
      | some r => if h : r.t = t then (bif Nat.beq r.e e then some (h ▸ r.xs, [], [n]) else none) else none
      | none => none) else none
    | _ => none
  | .ptr t, .pro t' x 0 .imm => if h : t' = t then some (h ▸ x, [], []) else none
  | .ptr t, .pro t' x 0 (.inn n ver p) => if h : t' = t then (bif liveSrc m (.inn n ver p) then some (h ▸ x, [n], []) else none) else none
  | .ptr t, .pbox b 0 => match m b with
    | some (.box cs) => (match viewC m t cs with
      | some (x, l, []) => some (x, b :: l, [])
      | _ => none)
    | _ => none
  | _, _ => none
def lendCells (m : Mem) : (f : Fm) → List AV → Option (DenF f × List Nat × List Nat)
  | .nil, [] => some ((), [], [])
  | .cons a b, v :: r => match lendCell m a v with
    | some (x, l, w) => (match lendCells m b r with
      | some (y, l', w') => some ((x, y), l ++ l', w ++ w')
      | none => none)
    | none => none
  | _, _ => none
def lendV0 (m : Mem) : (f : Fm) → AV → Option (DenF f × List Nat × List Nat)
  | .agg f, .agg cs => lendCells m f cs
  | .bx f, .pbox b 0 => match m b with
    | some (.box cs) => (match lendCells m f cs with
      | some (x, l, w) => some (x, l, w ++ [b])
      | none => none)
    | _ => none
  | f, v => lendCell m f v
def lendVs0 (m : Mem) : (f : Fm) → List AV → Option (DenF f × List Nat × List Nat)
  | .nil, [] => some ((), [], [])
  | .cons a b, v :: r => match lendV0 m a v with
    | some (x, l, w) => (match lendVs0 m b r with
      | some (y, l', w') => some ((x, y), l ++ l', w ++ w')
      | none => none)
    | none => none
  | _, _ => none
def lendV (m : Mem) : (f : Fm) → AV → Option (DenF f × List Nat × List Nat)
  | .clo f c, .clo f' l => bif Nat.beq f' f then lendVs0 m c l else none
  | .clo f c, .fn f' => bif Nat.beq f' f then lendVs0 m c [] else none
  | f, v => lendV0 m f v
def lendVs (m : Mem) : (f : Fm) → List AV → Option (DenF f × List Nat × List Nat)
  | .nil, [] => some ((), [], [])
  | .cons a b, v :: r => match lendV m a v with
    | some (x, l, w) => (match lendVs m b r with
      | some (y, l', w') => some ((x, y), l ++ l', w ++ w')
      | none => none)
    | none => none
  | _, _ => none

/-- a called function: its arguments, its result, what it answers (and what comes back) -/
structure Spec where
  fa : Fm
  fr : Fm
  spec : DenF fa → Option (DenF fr × DenB fa)
/-- what comes back to the names that were lent to be written -/
def backCell (m : Mem) : (f : Fm) → AV → DenB f → Option (List W)
  | .pin _ _ _ _, .nilsl, _ => some []
  | .pin _ e t d, .ref n, x => match m n with
    | some (.root q) => bif Nat.beq q.t.sz t.sz then some [⟨n, some (.root ⟨e, t, x, d, q.pin, q.ver + 1⟩), false⟩] else none
    | _ => none
  | .pin _ _ t _, .sl _ _ _ (.inn n _ (some (i, o))), x => match m n with
    | some (.root q) => (match setRow t x q.t (q.xs.getD i.toNat q.t.z) o with
      | some y => some [⟨n, some (.root ⟨q.e, q.t, q.xs.set i.toNat y, q.deep, q.pin, q.ver + 1⟩), false⟩]
      | none => none)
    | _ => none
  | .pin _ _ _ _, _, _ => none
  | _, _, _ => some []
def backCells (m : Mem) : (f : Fm) → List AV → DenB f → Option (List W)
  | .nil, [], _ => some []
  | .cons a b, v :: r, x => match backCell m a v x.1 with
    | some l => (match backCells m b r x.2 with
      | some k => some (l ++ k)
      | none => none)
    | none => none
  | _, _, _ => none
/-- a box that comes back: its name, what it holds, the names for its rows -/
structure BB where
  b : Nat
  f : Fm
  y : DenF f
  n : Nat
def backV (m : Mem) : (f : Fm) → AV → DenB f → Nat → Option (List W × List BB)
  | .agg f, v, x, _ => bif f.hasPin then (match v with
    | .agg cs => (match backCells m f cs x with
      | some l => some (l, [])
      | none => none)
    | _ => none) else some ([], [])
  | .bx f, .pbox b _, y, n => some ([], [⟨b, f, y, n⟩])
  | .bx _, _, _, _ => none
  | f, v, x, _ => match backCell m f v x with
    | some l => some (l, [])
    | none => none
def backVs (m : Mem) : (f : Fm) → List AV → DenB f → Nat → Option (List W × List BB)
  | .nil, [], _, _ => some ([], [])
  | .cons a b, v :: r, x, n => match backV m a v x.1 n with
    | some l => (match backVs m b r x.2 (n + 16) with
      | some k => some (l.1 ++ k.1, l.2 ++ k.2)
      | none => none)
    | none => none
  | _, _, _, _ => none
def minus : List Nat → List Nat → List Nat
  | [], _ => []
  | x :: r, k => bif elemN x k then minus r k else x :: minus r k
def subN : List Nat → List Nat → Bool
  | [], _ => true
  | x :: r, k => bif elemN x k then subN r k else false
abbrev Orc := List (FuncId × Spec)
/-- a result as the caller gets it: the rows that it owns take the names from n on -/
def outCell : (f : Fm) → DenF f → Nat → AV × List W
  | .int k, n, _ => (.int k n, [])
  | .bool, b, _ => (.bool b, [])
  | .str, b, _ => (.str b, [])
  | .sl e t, xs, _ => (.sl e t xs .imm, [])
  | .own e t d, xs, n => (.ref n, [⟨n, some (.root ⟨e, t, xs, d, false, 0⟩), true⟩])
  | .pin _ e t d, xs, n => (.ref n, [⟨n, some (.root ⟨e, t, xs, d, false, 0⟩), true⟩])
  | .mp, es, n => (.mref n, [⟨n, some (.mp es), true⟩])
  | .ptr t, x, _ => (.pro t x 0 .imm, [])
  | _, _, _ => (.junk, [])
def outCells : (f : Fm) → DenF f → Nat → List AV × List W
  | .cons a b, x, n => let p := outCell a x.1 n; let q := outCells b x.2 (n + 1); (p.1 :: q.1, p.2 ++ q.2)
  | _, _, _ => ([], [])
def outV0 : (f : Fm) → DenF f → Nat → AV × List W
  | .agg f, x, n => let p := outCells f x n; (.agg p.1, p.2)
  | .box f, x, n => let p := outCells f x (n + 1); (.pbox n 0, p.2 ++ [⟨n, some (.box p.1), true⟩])
  | .bx f, x, n => let p := outCells f x (n + 1); (.pbox n 0, p.2 ++ [⟨n, some (.box p.1), true⟩])
  | f, x, n => outCell f x n
def outVs0 : (f : Fm) → DenF f → Nat → List AV × List W
  | .cons a b, x, n => let p := outV0 a x.1 n; let q := outVs0 b x.2 (n + 16); (p.1 :: q.1, p.2 ++ q.2)
  | _, _, _ => ([], [])
def outV : (f : Fm) → DenF f → Nat → AV × List W
  | .clo f c, x, n => let p := outVs0 c x n; (.clo f p.1, p.2)
  | .ifc T f, x, n => let p := outCells f x n; (.ifc T p.1, p.2)
  | .alt a b, x, n => match x with
    | .inl y => outV a y n
    | .inr y => outV b y n
  | f, x, n => outV0 f x n
def outVs : (f : Fm) → DenF f → Nat → List AV × List W
  | .cons a b, x, n => let p := outV a x.1 n; let q := outVs b x.2 (n + 16); (p.1 :: q.1, p.2 ++ q.2)
  | _, _, _ => ([], [])
def outR : (f : Fm) → DenF f → Nat → AV × List W
  | .tup f, x, n => let p := outVs f x n; (.tup p.1, p.2)
  | f, x, n => outV f x n
/-- one of several forms -/
def splitAlt {ρ : Type} : (f : Fm) → DenF f → ((g : Fm) → DenF g → ρ) → ρ
  | .alt a b, x, k => match x with
    | .inl y => splitAlt a y k
    | .inr y => splitAlt b y k
  | f, x, k => k f x
/-- what a box that comes back writes -/
def BB.ws (x : BB) : List W := (outCells x.f x.y x.n).2 ++ [⟨x.b, some (.box (outCells x.f x.y x.n).1), false⟩]

def bin2 (op : BinOp) (k : IntKind) (a b : Int) : AV :=
  match op with
  | .add => .int k (k.wrap (a + b))
  | .sub => .int k (k.wrap (a - b))
  | .mul => .int k (k.wrap (a * b))
  | .eql => .bool (a == b)
  | .neq => .bool (a != b)
  | .lss => .bool (decide (a < b))
  | .leq => .bool (decide (a ≤ b))
  | .gtr => .bool (decide (a > b))
  | .geq => .bool (decide (a ≥ b))
  | .quo => .int k (k.wrap (a.tdiv b))
  | .rem => .int k (a.tmod b)
  | .shl => .int k (k.wrap (a * 2 ^ (min b.toNat k.bits)))
  | .shr => .int k (a.fdiv (2 ^ (min b.toNat k.bits)))
  | .and => .int k (k.wrap (BitVec.ofInt k.bits a &&& BitVec.ofInt k.bits b).toNat)
  | .or => .int k (k.wrap (BitVec.ofInt k.bits a ||| BitVec.ofInt k.bits b).toNat)
  | .xor => .int k (k.wrap (BitVec.ofInt k.bits a ^^^ BitVec.ofInt k.bits b).toNat)
  | .andNot => .int k (k.wrap (BitVec.ofInt k.bits a &&& ~~~(BitVec.ofInt k.bits b)).toNat)
def needs (op : BinOp) (k k' : IntKind) (b : Int) : Bool :=
  match op with
  | .quo | .rem => decide (k = k') && !(decide (b = 0))
  | .shl | .shr => decide (0 ≤ b)
  | _ => decide (k = k')

def strOf (xs : List Int) : ByteArray := strOfNums xs
def bytesOf (s : ByteArray) : List Int := s.data.toList.map fun b => (b.toNat : Int)

def namesB (m : Mem) : AV → List Nat
  | .pbox n _ => n :: (match m n with
    | some (.box cs) => cs.flatMap names1
    | _ => [])
  | v => names1 v
def namesC (m : Mem) : AV → List Nat
  | .agg cs => cs.flatMap (namesB m)
  | v => namesB m v
def namesD (m : Mem) : AV → List Nat
  | .clo _ vs => vs.flatMap (namesC m)
  | .ifc _ cs => cs.flatMap (namesB m)
  | v => namesC m v
def namesV (m : Mem) : AV → List Nat
  | .tup vs => vs.flatMap (namesD m)
  | v => namesD m v

def szOk (T : Tab) (e : TypeId) (t : CT) : Bool := match lookO e T.lay with
  | some (_, u) => Nat.beq u.sz t.sz
  | none => false
def elOk (T : Tab) (S : TypeId) (t : CT) : Bool := match lookO S T.elem with
  | some e => szOk T e t && Nat.blt 0 t.sz
  | none => false

def cutSrc (m : Mem) : AV → Src
  | .sl _ _ _ (.inn n v _) => .inn n v none
  | .ref n => match m n with
    | some (.root q) => .inn n q.ver none
    | _ => .imm
  | _ => .imm
def sliceBounds (lo hi : Option Operand) (r : List AV) (n : Int) : Option (Int × Int) := match lo, hi, r with
  | none, none, [] => some (0, n)
  | some _, none, [.int _ a] => some (a, n)
  | none, some _, [.int _ b] => some (0, b)
  | some _, some _, [.int _ a, .int _ b] => some (a, b)
  | _, _, _ => none

/-- the first slots, if the function gives arguments back, stay as they are -/
def dOk (fx : Nat) : Option Nat → Bool
  | none => true
  | some d => Nat.ble fx d

section
variable {ρ : Type} (T : Tab) (O : Orc)

/-- append: what is appended to -/
def appX (S : TypeId) (m : Mem) : AV → Option (Root × List Nat)
  | .nilsl => match lookO S T.elem with
    | some e => (match lookO e T.lay with
      | some z => some (⟨e, z.2, [], true, false, 0⟩, [])
      | none => none)
    | none => none
  | .ref n => match m n with
    | some (.root q) => bif q.pin then none else some (q, [n])
    | _ => none
  | _ => none
/-- what is appended: the rows, are they wholly owned, the names given up -/
def appY (m : Mem) (t : CT) (g : List Nat) : AV → Option (List (Den t) × Bool × List Nat)
  | .nilsl => some ([], true, [])
  | .ref n => match m n with
    | some (.root q) => if h : q.t = t then (bif elemN n g then none else (bif t.hasSl then (bif q.pin then none else some (h ▸ q.xs, q.deep, [n])) else some (h ▸ q.xs, true, []))) else none
    | _ => none
  | .sl _ t' xs .imm => if h : t' = t then some (h ▸ xs, !t.hasSl, []) else none
  | .sl _ t' xs (.inn n ver p) => if h : t' = t then (bif liveSrc m (.inn n ver p) && !t.hasSl then some (h ▸ xs, true, []) else none) else none
  | _ => none
def evAppend (dn : Nat) (x y : AV) (m : Mem) (S : TypeId) (K : AV → List W → Option ρ) : Option ρ :=
  match appX T S m x with
  | none => none
  | some (q, g) => match appY m q.t g y with
    | none => none
    | some (ys, own, g2) => match lookO S T.elem, lookO q.e T.byt with
      | some e, some by_ => bif (Nat.beq e q.e && (Nat.blt 0 by_ && (Nat.blt 0 q.t.sz && szOk T q.e q.t))) && Nat.ble ((q.xs.length + ys.length) * by_) 140737488355328 then
            K (.ref dn) (gone g ++ (gone g2 ++ [⟨dn, some (.root ⟨q.e, q.t, q.xs ++ ys, q.deep && own, false, 0⟩), true⟩]))
          else none
      | _, _ => none

/-- struct literals -/
def fillC (fs : List (Nat × Nat × Bool)) : List AV → List (Nat × AV) → Option (List AV)
  | cs, [] => some cs
  | cs, (i, v) :: r => match (fs[i]? : Option (Nat × Nat × Bool)), flat v with
    | some (off, n, _), some l => bif Nat.beq l.length n && Nat.ble (off + n) cs.length then fillC fs (splice cs off l) r else none
    | _, _ => none

def rows (m : Mem) (t : CT) : List AV → Option (List (Den t) × Bool × List Nat)
  | [] => some ([], true, [])
  | v :: r => match flat v with
    | none => none
    | some l => match toDen m t l with
      | some (x, o, c, []) => (match rows m t r with
        | some (xs, o', c') => some (x :: xs, o && o', c ++ c')
        | none => none)
      | _ => none

def inRange (ps : List Nat) : Nat → Bool
  | n => match ps with
    | [] => true
    | p :: r => Nat.beq p n && inRange r (n + 1)

def lookS (n : String) : List (String × FuncId) → Option FuncId
  | [] => none
  | x :: r => bif x.1 == n then some x.2 else lookS n r
def evCall (dn : Nat) (g : FuncId) (args : List AV) (m : Mem) (K : AV → List W → Option ρ) : Option ρ :=
  match lookO g O with
  | some o => (match lendVs m o.fa args with
    | some (x, l, wr) => bif ((o.fr.hasImm || o.fa.immB) && !l.isEmpty) || (!nodupN wr || anyN l wr) then none else (match o.spec x with
      | some r => (match backVs m o.fa args r.2 (dn + 40) with
        | some ws => bif nodupN (ws.1.map (·.n) ++ ws.2.map (·.b)) && subN (ws.1.map (·.n) ++ ws.2.map (·.b)) wr then
            splitAlt o.fr r.1 fun h y => K (outR h y dn).1 (gone (minus wr (ws.1.map (·.n))) ++ (ws.1 ++ (ws.2.flatMap BB.ws ++ (outR h y dn).2))) else none
        | none => none)
      | none => none)
    | none => none)
  | none => none

def core (dn : Nat) (op : Op) (vs : List AV) (m : Mem) (K : AV → List W → Option ρ) : Option ρ :=
  match op, vs with
  | .move _, [x] => K x []
  | .assign _, [x] => K x []
  | .pick _ _ _, [.bool t, x, y] => (match x, y with
    | .bool x, .bool y => K (.bool (bif t then x else y)) []
    | x, y => bif t then K x [] else K y [])
  | .binOp op tx _ _ _, [x, y] => (match x, y with
    | .int k a, .int k' b => bif needs op k k' b then K (bin2 op k a b) [] else none
    | .bool a, .bool b => (match op, lookO tx T.lay with
      | .eql, some (false, .bool) => K (.bool (a == b)) []
      | .neq, some (false, .bool) => K (.bool (!(a == b))) []
      | _, _ => none)
    | .str a, .str b => (match op with
      | .eql => K (.bool (a.toList == b.toList)) []
      | .neq => K (.bool (!(a.toList == b.toList))) []
      | _ => none)
    | _, _ => none)
  | .unOp op _ _, [x] => (match op, x with
    | .not, .bool b => K (.bool (!b)) []
    | .neg, .int k n => K (.int k (k.wrap (0 - n))) []
    | _, _ => none)
  | .convert src dst _, [x] => (match lookO src T.lay, lookO dst T.lay, x with
    | some _, some (false, .int k), .int _ n => K (.int k (k.wrap n)) []
    | some (false, .sl e (.int .u8)), some (false, .str), x => (match lookO e T.lay, x with
      | some (false, .int .u8), .nilsl => K (.str ByteArray.empty) []
      | some (false, .int .u8), x => (match rowOf m x with
        | some ⟨_, .int .u8, xs⟩ => K (.str (strOf xs)) []
        | _ => none)
      | _, _ => none)
    | _, _, _ => none)
  | .alloc e, [] => (match lookO e T.lay with
    | some (_, t) => K (.pbox dn 0) [⟨dn, some (.box (zcells t)), true⟩]
    | none => none)
  | .box e _, [x] => (match flat x with
    | some [] => K (.pbox dn 0) [⟨dn, some (.zb e), true⟩]
    | some l => K (.pbox dn 0) [⟨dn, some (.box l), true⟩]
    | none => none)
  | .build S ps, vs => (match lookO S T.lay, lookO S T.fld with
    | some (true, t), some fs => (match fillC fs (zcells t) ((ps.toList.map (·.1)).zip vs) with
      | some cs => K (.agg cs) []
      | none => none)
    | _, _ => none)
  | .buildSlice S n ps, vs => (match lookO S T.elem with
    | some e => (match lookO e T.lay with
      | some (_, t) => bif ((Nat.beq n ps.size && inRange (ps.toList.map (·.1)) 0) && Nat.ble (n * t.sz) 16777216) && Nat.blt 0 t.sz then (match rows m t vs with
        | some (xs, o, c) => bif nodupN c then K (.ref dn) (gone c ++ [⟨dn, some (.root ⟨e, t, xs, o, false, 0⟩), true⟩]) else none
        | none => none) else none
      | none => none)
    | none => none)
  | .fieldAddr S _ j, [x] => (match ((lookO S T.fld).bind fun l => l[j]? : Option (Nat × Nat × Bool)) with
    | some (off, n, _) => (bif Nat.beq n 0 then (match x with
      | .pbox b 0 => (match m b, lookO S T.zf with
        | some (.zb e), some i => bif Nat.beq i j then (match lookO e T.lay with
          | some (_, t) => bif Nat.beq t.sz 0 then K (.pbox b 0) [] else none
          | none => none) else none
        | _, _ => none)
      | _ => none) else match x with
      | .pbox b q => K (.pbox b (q + off)) []
      | .pel r i q => K (.pel r i (q + off)) []
      | .pro t v q s => K (.pro t v (q + off) s) []
      | _ => none)
    | none => none)
  | .nilCheck _, [x] => (match x with
    | .pbox _ _ => K x []
    | .pel _ _ _ => K x []
    | .pro _ _ _ _ => K x []
    | _ => none)
  | .load L _, [x] => (match lookO L T.lay with
    | none => none
    | some (isAgg, t) => (match x with
      | .pbox b q => (match m b with
        | some (.box cs) => bif Nat.ble (q + t.sz) cs.length && (isAgg || Nat.beq t.sz 1) then K (unflat isAgg ((cs.drop q).take t.sz)) [] else none
        | some (.zb _) => bif Nat.beq t.sz 0 && isAgg then K (.agg []) [] else none
        | _ => none)
      | .pro u v q s => bif liveSrc m s && (Nat.ble (q + t.sz) u.sz && (isAgg || Nat.beq t.sz 1)) then K (unflat isAgg (((cells u v (fun _ => noPos s) 0).drop q).take t.sz)) [] else none
      | .pel n i q => (match m n with
        | some (.root r) => bif Nat.ble (q + t.sz) r.t.sz && (isAgg || Nat.beq t.sz 1) then K (unflat isAgg (((cells r.t (r.xs.getD i.toNat r.t.z) (fun o => .inn n r.ver (some (i, o))) 0).drop q).take t.sz)) [] else none
        | _ => none)
      | _ => none))
  | .store L _ _, [x, y] => (match lookO L T.lay, flat y with
    | some (_, t), some l => (match x with
      | .pbox b q => (match m b with
        | some (.box cs) => bif okCells l && (Nat.beq l.length t.sz && Nat.ble (q + l.length) cs.length) then K .junk [⟨b, some (.box (splice cs q l)), false⟩] else none
        | _ => none)
      | .pel n i q => (match m n with
        | some (.root r) => bif okCells l && (Nat.beq l.length t.sz && Nat.ble (q + l.length) r.t.sz) then (match putCs m r.t (r.xs.getD i.toNat r.t.z) q l with
          | some (v, own, used) => bif nodupN (n :: used) then K .junk (gone used ++ [⟨n, some (.root { r with xs := r.xs.set i.toNat v, deep := r.deep && own, ver := r.ver + 1 }), false⟩]) else none
          | none => none) else none
        | _ => none)
      | _ => none)
    | _, _ => none)
  | .field S _ j, [x] => (match ((lookO S T.fld).bind fun l => l[j]? : Option (Nat × Nat × Bool)), x with
    | some (off, n, a), .agg l => bif Nat.ble (off + n) l.length && (a || Nat.beq n 1) then K (unflat a ((l.drop off).take n)) [] else none
    | _, _ => none)
  | .indexAddr S _ _, [x, .int _ i] => (match x with
    | .sl _ t xs s => bif (liveSrc m s && elOk T S t) && (decide (0 ≤ i) && decide (i < (xs.length : Int))) then K (.pro t (xs.getD i.toNat t.z) 0 s) [] else none
    | .ref n => (match m n with
      | some (.root r) => bif elOk T S r.t && (decide (0 ≤ i) && decide (i < (r.xs.length : Int))) then K (.pel n i 0) [] else none
      | _ => none)
    | _ => none)
  | .slice S _ lo hi none, x :: r => (match rowOf m x with
    | some q => (match sliceBounds lo hi r (q.xs.length : Int) with
      | some (a, b) => bif elOk T S q.t && (decide (0 ≤ a) && (decide (a ≤ b) && decide (b ≤ (q.xs.length : Int)))) then K (.sl q.e q.t ((q.xs.take b.toNat).drop a.toNat) (cutSrc m x)) [] else none
      | none => none)
    | none => none)
  | .makeSlice S _ _, [.int .i64 a, .int .i64 b] => (match lookO S T.elem with
    | some e => (match lookO e T.lay, lookO e T.byt with
      | some (_, t), some by_ => bif (decide (0 ≤ a) && (decide (a ≤ b) && decide (b * (by_ : Int) ≤ 281474976710656))) && (Nat.blt 0 by_ && Nat.blt 0 t.sz) then K (.ref dn) [⟨dn, some (.root ⟨e, t, List.replicate a.toNat t.z, true, false, 0⟩), true⟩] else none
      | _, _ => none)
    | none => none)
  | .extract _ i, [.tup vs] => (match vs[i]? with
    | some v => K v []
    | none => none)
  | .makeFunc (.func f) first _, vs => bif Nat.beq first.size 0 && okV0s vs then K (.clo f vs) [] else none
  | .makeInterface X _, [x] => (match lookO X T.lay, x with
    | some (true, _), .agg cs => K (.ifc X cs) []
    | _, _ => none)
  | .makeMap _ none, [] => K (.mref dn) [⟨dn, some (.mp []), true⟩]
  | .lookup S _ _ ok, [.mref n, .str k] => (match lookO S T.maps, m n with
    | some _, some (.mp es) => K (bif ok then .tup [.int .i64 (mget k es), .bool (mhas k es)] else .int .i64 (mget k es)) []
    | _, _ => none)
  | .mapUpdate S _ _ _, [.mref n, .str k, .int .i64 v] => (match lookO S T.maps, m n with
    | some _, some (.mp es) => K .junk [⟨n, some (.mp (mput k v es)), false⟩]
    | _, _ => none)
  | .mapEntry S _ _, [.mref n, .str k] => (match lookO S T.maps, m n with
    | some _, some (.mp es) => K (.tup [.int .i64 (mget k es), .int .i64 (midx k es : Int)]) [⟨n, some (.mp (mput k (mget k es) es)), false⟩]
    | _, _ => none)
  | .entryStore _ _ _ _, [.mref n, .int .i64 i, .int .i64 v] => (match m n with
    | some (.mp es) => bif decide (0 ≤ i) && decide (i < (es.length : Int)) then K .junk [⟨n, some (.mp (es.modify i.toNat fun e => (e.1, v))), false⟩] else none
    | _ => none)
  | .call c, vs => (match c.callee, vs with
    | .builtin .len, [x] => (match c.argTypes[0]? with
      | none => none
      | some S => (match x with
        | .nilsl => (match lookO S T.elem with
          | some _ => K (.int .i64 0) []
          | none => none)
        | .mref n => (match lookO S T.maps, m n with
          | some _, some (.mp es) => K (.int .i64 (es.length : Int)) []
          | _, _ => none)
        | .str b => (match lookO S T.lay with
          | some (false, .str) => K (.int .i64 (b.size : Int)) []
          | _ => none)
        | x => (match lookO S T.elem, rowOf m x with
          | some _, some r => K (.int .i64 (r.xs.length : Int)) []
          | _, _ => none)))
    | .builtin .min, [.int k x, .int _ y] => K (.int k (bif decide (y < x) then y else x)) []
    | .builtin .append, [x, y] => (match c.argTypes.toList with
      | [S, S'] => bif Nat.beq S S' then evAppend T dn x y m S K else none
      | _ => none)
    | .value _, f :: args =>
      let ga : Option (FuncId × List AV) := match f with
        | .fn g => some (g, args)
        | .clo g caps => some (g, args ++ caps)
        | _ => none
      (match ga with
      | some (g, args) => evCall O dn g args m K
      | none => none)
    | .invoke _ nm, .ifc X cs :: args => (match lookO X T.meth with
      | some ms => (match lookS nm ms with
        | some g => evCall O dn g (.agg cs :: args) m K
        | none => none)
      | none => none)
    | _, _ => none)
  | _, _ => none

def evalOp (fx : Nat) (o : Oper) (s : St) (m : Mem) (K : St → Option ρ) : Option ρ :=
  core T O ((o.dst.getD 0) * 64) o.op (o.op.operands.toList.map s.op) m fun v w => bif freshOk s.us w && dOk fx o.dst then K ((s.write w).put o.dst v) else none

def evalOps (fx : Nat) (ops : List Oper) : List Oper → St → (St → Option ρ) → Option ρ
  | [], s, K => K s
  | o :: r, s, K => match o.guard with
    | none => evalOp T O fx o s s.st fun s => evalOps fx ops r s K
    | some (j, want) => match ((ops[j]?).bind (·.dst)) with
      | some d => match s.tm d with
        | .bool b => bif b == want then evalOp T O fx o (s.put (some d) (.bool want)) s.st fun s => evalOps fx ops r s K
            else (bif dOk fx o.dst then evalOps fx ops r ((s.put (some d) (.bool (!want))).put o.dst (.tup [])) K else none)
        | .tup [] => bif dOk fx o.dst then evalOps fx ops r (s.put o.dst (.tup [])) K else none
        | _ => none
      | none => none
end
end Go.Ev

set_option autoImplicit false
namespace Go.Ev

/-! ### regions whose order is open: the text's order, with a record of what each operation reads and writes -/
structure Rec where
  d : Option Nat
  rd : List Nat
  ns : List Nat
  wk : List Nat

def meets (a b : List Nat) : Bool := match a with
  | [] => false
  | x :: r => bif elemN x b then true else meets r b
def dIn (d : Option Nat) (l : List Nat) : Bool := match d with
  | some d => elemN d l
  | none => false
def sameD (d e : Option Nat) : Bool := match d, e with
  | some d, some e => Nat.beq d e
  | _, _ => false
def conflict (a b : Rec) : Bool :=
  dIn a.d b.rd || (dIn b.d a.rd || (sameD a.d b.d || (meets a.wk b.ns || (meets a.wk b.wk || meets b.wk a.ns))))
/-- record j, the j-th, against those before it -/
def indepOne (mask : Nat) (r : Rec) : Nat → List Rec → Bool
  | _, [] => true
  | i, q :: l => bif mask.testBit i || !conflict q r then indepOne mask r (i + 1) l else false
def indepAll (bef : List Nat) : List Rec → Nat → List Rec → Bool
  | _, _, [] => true
  | seen, j, r :: l => bif indepOne (bef.getD j 0) r 0 seen then indepAll bef (seen ++ [r]) (j + 1) l else false

/-- what each operation waits for, as bits; and: only for what stands before it -/
def force {α : Type} (n : Nat) (k : Nat → α) : α := match n with | 0 => k 0 | m + 1 => k (m + 1)
def msk1 (acc : List Nat) : List Edge → Nat
  | [] => 0
  | e :: r => bif Region.binds .any e then (2 ^ e.on ||| acc.getD e.on 0) ||| msk1 acc r else msk1 acc r
def befs : List Oper → List Nat → List Nat
  | [], acc => acc
  | o :: r, acc => force (msk1 acc o.after.toList) fun v => befs r (acc ++ [v])
def edgesOk (i : Nat) : List Edge → Bool
  | [] => true
  | e :: r => bif Region.binds .any e then (bif Nat.blt e.on i then edgesOk i r else false) else edgesOk i r
def ordOk : Nat → List Oper → Bool
  | _, [] => true
  | i, o :: r => bif edgesOk i o.after.toList then ordOk (i + 1) r else false
def tmpsOf (o : Oper) : List Nat := o.op.operands.toList.filterMap fun | .tmp t => some t | _ => none
def rm (ns : List Nat) (m : Mem) : Mem := fun n => bif elemN n ns then m n else none

section
variable {ρ : Type} (T : Tab) (O : Orc)
def evalOpR (fx : Nat) (o : Oper) (g : List Nat) (s : St) (K : St → Rec → Option ρ) : Option ρ :=
  let vs := o.op.operands.toList.map s.op
  let ns := vs.flatMap (namesV s.st)
  core T O ((o.dst.getD 0) * 64) o.op vs (rm ns s.st) fun v w => bif freshOk s.us w && dOk fx o.dst then K ((s.write w).put o.dst v) ⟨o.dst, g ++ tmpsOf o, ns, w.map (·.n)⟩ else none
def evalOpsR (fx : Nat) (ops : List Oper) : List Oper → St → List Rec → (St → List Rec → Option ρ) → Option ρ
  | [], s, rs, K => K s rs
  | o :: r, s, rs, K => match o.guard with
    | none => evalOpR T O fx o [] s fun s q => evalOpsR fx ops r s (rs ++ [q]) K
    | some (j, want) => match ((ops[j]?).bind (·.dst)) with
      | some d => match s.tm d with
        | .bool b => bif b == want then evalOpR T O fx o [d] (s.put (some d) (.bool want)) fun s q => evalOpsR fx ops r s (rs ++ [q]) K
            else (bif dOk fx o.dst then evalOpsR fx ops r ((s.put (some d) (.bool (!want))).put o.dst (.tup [])) (rs ++ [⟨o.dst, [d], [], []⟩]) K else none)
        | .tup [] => bif dOk fx o.dst then evalOpsR fx ops r (s.put o.dst (.tup [])) (rs ++ [⟨o.dst, [d], [], []⟩]) K else none
        | _ => none
      | none => none
end

/-! ### what stays live at a loop's head, and behind it -/
def exCell (m : Mem) : (f : Fm) → AV → Option (DenF f × List Nat)
  | .int k, .int k' n => bif decide (k' = k) then some (n, []) else none
  | .bool, .bool b => some (b, [])
  | .str, .str b => some (b, [])
  | .sl _ t, .sl _ t' xs .imm => if h : t' = t then some (h ▸ xs, []) else none
  | .sl _ t, .sl _ t' xs (.inn n ver p) => if h : t' = t then (bif liveSrc m (.inn n ver p) then some (h ▸ xs, [n]) else none) else none
  | .sl _ t, .ref n => match m n with
    | some (.root q) => if h : q.t = t then some (h ▸ q.xs, [n]) else none
    | _ => none
  | .sl _ _, .nilsl => some ([], [])
  | .own e t d, .ref n => match m n with
    | some (.root q) => if h : q.t = t then (bif Nat.beq q.e e && ((q.deep || !d) && !q.pin) then some (h ▸ q.xs, [n]) else none) else none
    | _ => none
  | .own _ _ _, .nilsl => some ([], [])
  | .mp, .mref n => match m n with
    | some (.mp es) => some (es, [n])
    | _ => none
  | .ptr t, .pro t' x 0 .imm => if h : t' = t then some (h ▸ x, []) else none
  | _, _ => none
def exCells (m : Mem) : (f : Fm) → List AV → Option (DenF f × List Nat)
  | .nil, [] => some ((), [])
  | .cons a b, v :: r => match exCell m a v with
    | some (x, l) => (match exCells m b r with
      | some (y, l') => some ((x, y), l ++ l')
      | none => none)
    | none => none
  | _, _ => none
def exV0 (m : Mem) : (f : Fm) → AV → Option (DenF f × List Nat)
  | .agg f, .agg cs => exCells m f cs
  | .box f, .pbox b 0 => match m b with
    | some (.box cs) => (match exCells m f cs with
      | some (x, l) => some (x, l ++ [b])
      | none => none)
    | _ => none
  | f, v => exCell m f v
def exVs0 (m : Mem) : (f : Fm) → List AV → Option (DenF f × List Nat)
  | .nil, [] => some ((), [])
  | .cons a b, v :: r => match exV0 m a v with
    | some (x, l) => (match exVs0 m b r with
      | some (y, l') => some ((x, y), l ++ l')
      | none => none)
    | none => none
  | _, _ => none
def exV (m : Mem) : (f : Fm) → AV → Option (DenF f × List Nat)
  | .clo f c, .clo f' l => bif Nat.beq f' f then exVs0 m c l else none
  | .ifc T f, .ifc T' cs => bif Nat.beq T' T then exCells m f cs else none
  | .alt a b, v => match exV m a v with
    | some (x, l) => some (.inl x, l)
    | none => match exV m b v with
      | some (x, l) => some (.inr x, l)
      | none => none
  | f, v => exV0 m f v
def exVs (m : Mem) : (f : Fm) → List AV → Option (DenF f × List Nat)
  | .nil, [] => some ((), [])
  | .cons a b, v :: r => match exV m a v with
    | some (x, l) => (match exVs m b r with
      | some (y, l') => some ((x, y), l ++ l')
      | none => none)
    | none => none
  | _, _ => none
def ex (sl : List Nat) (f : Fm) (s : St) : Option (DenF f) := match exVs s.st f (sl.map s.tm) with
  | some (x, l) => bif nodupN l then some x else none
  | none => none
def exR (m : Mem) : (f : Fm) → List AV → Option (DenF f × List Nat)
  | .tup f, vs => bif Nat.beq vs.length 1 then none else exVs m f vs
  | f, [v] => exV m f v
  | _, _ => none

/-- what the arguments that come back hold at the end -/
def unitB : (f : Fm) → Option (DenB f)
  | .pin _ _ _ _ => none
  | .agg f => unitB f
  | .cons a b => match unitB a with
    | some x => (match unitB b with
      | some y => some (x, y)
      | none => none)
    | none => none
  | .bx _ => none
  | .int _ | .bool | .str | .sl _ _ | .own _ _ _ | .box _ | .tup _ | .nil | .mp | .ptr _ | .clo _ _ | .ifc _ _ | .alt _ _ => some ()
def exBC (m : Mem) : (f : Fm) → AV → Option (DenB f × List Nat)
  | .pin _ e t d, v => exCell m (.own e t d) v
  | f, _ => match unitB f with
    | some u => some (u, [])
    | none => none
def exBCs (m : Mem) : (f : Fm) → List AV → Option (DenB f × List Nat)
  | .nil, [] => some ((), [])
  | .cons a b, v :: r => match exBC m a v with
    | some (x, l) => (match exBCs m b r with
      | some (y, l') => some ((x, y), l ++ l')
      | none => none)
    | none => none
  | _, _ => none
def exBV (m : Mem) : (f : Fm) → AV → Option (DenB f × List Nat)
  | .agg f, v => bif f.hasPin then (match v with
    | .agg cs => exBCs m f cs
    | _ => none) else (match unitB f with
    | some u => some (u, [])
    | none => none)
  | .bx f, v => exV0 m (.box f) v
  | f, v => exBC m f v
def exBVs (m : Mem) : (f : Fm) → List AV → Option (DenB f × List Nat)
  | .nil, [] => some ((), [])
  | .cons a b, v :: r => match exBV m a v with
    | some (x, l) => (match exBVs m b r with
      | some (y, l') => some ((x, y), l ++ l')
      | none => none)
    | none => none
  | _, _ => none
def fxOf : Fm → Nat → Nat
  | .cons a b, i => bif b.hasPin then fxOf b (i + 1) else (bif a.hasPin then i + 1 else 0)
  | _, _ => 0

def st0 (nt : Nat) : St := ⟨fun _ => .junk, fun _ => none, fun _ => false, nt⟩
def inVs : St → List Nat → (f : Fm) → DenF f → Option St
  | s, [], .nil, _ => some s
  | s, n :: r, .cons a b, x => bif freshOk s.us (outV a x.1 (n * 64)).2 then inVs ((s.write (outV a x.1 (n * 64)).2).put (some n) (outV a x.1 (n * 64)).1) r b x.2 else none
  | _, _, _, _ => none
def inj (nt : Nat) (sl : List Nat) (f : Fm) (x : DenF f) : Option St := inVs (st0 nt) sl f x

structure LoopO (ρ : Type) where
  hs : List Nat
  head : Fm
  xs : List Nat
  exit : Fm
  run : DenF head → (Nat → DenF exit → Option ρ) → Option ρ

def firstRegion : Code → Nat
  | .region id _ _ => id
  | .seq a _ => firstRegion a
  | .cond _ a _ => firstRegion a
  | .block _ b => firstRegion b
  | .loop b => firstRegion b
  | .scope b => firstRegion b
  | _ => 0

def evalCode {ρ : Type} (fx : Nat) (T : Tab) (O : Orc) (L : List (Nat × LoopO ρ)) (R : St → Option ρ) : Code → St → (St → Option ρ) → (Nat → St → Option ρ) → Option ρ
  | .skip, s, K, _ => K s
  | .region _ ops draw, s, K, _ => bif draw then evalOpsR T O fx ops.toList ops.toList s [] (fun s rs => bif ordOk 0 ops.toList && indepAll (befs ops.toList []) [] 0 rs then K s else none) else evalOps T O fx ops.toList ops.toList s K
  | .seq a b, s, K, X => evalCode fx T O L R a s (fun s => evalCode fx T O L R b s K X) X
  | .cond c a b, s, K, X => match s.op c with
    | .bool t => bif t then evalCode fx T O L R a s K X else evalCode fx T O L R b s K X
    | _ => none
  | .block id b, s, K, X => evalCode fx T O L R b s K (fun i s => bif Nat.beq i id then K s else X i s)
  | .loop b, s, _, X => match lookO (firstRegion b) L with
    | some l => (match ex l.hs l.head s with
      | some x => l.run x fun i y => (match inj s.nt l.xs l.exit y with
        | some s' => X i s'
        | none => none)
      | none => none)
    | none => none
  | .exit id, s, _, X => X id s
  | .ret, s, _, _ => R s
  | _, _, _, _ => none

def resV (T : Tab) (s : St) : ResultVar → Option AV
  | .tmp t => some (s.tm t)
  | .cell p L => match lookO L T.lay, s.tm p with
    | some (isAgg, t), .pbox b 0 => (match s.st b with
      | some (.box cs) => bif Nat.beq t.sz cs.length && (isAgg || Nat.beq t.sz 1) then some (unflat isAgg cs) else none
      | _ => none)
    | _, _ => none
def resVs (T : Tab) (s : St) : List ResultVar → Option (List AV)
  | [] => some []
  | x :: r => match resV T s x with
    | some v => (match resVs T s r with
      | some l => some (v :: l)
      | none => none)
    | none => none
def fin (T : Tab) (f : Func) (fa rf : Fm) (np : Nat) (s : St) : Option (DenF rf × DenB fa) := match resVs T s f.results.toList with
  | some vs => (match exR s.st rf vs with
    | some (x, l) => (match exBVs s.st fa ((List.range np).map s.tm) with
      | some (y, k) => bif nodupN (l ++ k) then some (x, y) else none
      | none => none)
    | none => none)
  | none => none

def bodyOf (f : Func) : Code := f.body.getD .skip
/-- the loop whose first region is n -/
def loopAt (n : Nat) : Code → Option Code
  | .seq a b => match loopAt n a with | some c => some c | none => loopAt n b
  | .cond _ a b => match loopAt n a with | some c => some c | none => loopAt n b
  | .block _ b => loopAt n b
  | .loop b => bif Nat.beq (firstRegion b) n then some b else loopAt n b
  | _ => none
def loopBody (n : Nat) (f : Func) : Code := (loopAt n (bodyOf f)).getD .skip

def evalF (T : Tab) (f : Func) (fa fr : Fm) (np : Nat) (O : Orc) (L : List (Nat × LoopO (DenF fr × DenB fa))) (x : DenF fa) : Option (DenF fr × DenB fa) :=
  match inj (max np f.ntmps) (List.range np) fa x with
  | some s => evalCode (fxOf fa 0) T O L (fin T f fa fr np) (bodyOf f) s (fun _ => none) (fun _ _ => none)
  | none => none
def evalL (T : Tab) (f : Func) (fa fr : Fm) (np : Nat) (n : Nat) (O : Orc) (L : List (Nat × LoopO (DenF fr × DenB fa))) (hs : List Nat) (head : Fm) (xs : List Nat) (exit : Fm)
    (Rc : DenF head → Option (DenF fr × DenB fa)) (X : Nat → DenF exit → Option (DenF fr × DenB fa)) (x : DenF head) : Option (DenF fr × DenB fa) :=
  match inj (max np f.ntmps) hs head x with
  | some s => evalCode (fxOf fa 0) T O L (fin T f fa fr np) (loopBody n f) s (fun s => match ex hs head s with
    | some x => Rc x
    | none => none) (fun i s => match ex xs exit s with
    | some y => X i y
    | none => none)
  | none => none
end Go.Ev

set_option autoImplicit false
namespace Go.Ev

/-! ### what memory says of data -/
/-- the elements of a row: their cells, one behind the other, and the blocks that they own -/
def All {α : Type} (p : α → List Value → List Nat → Prop) : List α → List Value → List Nat → Prop
  | [], cs, F => cs = [] ∧ F = []
  | x :: r, cs, F => ∃ c1 c2 F1 F2, cs = c1 ++ c2 ∧ F = F1 ++ F2 ∧ p x c1 F1 ∧ All p r c2 F2

theorem All.imp {α : Type} {p q : α → List Value → List Nat → Prop} : ∀ {l : List α} {cs : List Value} {F : List Nat}, (∀ x c G, x ∈ l → (∀ b, b ∈ G → b ∈ F) → p x c G → q x c G) → All p l cs F → All q l cs F
  | [], _, _, _, h => h
  | x :: r, _, _, hi, ⟨c1, c2, F1, F2, e1, e2, h1, h2⟩ =>
    ⟨c1, c2, F1, F2, e1, e2, hi x c1 F1 (by simp) (fun b hb => by rw [e2]; simp [hb]) h1, h2.imp fun y c G hy hG hp => hi y c G (by simp [hy]) (fun b hb => by rw [e2]; simp [hG b hb]) hp⟩
theorem All.len {α : Type} {p : α → List Value → List Nat → Prop} {n : Nat} (hn : ∀ x c G, p x c G → c.length = n) : ∀ {l : List α} {cs : List Value} {F : List Nat}, All p l cs F → cs.length = l.length * n
  | [], _, _, h => by simp [h.1]
  | x :: r, _, _, ⟨c1, c2, F1, F2, e1, e2, h1, h2⟩ => by rw [e1, List.length_append, hn _ _ _ h1, h2.len hn, List.length_cons, Nat.add_mul]; omega
theorem All.app {α : Type} {p : α → List Value → List Nat → Prop} : ∀ {l l' : List α} {cs cs' : List Value} {F F' : List Nat}, All p l cs F → All p l' cs' F' → All p (l ++ l') (cs ++ cs') (F ++ F')
  | [], _, _, _, _, _, h, h' => by rw [h.1, h.2]; exact h'
  | x :: r, _, _, _, _, _, ⟨c1, c2, F1, F2, e1, e2, h1, h2⟩, h' => ⟨c1, _, F1, _, by rw [e1, List.append_assoc], by rw [e2, List.append_assoc], h1, h2.app h'⟩
/-- one element, and what puts another in its place -/
theorem All.focus {α : Type} {p : α → List Value → List Nat → Prop} {n : Nat} (hn : ∀ x c G, p x c G → c.length = n) : ∀ {l : List α} {cs : List Value} {F : List Nat} (i : Nat) (h : i < l.length), All p l cs F →
    ∃ c1 c c2 F1 G F2, cs = c1 ++ c ++ c2 ∧ F = F1 ++ G ++ F2 ∧ c1.length = i * n ∧ p l[i] c G ∧
      ∀ (q : α → List Value → List Nat → Prop) y c' G', (∀ x c H, (∀ b, b ∈ H → b ∈ F1 ∨ b ∈ F2) → p x c H → q x c H) → q y c' G' → All q (l.set i y) (c1 ++ c' ++ c2) (F1 ++ G' ++ F2)
  | [], _, _, i, h, _ => by simp at h
  | x :: r, _, _, 0, _, ⟨c1, c2, F1, F2, e1, e2, h1, h2⟩ => ⟨[], c1, c2, [], F1, F2, by simpa using e1, by simpa using e2, by simp, h1, fun q y c' G' hi hy => ⟨c', c2, G', F2, by simp, by simp, hy, h2.imp fun x c H _ hH hp => hi x c H (fun b hb => .inr (hH b hb)) hp⟩⟩
  | x :: r, _, _, i + 1, h, ⟨c1, c2, F1, F2, e1, e2, h1, h2⟩ => by
    obtain ⟨d1, d, d2, G1, G, G2, e3, e4, e5, h3, h4⟩ := h2.focus hn i (by simpa using h)
    refine ⟨c1 ++ d1, d, d2, F1 ++ G1, G, G2, by rw [e1, e3]; simp, by rw [e2, e4]; simp, by rw [List.length_append, hn _ _ _ h1, e5, Nat.add_mul]; omega, by simpa using h3, fun q y c' G' hi hy => ?_⟩
    refine ⟨c1, d1 ++ c' ++ d2, F1, G1 ++ G' ++ G2, by simp, by simp, hi _ _ _ (fun b hb => .inl (by simp [hb])) h1, ?_⟩
    exact h4 q y c' G' (fun x c H hH hp => hi x c H (fun b hb => by rcases hH b hb with h | h <;> simp [h]) hp) hy

def Cells (w : World) (a : Addr) (cs : List Value) : Prop := ∀ j u, cs[j]? = some u → w.cell? (a.add j) = some u

/-- x, laid out as t, is what the cells say; with d, all that they lead to is owned, by the blocks of F; without, it lies in R -/
def Rp (w : World) (R : Nat → Prop) (d : Bool) : (t : CT) → Den t → List Value → List Nat → Prop
  | .int k, x, cs, F => cs = [.int k x] ∧ F = []
  | .bool, x, cs, F => cs = [.bool x] ∧ F = []
  | .str, x, cs, F => cs = [.string x] ∧ F = []
  | .sl e t, x, cs, F => match d with
    | true => ∃ v ds Fi, cs = [v] ∧ w.ownsRow 0 e t.sz v x.length ds ∧ F = v.ownBlock.toList ++ Fi ∧ All (Rp w R true t) x ds Fi
    | false => ∃ A c ds, cs = [.slice A x.length c] ∧ F = [] ∧ x.length ≤ c ∧ All (Rp w R false t) x ds [] ∧ (ds ≠ [] → ∃ a, A = some a ∧ R a.block ∧ Cells w a ds)
  | .nil, _, cs, F => cs = [] ∧ F = []
  | .cons a b, x, cs, F => ∃ c1 c2 F1 F2, cs = c1 ++ c2 ∧ F = F1 ++ F2 ∧ Rp w R d a x.1 c1 F1 ∧ Rp w R d b x.2 c2 F2

theorem Rp.len {w : World} {R : Nat → Prop} {d : Bool} : ∀ {t : CT} {x : Den t} {cs : List Value} {F : List Nat}, Rp w R d t x cs F → cs.length = t.sz
  | .int _, _, _, _, h => by rw [h.1]; rfl
  | .bool, _, _, _, h => by rw [h.1]; rfl
  | .str, _, _, _, h => by rw [h.1]; rfl
  | .sl e t, x, cs, F, h => by
    cases d
    · obtain ⟨A, c, ds, e, _⟩ := h; rw [e]; rfl
    · obtain ⟨v, ds, Fi, e, _⟩ := h; rw [e]; rfl
  | .nil, _, _, _, h => by rw [h.1]; rfl
  | .cons a b, x, cs, F, ⟨c1, c2, F1, F2, e1, e2, h1, h2⟩ => by rw [e1, List.length_append, h1.len, h2.len]; rfl
theorem Rp.noF {w : World} {R : Nat → Prop} : ∀ {t : CT} {x : Den t} {cs : List Value} {F : List Nat}, Rp w R false t x cs F → F = []
  | .int _, _, _, _, h => h.2
  | .bool, _, _, _, h => h.2
  | .str, _, _, _, h => h.2
  | .sl e t, x, cs, F, ⟨A, c, ds, _, e2, _⟩ => e2
  | .nil, _, _, _, h => h.2
  | .cons a b, x, cs, F, ⟨c1, c2, F1, F2, e1, e2, h1, h2⟩ => by rw [e2, h1.noF, h2.noF]; rfl

theorem ownsRow_same {w w' : World} {e sz n : Nat} {v : Value} {ds : List Value} (h : w.ownsRow 0 e sz v n ds) (hb : ∀ b, b ∈ v.ownBlock.toList → w'.heap[b]? = w.heap[b]?) : w'.ownsRow 0 e sz v n ds := by
  refine ⟨h.1, ?_⟩
  rcases h.2 with h2 | ⟨g, cap, cur, rfl, h3, h4, h5⟩
  · exact .inl h2
  · exact .inr ⟨g, cap, cur, rfl, h3, by rw [hb g (by simp [Value.ownBlock])]; exact h4, h5⟩
theorem Cells.same {w w' : World} {a : Addr} {cs : List Value} (h : Cells w a cs) (hb : w'.heap[a.block]? = w.heap[a.block]?) : Cells w' a cs := by
  intro j u hu
  have hj : (a.add j).block = a.block := by unfold Addr.add; split <;> rfl
  have e : w'.cell? (a.add j) = w.cell? (a.add j) := World.cell?_of_block (by rw [hj]; exact hb)
  rw [e]
  exact h j u hu

/-- what is told stays, where the blocks stay -/
theorem Rp.keep {w w' : World} {R R' : Nat → Prop} {d : Bool} (hR : ∀ b, R b → R' b ∧ w'.heap[b]? = w.heap[b]?) : ∀ {t : CT} {x : Den t} {cs : List Value} {F : List Nat}, (∀ b, b ∈ F → w'.heap[b]? = w.heap[b]?) → Rp w R d t x cs F → Rp w' R' d t x cs F
  | .int _, _, _, _, _, h => h
  | .bool, _, _, _, _, h => h
  | .str, _, _, _, _, h => h
  | .sl e t, x, cs, F, hF, h => by
    cases d
    · obtain ⟨A, c, ds, e1, e2, h1, h2, h3⟩ := h
      refine ⟨A, c, ds, e1, e2, h1, h2.imp fun y c G _ hG hp => hp.keep hR (fun b hb => absurd (hG b hb) (by simp)), fun hd => ?_⟩
      obtain ⟨a, ea, ha, hc⟩ := h3 hd
      exact ⟨a, ea, (hR _ ha).1, hc.same (hR _ ha).2⟩
    · obtain ⟨v, ds, Fi, e1, h1, e2, h2⟩ := h
      exact ⟨v, ds, Fi, e1, ownsRow_same h1 (fun b hb => hF b (by rw [e2]; simp [hb])), e2, h2.imp fun y c G _ hG hp => hp.keep hR (fun b hb => hF b (by rw [e2]; simp [hG b hb]))⟩
  | .nil, _, _, _, _, h => h
  | .cons a b, x, cs, F, hF, ⟨c1, c2, F1, F2, e1, e2, h1, h2⟩ =>
    ⟨c1, c2, F1, F2, e1, e2, h1.keep hR (fun b hb => hF b (by rw [e2]; simp [hb])), h2.keep hR (fun b hb => hF b (by rw [e2]; simp [hb]))⟩

theorem own_imm {w : World} {e sz n : Nat} {v : Value} {ds : List Value} (h : w.ownsRow 0 e sz v n ds) : ∃ A c, v = .slice A n c ∧ n ≤ c ∧ (ds ≠ [] → ∃ a, A = some a ∧ a.block ∈ v.ownBlock.toList ∧ Cells w a ds) := by
  rcases h.2 with ⟨rfl, rfl⟩ | ⟨g, cap, cur, rfl, _, h4, h5, h6, h7, h8⟩
  · refine ⟨none, 0, rfl, Nat.le_refl _, fun hd => absurd (List.eq_nil_of_length_eq_zero (by rw [h.1]; simp)) hd⟩
  · exact ⟨some ⟨g, 0, none⟩, cap, rfl, h5, fun _ => ⟨_, rfl, by simp [Value.ownBlock], fun j u hu => h.cells (g := g) rfl j u hu⟩⟩
/-- what is owned, told as what is only read -/
theorem Rp.freeze {w : World} {R R' : Nat → Prop} (hR : ∀ b, R b → R' b) : ∀ {d : Bool} {t : CT} {x : Den t} {cs : List Value} {F : List Nat}, (∀ b, b ∈ F → R' b) → Rp w R d t x cs F → Rp w R' false t x cs []
  | _, .int _, _, _, _, _, h => ⟨h.1, rfl⟩
  | _, .bool, _, _, _, _, h => ⟨h.1, rfl⟩
  | _, .str, _, _, _, _, h => ⟨h.1, rfl⟩
  | false, .sl e t, x, cs, F, hF, h => by
    have e := Rp.noF h
    subst e
    exact Rp.keep (w' := w) (fun b hb => ⟨hR b hb, rfl⟩) (fun _ _ => rfl) h
  | true, .sl e t, x, cs, F, hF, ⟨v, ds, Fi, e1, h1, e2, h2⟩ => by
    obtain ⟨A, c, rfl, hc, hd⟩ := own_imm h1
    have h3 : ∀ (l : List (Den t)) (ds : List Value) (G : List Nat), (∀ b, b ∈ G → R' b) → All (Rp w R true t) l ds G → All (Rp w R' false t) l ds [] := by
      intro l
      induction l with
      | nil => intro ds G _ h; exact ⟨h.1, rfl⟩
      | cons y r ih =>
        rintro ds G hG ⟨c1, c2, F1, F2, e1, e2, h1, h2⟩
        exact ⟨c1, c2, [], [], e1, rfl, h1.freeze hR (fun b hb => hG b (by rw [e2]; simp [hb])), ih c2 F2 (fun b hb => hG b (by rw [e2]; simp [hb])) h2⟩
    refine ⟨A, c, ds, e1, rfl, hc, h3 x ds Fi (fun b hb => hF b (by rw [e2]; simp [hb])) h2, fun hne => ?_⟩
    obtain ⟨a, ea, hb, hcs⟩ := hd hne
    exact ⟨a, ea, hF _ (by rw [e2]; simp only [List.mem_append]; exact .inl hb), hcs⟩
  | _, .nil, _, _, _, _, h => ⟨h.1, rfl⟩
  | _, .cons a b, x, cs, F, hF, ⟨c1, c2, F1, F2, e1, e2, h1, h2⟩ =>
    ⟨c1, c2, [], [], e1, rfl, h1.freeze hR (fun b hb => hF b (by rw [e2]; simp [hb])), h2.freeze hR (fun b hb => hF b (by rw [e2]; simp [hb]))⟩
theorem All.freeze {w : World} {R R' : Nat → Prop} {d : Bool} {t : CT} (hR : ∀ b, R b → R' b) : ∀ {l : List (Den t)} {ds : List Value} {G : List Nat}, (∀ b, b ∈ G → R' b) → All (Rp w R d t) l ds G → All (Rp w R' false t) l ds []
  | [], _, _, _, h => ⟨h.1, rfl⟩
  | y :: r, ds, G, hG, ⟨c1, c2, F1, F2, e1, e2, h1, h2⟩ =>
    ⟨c1, c2, [], [], e1, rfl, h1.freeze hR (fun b hb => hG b (by rw [e2]; simp [hb])), h2.freeze hR (fun b hb => hG b (by rw [e2]; simp [hb]))⟩
/-- data that lead to nothing: told either way -/
theorem Rp.flatT {w : World} {R : Nat → Prop} {d d' : Bool} : ∀ {t : CT} {x : Den t} {cs : List Value} {F : List Nat}, t.hasSl = false → Rp w R d t x cs F → F = [] ∧ Rp w R d' t x cs []
  | .int _, _, _, _, _, h => ⟨h.2, h.1, rfl⟩
  | .bool, _, _, _, _, h => ⟨h.2, h.1, rfl⟩
  | .str, _, _, _, _, h => ⟨h.2, h.1, rfl⟩
  | .sl e t, _, _, _, ht, _ => by simp [CT.hasSl] at ht
  | .nil, _, _, _, _, h => ⟨h.2, h.1, rfl⟩
  | .cons a b, x, cs, F, ht, ⟨c1, c2, F1, F2, e1, e2, h1, h2⟩ => by
    simp only [CT.hasSl, Bool.or_eq_false_iff] at ht
    obtain ⟨f1, g1⟩ := h1.flatT (d' := d') ht.1
    obtain ⟨f2, g2⟩ := h2.flatT (d' := d') ht.2
    exact ⟨by rw [e2, f1, f2]; rfl, c1, c2, [], [], e1, rfl, g1, g2⟩
theorem All.flatT {w : World} {R : Nat → Prop} {d d' : Bool} {t : CT} (ht : t.hasSl = false) : ∀ {l : List (Den t)} {cs : List Value} {F : List Nat}, All (Rp w R d t) l cs F → F = [] ∧ All (Rp w R d' t) l cs []
  | [], _, _, h => ⟨h.2, h.1, rfl⟩
  | x :: r, cs, F, ⟨c1, c2, F1, F2, e1, e2, h1, h2⟩ => by
    obtain ⟨f1, g1⟩ := h1.flatT (d' := d') ht
    obtain ⟨f2, g2⟩ := All.flatT (d' := d') ht h2
    exact ⟨by rw [e2, f1, f2]; rfl, c1, c2, [], [], e1, rfl, g1, g2⟩
theorem Rp.lt {w : World} {R : Nat → Prop} : ∀ {d : Bool} {t : CT} {x : Den t} {cs : List Value} {F : List Nat}, Rp w R d t x cs F → ∀ b, b ∈ F → b < w.heap.size
  | _, .int _, _, _, _, h => by simp [h.2]
  | _, .bool, _, _, _, h => by simp [h.2]
  | _, .str, _, _, _, h => by simp [h.2]
  | false, .sl e t, x, cs, F, h => by simp [Rp.noF h]
  | true, .sl e t, x, cs, F, ⟨v, ds, Fi, e1, h1, e2, h2⟩ => by
    have h3 : ∀ (l : List (Den t)) (ds : List Value) (G : List Nat), All (Rp w R true t) l ds G → ∀ b, b ∈ G → b < w.heap.size := by
      intro l
      induction l with
      | nil => intro ds G h; simp [h.2]
      | cons y r ih =>
        rintro ds G ⟨c1, c2, F1, F2, e1, e2, h1, h2⟩ b hb
        rw [e2, List.mem_append] at hb
        rcases hb with hb | hb
        · exact h1.lt b hb
        · exact ih c2 F2 h2 b hb
    intro b hb
    rw [e2, List.mem_append] at hb
    rcases hb with hb | hb
    · exact (h1.lt b (by simpa using hb)).2
    · exact h3 x ds Fi h2 b hb
  | _, .nil, _, _, _, h => by simp [h.2]
  | _, .cons a b, x, cs, F, ⟨c1, c2, F1, F2, e1, e2, h1, h2⟩ => by
    intro b hb
    rw [e2, List.mem_append] at hb
    rcases hb with hb | hb
    · exact h1.lt b hb
    · exact h2.lt b hb
theorem All.lt {w : World} {R : Nat → Prop} {d : Bool} {t : CT} : ∀ {l : List (Den t)} {ds : List Value} {G : List Nat}, All (Rp w R d t) l ds G → ∀ b, b ∈ G → b < w.heap.size
  | [], _, _, h => by simp [h.2]
  | y :: r, ds, G, ⟨c1, c2, F1, F2, e1, e2, h1, h2⟩ => by
    intro b hb
    rw [e2, List.mem_append] at hb
    rcases hb with hb | hb
    · exact h1.lt b hb
    · exact h2.lt b hb
end Go.Ev

set_option autoImplicit false
namespace Go.Ev

def L2 {α β : Type} (p : α → β → Prop) : List α → List β → Prop
  | [], l => l = []
  | x :: r, l => ∃ y l', l = y :: l' ∧ p x y ∧ L2 p r l'
theorem L2.imp {α β : Type} {p q : α → β → Prop} (h : ∀ x y, p x y → q x y) : ∀ {l : List α} {l' : List β}, L2 p l l' → L2 q l l'
  | [], _, e => e
  | _ :: _, _, ⟨y, l', e, h1, h2⟩ => ⟨y, l', e, h _ _ h1, h2.imp h⟩
theorem L2.len {α β : Type} {p : α → β → Prop} : ∀ {l : List α} {l' : List β}, L2 p l l' → l'.length = l.length
  | [], _, e => by rw [show _ = [] from e]; rfl
  | _ :: _, _, ⟨y, l', e, h1, h2⟩ => by rw [e, List.length_cons, List.length_cons, h2.len]
theorem L2.app {α β : Type} {p : α → β → Prop} : ∀ {l k : List α} {l' k' : List β}, L2 p l l' → L2 p k k' → L2 p (l ++ k) (l' ++ k')
  | [], _, _, _, e, h => by rw [show _ = [] from e]; exact h
  | _ :: _, _, _, _, ⟨y, l', e, h1, h2⟩, h => by rw [e]; exact ⟨y, _, rfl, h1, h2.app h⟩
theorem L2.take {α β : Type} {p : α → β → Prop} : ∀ {l : List α} {l' : List β} (n : Nat), L2 p l l' → L2 p (l.take n) (l'.take n)
  | _, _, 0, _ => by simp [L2]
  | [], _, _ + 1, e => by rw [show _ = [] from e]; simp [L2]
  | _ :: _, _, n + 1, ⟨y, l', e, h1, h2⟩ => by rw [e]; exact ⟨y, _, rfl, h1, h2.take n⟩
theorem L2.drop {α β : Type} {p : α → β → Prop} : ∀ {l : List α} {l' : List β} (n : Nat), L2 p l l' → L2 p (l.drop n) (l'.drop n)
  | _, _, 0, h => by simpa using h
  | [], _, _ + 1, e => by rw [show _ = [] from e]; simp [L2]
  | _ :: _, _, n + 1, ⟨y, l', e, h1, h2⟩ => by rw [e]; exact h2.drop n
theorem L2.get {α β : Type} {p : α → β → Prop} : ∀ {l : List α} {l' : List β} (n : Nat) (x : α), L2 p l l' → l[n]? = some x → ∃ y, l'[n]? = some y ∧ p x y
  | [], _, n, x, _, hx => by simp at hx
  | z :: r, _, 0, x, ⟨y, l', e, h1, h2⟩, hx => by rw [e]; simp at hx; subst hx; exact ⟨y, rfl, h1⟩
  | z :: r, _, n + 1, x, ⟨y, l', e, h1, h2⟩, hx => by rw [e]; obtain ⟨y', h3, h4⟩ := h2.get n x (by simpa using hx); exact ⟨y', by simpa using h3, h4⟩

/-- where the names lie: a row's value, its blocks, its length, its elements' size; a box's block -/
structure Env where
  V : Nat → Value
  F : Nat → List Nat
  B : Nat → Nat
  L : Nat → Nat
  S : Nat → Nat

def RS (R : Nat → Prop) (E : Env) : Src → Nat → Prop
  | .imm => R
  | .inn n _ _ => fun b => R b ∨ b ∈ E.F n
/-- where in its row a value lies -/
def AtPos (w : World) (R : Nat → Prop) (E : Env) : Src → Value → Prop
  | .inn n _ (some (i, o)), v => ∃ g, (E.V n).ownBlock = some g ∧ (R g ∨ g ∈ E.F n) ∧ 0 ≤ i ∧ i < (E.L n : Int) ∧ w.cell? ⟨g, i.toNat * E.S n + o, none⟩ = some v
  | _, _ => True
def usedSrc (m : Mem) (us : Nat → Bool) : Src → Prop
  | .imm => True
  | .inn n ver _ => us n = true ∧ ∀ q, m n = some (.root q) → ver ≤ q.ver

/-- a map's entries -/
def mpEnt : Nat → List (ByteArray × Int) → List MapEntry
  | _, [] => []
  | i, e :: r => ⟨.string e.1, .int .i64 e.2, i⟩ :: mpEnt (i + 1) r
section
variable (w : World) (R : Nat → Prop) (m : Mem) (us : Nat → Bool) (E : Env)
def RC : AV → Value → Prop
  | .int k n, v => v = .int k n
  | .bool b, v => v = .bool b
  | .str s, v => v = .string s
  | .sl e t xs src, v => usedSrc m us src ∧ (∃ A n c, v = .slice A n c) ∧ (liveSrc m src = true → Rp w (RS R E src) false (.sl e t) xs [v] []) ∧ (liveSrc m src = true → AtPos w R E src v)
  | .ref n, v => us n = true ∧ v = E.V n ∧ ∃ A k c, v = .slice A k c
  | .nilsl, v => v = .slice none 0 0
  | .pbox b off, v => us b = true ∧ v = .pointer (some ⟨E.B b, off, none⟩)
  | .pel n i off, v => us n = true ∧ 0 ≤ i ∧ i < (E.L n : Int) ∧ ∃ g, (E.V n).ownBlock = some g ∧ v = .pointer (some ⟨g, i.toNat * E.S n + off, none⟩)
  | .pro t x off src, v => usedSrc m us src ∧ (∃ p : Addr, v = .pointer (some p)) ∧ (liveSrc m src = true → ∃ a ds, v = .pointer (some (a.add off)) ∧ Rp w (RS R E src) false t x ds [] ∧ Cells w a ds ∧ (ds ≠ [] → RS R E src a.block))
  | .fn f, v => v = .func (.func f) #[] #[]
  | .mref n, v => us n = true ∧ v = .map (some (E.B n))
  | .junk, _ => True
  | _, _ => False
def RV0 : AV → Value → Prop
  | .agg cs, v => ∃ vs : List Value, v = .agg vs.toArray ∧ L2 (RC w R m us E) cs vs
  | x, v => RC w R m us E x v
def RV1 : AV → Value → Prop
  | .clo f l, v => ∃ vs : List Value, v = .func (.func f) #[] vs.toArray ∧ L2 (RV0 w R m us E) l vs
  | .ifc X cs, v => ∃ vs : List Value, v = .iface X (.agg vs.toArray) ∧ L2 (RC w R m us E) cs vs
  | x, v => RV0 w R m us E x v
def RV : AV → Value → Prop
  | .tup l, v => ∃ vs : List Value, v = .tuple vs.toArray ∧ L2 (RV1 w R m us E) l vs
  | x, v => RV1 w R m us E x v
def SR (n : Nat) : Prop := match m n with
  | none => E.F n = []
  | some (.root q) => E.L n = q.xs.length ∧ E.S n = q.t.sz ∧ ∃ ds Fi, w.ownsRow 0 q.e q.t.sz (E.V n) q.xs.length ds ∧ E.F n = (E.V n).ownBlock.toList ++ Fi ∧ All (Rp w R q.deep q.t) q.xs ds Fi
  | some (.mp es) => E.F n = [E.B n] ∧ ∃ arr, w.heap[E.B n]? = some (.map arr es.length) ∧ arr.toList = mpEnt 0 es
  | some (.zb e) => E.F n = [E.B n] ∧ w.heap[E.B n]? = some (.cells #[] e (0, 0))
  | some (.box cs) => E.F n = [E.B n] ∧ ∃ arr T, w.heap[E.B n]? = some (.cells arr T (0, 0)) ∧ L2 (RC w R m us E) cs arr.toList
end

/-- from one place to a later one, for the values that are told -/
structure Move (w : World) (R : Nat → Prop) (m : Mem) (us : Nat → Bool) (E : Env) (w' : World) (R' : Nat → Prop) (m' : Mem) (us' : Nat → Bool) (E' : Env) : Prop where
  fus : ∀ n, us n = true → us' n = true
  nm : ∀ n, us n = true → E'.V n = E.V n ∧ E'.B n = E.B n ∧ E'.L n = E.L n ∧ E'.S n = E.S n
  fR : ∀ b, R b → R' b ∧ w'.heap[b]? = w.heap[b]?
  ver : ∀ n q', us n = true → m' n = some (.root q') → ∃ q, m n = some (.root q) ∧ q.ver ≤ q'.ver ∧ (q.ver = q'.ver → ∀ b, b ∈ E.F n → (R' b ∨ b ∈ E'.F n) ∧ w'.heap[b]? = w.heap[b]?)

section
variable {w : World} {R : Nat → Prop} {m : Mem} {us : Nat → Bool} {E : Env} {w' : World} {R' : Nat → Prop} {m' : Mem} {us' : Nat → Bool} {E' : Env}
theorem Move.src (h : Move w R m us E w' R' m' us' E') {src : Src} (hu : usedSrc m us src) : usedSrc m' us' src ∧ (liveSrc m' src = true → liveSrc m src = true ∧ ∀ b, RS R E src b → RS R' E' src b ∧ w'.heap[b]? = w.heap[b]?) := by
  cases src with
  | imm => exact ⟨trivial, fun _ => ⟨rfl, fun b hb => h.fR b hb⟩⟩
  | inn n ver pos =>
    obtain ⟨hu1, hu2⟩ := hu
    refine ⟨⟨h.fus n hu1, fun q' hq' => ?_⟩, fun hl => ?_⟩
    · obtain ⟨q, h1, h2, _⟩ := h.ver n q' hu1 hq'
      exact Nat.le_trans (hu2 q h1) h2
    · replace hl : (match m' n with | some (.root q) => Nat.beq q.ver ver | _ => false) = true := hl
      cases hm : m' n with
      | none => rw [hm] at hl; simp at hl
      | some en =>
        rw [hm] at hl
        cases en with
        | box cs | mp es | zb ze => simp at hl
        | root q' =>
          obtain ⟨q, h1, h2, h3⟩ := h.ver n q' hu1 hm
          have e : q'.ver = ver := Nat.eq_of_beq_eq_true hl
          have e2 : q.ver = q'.ver := by have := hu2 q h1; omega
          refine ⟨(by show (match m n with | some (.root q) => Nat.beq q.ver ver | _ => false) = true; rw [h1]; simp only; rw [e2, e]; exact Nat.beq_refl ver), fun b hb => ?_⟩
          rcases hb with hb | hb
          · exact ⟨.inl (h.fR b hb).1, (h.fR b hb).2⟩
          · exact h3 e2 b hb
theorem AtPos.move (h : Move w R m us E w' R' m' us' E') {src : Src} {v : Value} (hx : AtPos w R E src v) (hu : usedSrc m us src) (hb : ∀ b, RS R E src b → RS R' E' src b ∧ w'.heap[b]? = w.heap[b]?) : AtPos w' R' E' src v := by
  cases src with
  | imm => trivial
  | inn n ver pos =>
    cases pos with
    | none => trivial
    | some p =>
      obtain ⟨i, o⟩ := p
      obtain ⟨g, h1, h2, h3, h4, h5⟩ := hx
      obtain ⟨e1, _, e3, e4⟩ := h.nm n hu.1
      obtain ⟨h6, h7⟩ := hb g h2
      refine ⟨g, by rw [e1]; exact h1, h6, h3, by rw [e3]; exact h4, ?_⟩
      rw [e4]
      rw [World.cell?_of_block (w := w) (w' := w') (by exact h7)]
      exact h5
theorem RC.move (h : Move w R m us E w' R' m' us' E') {x : AV} {v : Value} (hx : RC w R m us E x v) : RC w' R' m' us' E' x v := by
  cases x with
  | int | bool | str | nilsl | fn | junk => exact hx
  | agg | tup | clo | ifc => exact hx
  | mref n => exact ⟨h.fus n hx.1, by rw [(h.nm n hx.1).2.1]; exact hx.2⟩
  | sl e t xs src =>
    obtain ⟨h1, h2⟩ := h.src hx.1
    exact ⟨h1, hx.2.1, fun hl => (hx.2.2.1 (h2 hl).1).keep (h2 hl).2 (fun b hb => by simp at hb), fun hl => (hx.2.2.2 (h2 hl).1).move h hx.1 (h2 hl).2⟩
  | ref n => exact ⟨h.fus n hx.1, by rw [(h.nm n hx.1).1]; exact hx.2.1, hx.2.2⟩
  | pbox b off => exact ⟨h.fus b hx.1, by rw [(h.nm b hx.1).2.1]; exact hx.2⟩
  | pel n i off =>
    obtain ⟨h1, h2, h3, h4⟩ := hx
    obtain ⟨e1, _, e3, e4⟩ := h.nm n h1
    exact ⟨h.fus n h1, h2, by rw [e3]; exact h3, by rw [e1, e4]; exact h4⟩
  | pro t y off src =>
    obtain ⟨h1, h2⟩ := h.src hx.1
    refine ⟨h1, hx.2.1, fun hl => ?_⟩
    obtain ⟨a, ds, e, hr, hc, hb⟩ := hx.2.2 (h2 hl).1
    refine ⟨a, ds, e, hr.keep (h2 hl).2 (fun b hb => by simp at hb), ?_, fun hd => ((h2 hl).2 _ (hb hd)).1⟩
    by_cases hd : ds = []
    · subst hd; intro j u hu; simp at hu
    · exact hc.same ((h2 hl).2 _ (hb hd)).2
theorem RV0.move (h : Move w R m us E w' R' m' us' E') {x : AV} {v : Value} (hx : RV0 w R m us E x v) : RV0 w' R' m' us' E' x v := by
  cases x with
  | agg cs => obtain ⟨vs, e, h1⟩ := hx; exact ⟨vs, e, h1.imp fun _ _ => RC.move h⟩
  | _ => simp only [RV0] at hx ⊢; exact RC.move h hx
theorem RV1.move (h : Move w R m us E w' R' m' us' E') {x : AV} {v : Value} (hx : RV1 w R m us E x v) : RV1 w' R' m' us' E' x v := by
  cases x with
  | clo f l => obtain ⟨vs, e, h1⟩ := hx; exact ⟨vs, e, h1.imp fun _ _ => RV0.move h⟩
  | ifc X l => obtain ⟨vs, e, h1⟩ := hx; exact ⟨vs, e, h1.imp fun _ _ => RC.move h⟩
  | _ => simp only [RV1] at hx ⊢; exact RV0.move h hx
theorem RV.move (h : Move w R m us E w' R' m' us' E') {x : AV} {v : Value} (hx : RV w R m us E x v) : RV w' R' m' us' E' x v := by
  cases x with
  | tup l => obtain ⟨vs, e, h1⟩ := hx; exact ⟨vs, e, h1.imp fun _ _ => RV1.move h⟩
  | _ => simp only [RV] at hx ⊢; exact RV1.move h hx
/-- a name that nobody touched -/
theorem SR.move (h : Move w R m us E w' R' m' us' E') {n : Nat} (hu : us n = true) (hm : m' n = m n) (hF : E'.F n = E.F n) (hb : ∀ b, b ∈ E.F n → w'.heap[b]? = w.heap[b]?) (hx : SR w R m us E n) : SR w' R' m' us' E' n := by
  unfold SR at hx ⊢
  rw [hm, hF]
  obtain ⟨e1, e2, e3, e4⟩ := h.nm n hu
  rw [e1, e2, e3, e4]
  cases hmn : m n with
  | none => rw [hmn] at hx; exact hx
  | some en =>
    rw [hmn] at hx
    cases en with
    | root q =>
      obtain ⟨l1, l2, ds, Fi, h1, h2, h3⟩ := hx
      exact ⟨l1, l2, ds, Fi, ownsRow_same h1 (fun b hb' => hb b (by rw [h2]; exact List.mem_append.2 (.inl hb'))), h2, h3.imp fun y c G _ hG hp => hp.keep h.fR (fun b hb' => hb b (by rw [h2]; exact List.mem_append.2 (.inr (hG b hb'))))⟩
    | zb e => exact ⟨hx.1, by rw [hb _ (by rw [hx.1]; simp)]; exact hx.2⟩
    | mp es =>
      obtain ⟨l1, arr, h1, h2⟩ := hx
      exact ⟨l1, arr, by rw [hb _ (by rw [l1]; simp)]; exact h1, h2⟩
    | box cs =>
      obtain ⟨l1, arr, T, h1, h2⟩ := hx
      exact ⟨l1, arr, T, by rw [hb _ (by rw [l1]; simp)]; exact h1, h2.imp fun _ _ => RC.move h⟩
end

/-- all that was there at the call's begin is as it was, but for the blocks of F0 -/
structure Keep (w0 w : World) (F0 : List Nat) : Prop where
  os : w.os = w0.os
  tape : w.tape = w0.tape
  output : w.output = w0.output
  size : w0.heap.size ≤ w.heap.size
  block : ∀ k, k < w0.heap.size → k ∉ F0 → w.heap[k]? = w0.heap[k]?
theorem Keep.refl (w : World) (F : List Nat) : Keep w w F := ⟨rfl, rfl, rfl, Nat.le_refl _, fun _ _ _ => rfl⟩

structure Ctx where
  w0 : World
  R0 : Nat → Prop
  F0 : List Nat
  a0 : Nat → Value

structure Sim (C : Ctx) (s : St) (a : Act) (w : World) (R : Nat → Prop) (E : Env) : Prop where
  tm : ∀ t, RV w R s.st s.us E (s.tm t) (a.tmps.getD t undef)
  nt : s.nt = a.tmps.size
  df : a.defers = []
  st : ∀ n, SR w R s.st s.us E n
  un : ∀ n, s.us n = false → s.st n = none
  sub : ∀ b, C.R0 b → R b
  lt : ∀ b, R b → b < w.heap.size
  own : ∀ n b, b ∈ E.F n → ¬ R b ∧ b < w.heap.size ∧ (C.w0.heap.size ≤ b ∨ b ∈ C.F0)
  nd : ∀ n, (E.F n).Nodup
  dj : ∀ n k b, n ≠ k → b ∈ E.F n → b ∉ E.F k
  keep : Keep C.w0 w C.F0
  nw : ∀ b, R b → C.R0 b ∨ C.w0.heap.size ≤ b ∨ b ∈ C.F0

theorem Sim.noneF {C : Ctx} {s : St} {a : Act} {w : World} {R : Nat → Prop} {E : Env} (h : Sim C s a w R E) {n : Nat} (hn : s.st n = none) : E.F n = [] := by
  have := h.st n
  unfold SR at this
  rw [hn] at this
  exact this

/-- a value put into a slot -/
theorem Sim.put {C : Ctx} {s : St} {a : Act} {w : World} {R : Nat → Prop} {E : Env} (h : Sim C s a w R E) (d : Option Nat) {v : AV} {u : Value} (hv : RV w R s.st s.us E v u) : Sim C (s.put d v) (a.put d u) w R E := by
  cases d with
  | none => exact h
  | some d =>
    by_cases hd : d < s.nt
    · have e : s.put (some d) v = { s with tm := upd s.tm d v } := by
        unfold St.put
        simp [show Nat.blt d s.nt = true by rw [Nat.blt_eq]; exact hd]
      rw [e]
      refine ⟨fun t => ?_, ?_, h.df, h.st, h.un, h.sub, h.lt, h.own, h.nd, h.dj, h.keep, h.nw⟩
      · show RV w R s.st s.us E (upd s.tm d v t) ((a.tmps.setIfInBounds d u).getD t undef)
        have hs : d < a.tmps.size := by rw [← h.nt]; exact hd
        by_cases ht : t = d
        · subst ht
          have e1 : upd s.tm t v t = v := by simp [upd]
          have e2 : (a.tmps.setIfInBounds t u).getD t undef = u := by simp [Array.getD, hs]
          rw [e1, e2]
          exact hv
        · have e1 : upd s.tm d v t = s.tm t := by
            have : Nat.beq t d = false := by
              cases hh : Nat.beq t d with
              | false => rfl
              | true => exact absurd (Nat.eq_of_beq_eq_true hh) ht
            simp [upd, this]
          have e2 : (a.tmps.setIfInBounds d u).getD t undef = a.tmps.getD t undef := by
            simp only [Array.getD_eq_getD_getElem?]
            rw [Array.getElem?_setIfInBounds_ne (by omega)]
          rw [e1, e2]
          exact h.tm t
      · show s.nt = (a.tmps.setIfInBounds d u).size
        rw [Array.size_setIfInBounds]
        exact h.nt
    · have e : s.put (some d) v = s := by
        unfold St.put
        have : Nat.blt d s.nt = false := by
          cases hh : Nat.blt d s.nt with
          | false => rfl
          | true => exact absurd (by rw [Nat.blt_eq] at hh; exact hh) hd
        simp [this]
      have e2 : a.put (some d) u = a := by
        unfold Act.put
        have hs : ¬ d < a.tmps.size := by rw [← h.nt]; exact hd
        simp [Array.setIfInBounds, hs]
      rw [e, e2]
      exact h
end Go.Ev

set_option autoImplicit false
namespace Go.Ev
theorem beq_ne {a b : Nat} (h : a ≠ b) : Nat.beq a b = false := by
  cases hh : Nat.beq a b with
  | false => rfl
  | true => exact absurd (Nat.eq_of_beq_eq_true hh) h
theorem upd_at {α : Type} (f : Nat → α) (d : Nat) (v : α) : upd f d v d = v := by simp [upd]
theorem upd_ne {α : Type} (f : Nat → α) {d i : Nat} (v : α) (h : i ≠ d) : upd f d v i = f i := by simp [upd, beq_ne h]
theorem upd_self {α : Type} (f : Nat → α) (d : Nat) : upd f d (f d) = f := by
  funext i
  by_cases h : i = d
  · subst h; exact upd_at ..
  · exact upd_ne _ _ h

variable {C : Ctx} {s : St} {a : Act} {w : World} {R : Nat → Prop} {E : Env}

theorem SR.congr {w : World} {R : Nat → Prop} {m : Mem} {us : Nat → Bool} {E : Env} {n : Nat} (h : m n = none) (hF : E.F n = []) : SR w R m us E n := by
  unfold SR; rw [h]; exact hF

/-- names that are not used yet stand for nothing -/
theorem Sim.unF (h : Sim C s a w R E) {n : Nat} (hn : s.us n = false) : E.F n = [] := h.noneF (h.un n hn)

/-- the world grows: nothing that is told turns -/
theorem Sim.grow (h : Sim C s a w R E) {w' : World} (hb : ∀ b, b < w.heap.size → w'.heap[b]? = w.heap[b]?) (hs : w.heap.size ≤ w'.heap.size) (hk : Keep C.w0 w' C.F0) : Sim C s a w' R E := by
  have mv : Move w R s.st s.us E w' R s.st s.us E :=
    ⟨fun _ h => h, fun _ _ => ⟨rfl, rfl, rfl, rfl⟩, fun b hb' => ⟨hb', hb b (h.lt b hb')⟩, fun n q' _ hq => ⟨q', hq, Nat.le_refl _, fun _ b hb' => ⟨.inr hb', hb b (h.own n b hb').2.1⟩⟩⟩
  refine ⟨fun t => RV.move mv (h.tm t), h.nt, h.df, fun n => ?_, h.un, h.sub, fun b hb' => Nat.lt_of_lt_of_le (h.lt b hb') hs, fun n b hb' => ⟨(h.own n b hb').1, Nat.lt_of_lt_of_le (h.own n b hb').2.1 hs, (h.own n b hb').2.2⟩, h.nd, h.dj, hk, h.nw⟩
  cases hu : s.us n with
  | false => exact SR.congr (h.un n hu) (h.unF hu)
  | true => exact SR.move mv hu rfl rfl (fun b hb' => hb b (h.own n b hb').2.1) (h.st n)
theorem Keep.grow {w0 w w' : World} {F0 : List Nat} (h : Keep w0 w F0) (hb : ∀ b, b < w.heap.size → w'.heap[b]? = w.heap[b]?) (hs : w.heap.size ≤ w'.heap.size) (h1 : w'.os = w.os) (h2 : w'.tape = w.tape) (h3 : w'.output = w.output) : Keep w0 w' F0 :=
  ⟨h1.trans h.os, h2.trans h.tape, h3.trans h.output, Nat.le_trans h.size hs, fun k hk hF => (hb k (Nat.lt_of_lt_of_le hk h.size)).trans (h.block k hk hF)⟩

/-- a name given up -/
def Env.drop (E : Env) (n : Nat) : Env := { E with F := upd E.F n [] }
theorem Sim.drop (h : Sim C s a w R E) (n : Nat) : Sim C { s with st := upd s.st n none } a w R (E.drop n) := by
  have hF : ∀ k b, b ∈ (E.drop n).F k → k ≠ n ∧ b ∈ E.F k := by
    intro k b hb
    by_cases hk : k = n
    · subst hk; simp [Env.drop, upd_at] at hb
    · refine ⟨hk, ?_⟩
      simp only [Env.drop] at hb
      rw [upd_ne _ _ hk] at hb
      exact hb
  have mv : Move w R s.st s.us E w R (upd s.st n none) s.us (E.drop n) := by
    refine ⟨fun _ h => h, fun _ _ => ⟨rfl, rfl, rfl, rfl⟩, fun b hb' => ⟨hb', rfl⟩, fun k q' _ hq => ?_⟩
    by_cases hk : k = n
    · subst hk; rw [upd_at] at hq; cases hq
    · rw [upd_ne _ _ hk] at hq
      refine ⟨q', hq, Nat.le_refl _, fun _ b hb' => ⟨.inr ?_, rfl⟩⟩
      simp only [Env.drop]
      rw [upd_ne _ _ hk]
      exact hb'
  refine ⟨fun t => RV.move mv (h.tm t), h.nt, h.df, fun k => ?_, fun k hk => ?_, h.sub, h.lt, fun k b hb => h.own k b (hF k b hb).2, fun k => ?_, fun k l b hkl hb hb' => h.dj k l b hkl (hF k b hb).2 (hF l b hb').2, h.keep, h.nw⟩
  · by_cases hk : k = n
    · subst hk
      exact SR.congr (by simp [upd_at]) (by simp [Env.drop, upd_at])
    · cases hu : s.us k with
      | false => exact SR.congr (by simp only; rw [upd_ne _ _ hk]; exact h.un k hu) (by simp only [Env.drop]; rw [upd_ne _ _ hk]; exact h.unF hu)
      | true => exact SR.move mv hu (upd_ne _ _ hk) (by simp only [Env.drop]; rw [upd_ne _ _ hk]) (fun _ _ => rfl) (h.st k)
  · show upd s.st n none k = none
    by_cases hkn : k = n
    · subst hkn; exact upd_at ..
    · rw [upd_ne _ _ hkn]; exact h.un k hk
  · by_cases hkn : k = n
    · subst hkn; simp [Env.drop, upd_at]
    · simp only [Env.drop]; rw [upd_ne _ _ hkn]; exact h.nd k
theorem Sim.dropF {n k : Nat} (hk : k ≠ n) : (E.drop n).F k = E.F k := by simp only [Env.drop]; exact upd_ne _ _ hk
theorem Sim.dropAt {n : Nat} : (E.drop n).F n = [] := by simp only [Env.drop]; exact upd_at ..

/-- a name's rows become what is only read -/
theorem Sim.freeze (h : Sim C s a w R E) (n : Nat) : Sim C { s with st := upd s.st n none } a w (fun b => R b ∨ b ∈ E.F n) (E.drop n) := by
  have mv : Move w R s.st s.us E w (fun b => R b ∨ b ∈ E.F n) (upd s.st n none) s.us (E.drop n) := by
    refine ⟨fun _ h => h, fun _ _ => ⟨rfl, rfl, rfl, rfl⟩, fun b hb' => ⟨.inl hb', rfl⟩, fun k q' _ hq => ?_⟩
    by_cases hk : k = n
    · subst hk; rw [upd_at] at hq; cases hq
    · rw [upd_ne _ _ hk] at hq
      refine ⟨q', hq, Nat.le_refl _, fun _ b hb' => ⟨.inr ?_, rfl⟩⟩
      rw [Sim.dropF hk]
      exact hb'
  have hF : ∀ k b, b ∈ (E.drop n).F k → k ≠ n ∧ b ∈ E.F k := by
    intro k b hb
    by_cases hk : k = n
    · subst hk; rw [Sim.dropAt] at hb; cases hb
    · exact ⟨hk, by rw [Sim.dropF hk] at hb; exact hb⟩
  have hd := h.drop n
  refine ⟨fun t => RV.move mv (h.tm t), h.nt, h.df, fun k => ?_, hd.un, fun b hb => .inl (h.sub b hb), fun b hb => ?_, fun k b hb => ?_, hd.nd, hd.dj, h.keep, fun b hb => hb.elim (h.nw b) (fun hb => .inr (h.own n b hb).2.2)⟩
  · by_cases hk : k = n
    · subst hk
      exact SR.congr (by simp [upd_at]) Sim.dropAt
    · cases hu : s.us k with
      | false => exact SR.congr (by simp only; rw [upd_ne _ _ hk]; exact h.un k hu) (by rw [Sim.dropF hk]; exact h.unF hu)
      | true => exact SR.move mv hu (upd_ne _ _ hk) (Sim.dropF hk) (fun _ _ => rfl) (h.st k)
  · rcases hb with hb | hb
    · exact h.lt b hb
    · exact (h.own n b hb).2.1
  · obtain ⟨hk, hb⟩ := hF k b hb
    refine ⟨?_, (h.own k b hb).2⟩
    rintro (h1 | h1)
    · exact (h.own k b hb).1 h1
    · exact h.dj k n b hk hb h1

/-- a new name -/
def Env.add (E : Env) (n : Nat) (v : Value) (F : List Nat) (B L S : Nat) : Env := ⟨upd E.V n v, upd E.F n F, upd E.B n B, upd E.L n L, upd E.S n S⟩
theorem Sim.add (h : Sim C s a w R E) (n : Nat) (hn : s.us n = false) (en : Ent) (v : Value) (F : List Nat) (B L S : Nat)
    (hF : ∀ b, b ∈ F → ¬ R b ∧ b < w.heap.size ∧ (C.w0.heap.size ≤ b ∨ b ∈ C.F0)) (hnd : F.Nodup) (hdj : ∀ k b, b ∈ F → b ∉ E.F k)
    (hen : ∀ m us E', Move w R s.st s.us E w R m us E' → us = upd s.us n true → E' = E.add n v F B L S → m = upd s.st n (some en) → SR w R m us E' n) :
    Sim C { s with st := upd s.st n (some en), us := upd s.us n true } a w R (E.add n v F B L S) := by
  have hne : ∀ k, s.us k = true → k ≠ n := fun k hk e => by subst e; rw [hn] at hk; cases hk
  have mv : Move w R s.st s.us E w R (upd s.st n (some en)) (upd s.us n true) (E.add n v F B L S) := by
    refine ⟨fun k hk => by rw [upd_ne _ _ (hne k hk)]; exact hk, fun k hk => ?_, fun b hb' => ⟨hb', rfl⟩, fun k q' hk hq => ?_⟩
    · have := hne k hk
      exact ⟨upd_ne _ _ this, upd_ne _ _ this, upd_ne _ _ this, upd_ne _ _ this⟩
    · have hk' := hne k hk
      rw [upd_ne _ _ hk'] at hq
      refine ⟨q', hq, Nat.le_refl _, fun _ b hb' => ⟨.inr ?_, rfl⟩⟩
      show b ∈ upd E.F n F k
      rw [upd_ne _ _ hk']
      exact hb'
  have hFk : ∀ k, k ≠ n → (E.add n v F B L S).F k = E.F k := fun k hk => upd_ne _ _ hk
  have hFn : (E.add n v F B L S).F n = F := upd_at ..
  refine ⟨fun t => RV.move mv (h.tm t), h.nt, h.df, fun k => ?_, fun k hk => ?_, h.sub, h.lt, fun k b hb => ?_, fun k => ?_, fun k l b hkl hb hb' => ?_, h.keep, h.nw⟩
  · by_cases hk : k = n
    · subst hk; exact hen _ _ _ mv rfl rfl rfl
    · cases hu : s.us k with
      | false => exact SR.congr (by simp only; rw [upd_ne _ _ hk]; exact h.un k hu) (by rw [hFk k hk]; exact h.unF hu)
      | true => exact SR.move mv hu (upd_ne _ _ hk) (hFk k hk) (fun _ _ => rfl) (h.st k)
  · by_cases hkn : k = n
    · subst hkn; simp only [upd_at] at hk; cases hk
    · simp only at hk ⊢
      rw [upd_ne _ _ hkn] at hk ⊢
      exact h.un k hk
  · by_cases hkn : k = n
    · subst hkn; rw [hFn] at hb; exact hF b hb
    · rw [hFk k hkn] at hb; exact h.own k b hb
  · by_cases hkn : k = n
    · subst hkn; rw [hFn]; exact hnd
    · rw [hFk k hkn]; exact h.nd k
  · by_cases hkn : k = n
    · subst hkn
      rw [hFn] at hb
      rw [hFk l (Ne.symm hkl)] at hb'
      exact hdj l b hb hb'
    · rw [hFk k hkn] at hb
      by_cases hln : l = n
      · subst hln; rw [hFn] at hb'; exact hdj k b hb' hb
      · rw [hFk l hln] at hb'; exact h.dj k l b hkl hb hb'

/-- a name's content changes, and with it the world, in this name's blocks alone (and beyond the old world's end) -/
theorem Sim.set (h : Sim C s a w R E) (n : Nat) (hn : s.us n = true) (en en' : Ent) (hm : s.st n = some en) {w' : World} (F : List Nat)
    (hv : ∀ q', en' = .root q' → ∃ q, en = .root q ∧ q.ver < q'.ver)
    (hb : ∀ b, b < w.heap.size → b ∉ E.F n → w'.heap[b]? = w.heap[b]?) (hs : w.heap.size ≤ w'.heap.size) (h1 : w'.os = w.os) (h2 : w'.tape = w.tape) (h3 : w'.output = w.output)
    (hF : ∀ b, b ∈ F → ¬ R b ∧ b < w'.heap.size ∧ (C.w0.heap.size ≤ b ∨ b ∈ C.F0)) (hnd : F.Nodup) (hdj : ∀ k b, k ≠ n → b ∈ F → b ∉ E.F k)
    (hen : ∀ m E', Move w R s.st s.us E w' R m s.us E' → E' = { E with F := upd E.F n F } → m = upd s.st n (some en') → SR w' R m s.us E' n) :
    Sim C { s with st := upd s.st n (some en') } a w' R { E with F := upd E.F n F } := by
  have mv : Move w R s.st s.us E w' R (upd s.st n (some en')) s.us { E with F := upd E.F n F } := by
    refine ⟨fun _ h => h, fun _ _ => ⟨rfl, rfl, rfl, rfl⟩, fun b hb' => ⟨hb', hb b (h.lt b hb') (fun hc => (h.own n b hc).1 hb')⟩, fun k q' hk hq => ?_⟩
    by_cases hkn : k = n
    · subst hkn
      rw [upd_at] at hq
      injection hq with hq
      obtain ⟨q, e, hlt⟩ := hv q' hq
      subst e
      exact ⟨q, hm, by omega, fun hc => by omega⟩
    · rw [upd_ne _ _ hkn] at hq
      refine ⟨q', hq, Nat.le_refl _, fun _ b hb' => ⟨.inr ?_, hb b (h.own k b hb').2.1 (h.dj k n b hkn hb')⟩⟩
      show b ∈ upd E.F n F k
      rw [upd_ne _ _ hkn]
      exact hb'
  have hFk : ∀ k, k ≠ n → upd E.F n F k = E.F k := fun k hk => upd_ne _ _ hk
  refine ⟨fun t => RV.move mv (h.tm t), h.nt, h.df, fun k => ?_, fun k hk => ?_, h.sub, fun b hb' => Nat.lt_of_lt_of_le (h.lt b hb') hs, fun k b hb' => ?_, fun k => ?_, fun k l b hkl hb1 hb2 => ?_, ?_, h.nw⟩
  · by_cases hk : k = n
    · subst hk; exact hen _ _ mv rfl rfl
    · cases hu : s.us k with
      | false => exact SR.congr (by simp only; rw [upd_ne _ _ hk]; exact h.un k hu) (by simp only; rw [hFk k hk]; exact h.unF hu)
      | true => exact SR.move mv hu (upd_ne _ _ hk) (hFk k hk) (fun b hb' => hb b (h.own k b hb').2.1 (h.dj k n b hk hb')) (h.st k)
  · by_cases hkn : k = n
    · subst hkn; simp only at hk; rw [hn] at hk; cases hk
    · simp only at hk ⊢
      rw [upd_ne _ _ hkn]
      exact h.un k hk
  · by_cases hkn : k = n
    · subst hkn; simp only [upd_at] at hb'; exact hF b hb'
    · simp only at hb'; rw [hFk k hkn] at hb'
      exact ⟨(h.own k b hb').1, Nat.lt_of_lt_of_le (h.own k b hb').2.1 hs, (h.own k b hb').2.2⟩
  · by_cases hkn : k = n
    · subst hkn; simp only [upd_at]; exact hnd
    · simp only; rw [hFk k hkn]; exact h.nd k
  · simp only at hb1 hb2
    by_cases hkn : k = n
    · subst hkn
      rw [upd_at] at hb1
      rw [hFk l (Ne.symm hkl)] at hb2
      exact hdj l b (Ne.symm hkl) hb1 hb2
    · rw [hFk k hkn] at hb1
      by_cases hln : l = n
      · subst hln; rw [upd_at] at hb2; exact hdj k b hkn hb2 hb1
      · rw [hFk l hln] at hb2; exact h.dj k l b hkl hb1 hb2
  · exact ⟨h1.trans h.keep.os, h2.trans h.keep.tape, h3.trans h.keep.output, Nat.le_trans h.keep.size hs, fun k hk hk0 => by
      rw [hb k (Nat.lt_of_lt_of_le hk h.keep.size) (fun hc => ?_)]
      · exact h.keep.block k hk hk0
      · rcases (h.own n k hc).2.2 with h4 | h4
        · omega
        · exact hk0 h4⟩
end Go.Ev

set_option autoImplicit false
namespace Go.Ev

/-! ### the tables, held against the program -/
def zv : CT → List Value
  | .int k => [.int k 0]
  | .bool => [.bool false]
  | .str => [.string ⟨#[]⟩]
  | .sl _ _ => [.slice none 0 0]
  | .nil => []
  | .cons a b => zv a ++ zv b
inductive Sh where
  | agg | int (k : IntKind) | bool | str | sl (e : TypeId) | other
def shOf : TypeDesc → Sh
  | .struct _ => .agg
  | .array _ _ => .agg
  | .int k => .int k
  | .bool => .bool
  | .string => .str
  | .slice e => .sl e
  | _ => .other
def shWant : Bool × CT → Sh
  | (true, _) => .agg
  | (false, .int k) => .int k
  | (false, .bool) => .bool
  | (false, .str) => .str
  | (false, .sl e _) => .sl e
  | (false, _) => .other
def isAggD : TypeDesc → Bool
  | .struct _ => true
  | .array _ _ => true
  | _ => false
/-- a map from texts to whole numbers -/
def isMapSI (P : Program) (S : TypeId) : Bool := match P.underlying S with
  | some (.map k e) => (match P.underlying k, P.info? e with
    | some .string, some i => (match i.zero with
      | some (.int .i64 n) => n == 0
      | _ => false)
    | _, _ => false)
  | _ => false
/-- a method of the type itself, with a value receiver -/
def methOf (P : Program) (X : TypeId) (nm : String) : Option FuncId := match P.info? X, P.underlying X with
  | some i, some (.struct _) => (match i.methods.find? (·.name == nm) with
    | some m => if m.path.isEmpty then (match m.func with
      | some (f, false) => some f
      | _ => none) else none
    | none => none)
  | _, _ => none
/-- a field without cells at its struct's begin -/
def zfOk (P : Program) (S : TypeId) (j : Nat) : Bool := match P.underlying S with
  | some (.struct fs) => (match fs[j]? with
    | some f => (match P.info? f.type with
      | some i => i.size == 0 && (f.offset == 0 && f.byteOffset == 0)
      | none => false)
    | none => false)
  | _ => false
structure TabOK (P : Program) (T : Tab) : Prop where
  layA : (T.lay.map fun x => (P.info? x.1).map fun i => (i.size, i.zero.map fun z => z.cells.toList)) = T.lay.map fun x => some (x.2.2.sz, some (zv x.2.2))
  layB : (T.lay.map fun x => (P.underlying x.1).map shOf) = T.lay.map fun x => some (shWant x.2)
  fld : (T.fld.map fun x => (P.underlying x.1).bind fun d => match d with
    | .struct fs => some (fs.toList.map fun f => (f.offset, (P.info? f.type).map (·.size), (P.underlying f.type).map isAggD))
    | _ => none) = T.fld.map fun x => some (x.2.map fun y => (y.1, some y.2.1, some y.2.2))
  elem : (T.elem.map fun x => P.underlying x.1) = T.elem.map fun x => some (.slice x.2)
  byt : (T.byt.map fun x => (P.info? x.1).map (·.bytes)) = T.byt.map fun x => some x.2
  maps : (T.maps.map fun x => isMapSI P x.1) = T.maps.map fun _ => true
  zf : (T.zf.map fun x => zfOk P x.1 x.2) = T.zf.map fun _ => true
  meth : (T.meth.map fun x => x.2.map fun y => methOf P x.1 y.1) = T.meth.map fun x => x.2.map fun y => some y.2

theorem lookO_map {α β : Type} (f g : Nat × α → β) (n : Nat) (v : α) : ∀ (l : List (Nat × α)), l.map f = l.map g → lookO n l = some v → f (n, v) = g (n, v)
  | [], _, h => by simp [lookO] at h
  | x :: r, e, h => by
    simp only [List.map_cons, List.cons.injEq] at e
    unfold lookO at h
    by_cases hx : x.1 = n
    · subst hx
      simp at h
      subst h
      exact e.1
    · rw [beq_ne hx] at h
      exact lookO_map f g n v r e.2 h

variable {P : Program} {T : Tab}
theorem TabOK.lay' (h : TabOK P T) {e : Nat} {x : Bool × CT} (he : lookO e T.lay = some x) :
    (∃ i z, P.info? e = some i ∧ i.size = x.2.sz ∧ i.zero = some z ∧ z.cells.toList = zv x.2) ∧ ∃ d, P.underlying e = some d ∧ shOf d = shWant x := by
  have h1 := lookO_map _ _ e x T.lay h.layA he
  have h2 := lookO_map _ _ e x T.lay h.layB he
  simp only at h1 h2
  constructor
  · cases hi : P.info? e with
    | none => rw [hi] at h1; simp at h1
    | some i =>
      rw [hi] at h1
      simp only [Option.map_some, Option.some.injEq, Prod.mk.injEq] at h1
      cases hz : i.zero with
      | none => rw [hz] at h1; simp at h1
      | some z => rw [hz] at h1; simp only [Option.map_some, Option.some.injEq] at h1; exact ⟨i, z, rfl, h1.1, hz, h1.2⟩
  · cases hi : P.underlying e with
    | none => rw [hi] at h2; simp at h2
    | some d => rw [hi] at h2; simp only [Option.map_some, Option.some.injEq] at h2; exact ⟨d, rfl, h2⟩
theorem TabOK.elem' (h : TabOK P T) {S e : Nat} (he : lookO S T.elem = some e) : P.underlying S = some (.slice e) := by
  have h1 := lookO_map _ _ S e T.elem h.elem he
  exact h1
theorem TabOK.byt' (h : TabOK P T) {e n : Nat} (he : lookO e T.byt = some n) : (P.info? e).map (·.bytes) = some n := lookO_map _ _ e n T.byt h.byt he
theorem TabOK.fld' (h : TabOK P T) {S j : Nat} {x : Nat × Nat × Bool} (he : ((lookO S T.fld).bind fun l => l[j]?) = some x) :
    ∃ (fs : Array Field) (f : Field) (i : TypeInfo) (d : TypeDesc), P.underlying S = some (.struct fs) ∧ fs[j]? = some f ∧ f.offset = x.1 ∧ P.info? f.type = some i ∧ i.size = x.2.1 ∧ P.underlying f.type = some d ∧ isAggD d = x.2.2 := by
  cases hl : lookO S T.fld with
  | none => rw [hl] at he; simp at he
  | some l =>
    rw [hl] at he
    simp only [Option.bind_some] at he
    have h1 := lookO_map _ _ S l T.fld h.fld hl
    simp only at h1
    cases hu : P.underlying S with
    | none => rw [hu] at h1; simp at h1
    | some d =>
      rw [hu] at h1
      simp only [Option.bind_some] at h1
      cases d with
      | struct fs =>
        simp only [Option.some.injEq] at h1
        have h2 := congrArg (fun q => q[j]?) h1
        simp only [List.getElem?_map, he, Option.map_some] at h2
        simp only [Array.getElem?_toList] at h2
        cases hf : fs[j]? with
        | none => rw [hf] at h2; simp at h2
        | some f =>
          rw [hf] at h2
          simp only [Option.map_some, Option.some.injEq, Prod.mk.injEq] at h2
          obtain ⟨h3, h4, h5⟩ := h2
          cases hi : P.info? f.type with
          | none => rw [hi] at h4; simp at h4
          | some i =>
            cases hd : P.underlying f.type with
            | none => rw [hd] at h5; simp at h5
            | some d => rw [hi] at h4; rw [hd] at h5; simp only [Option.map_some, Option.some.injEq] at h4 h5; exact ⟨fs, f, i, d, rfl, hf, h3, hi, h4, hd, h5⟩
      | _ => simp at h1

/-! ### operands -/
variable {C : Ctx} {s : St} {a : Act} {w : World} {R : Nat → Prop} {E : Env}
theorem rv_const (v : Value) : RV w R s.st s.us E (ofConst v) v := by
  unfold ofConst
  split <;> simp [RV, RV1, RV0, RC]
theorem Sim.op (h : Sim C s a w R E) (x : Operand) : RV w R s.st s.us E (s.op x) (a.eval x) := by
  cases x with
  | tmp t => exact h.tm t
  | const v => exact rv_const v
  | func f => simp [St.op, Act.eval, RV, RV1, RV0, RC]
  | global g => simp [St.op, RV, RV1, RV0, RC]

theorem rv_int {m : Mem} {us : Nat → Bool} {k : IntKind} {n : Int} {v : Value} (h : RV w R m us E (.int k n) v) : v = .int k n := h
theorem rv_bool {m : Mem} {us : Nat → Bool} {b : Bool} {v : Value} (h : RV w R m us E (.bool b) v) : v = .bool b := h
theorem rv_str {m : Mem} {us : Nat → Bool} {b : ByteArray} {v : Value} (h : RV w R m us E (.str b) v) : v = .string b := h

/-- what an operation comes to -/
def Goal (C : Ctx) (P : Program) (o : Oper) (s : St) (a : Act) (w : World) (v : AV) (ws : List W) : Prop :=
  ∃ u w' R' E', ((execOp a.eval o).run P w = .ok (.value u) w' ∨ (u = undef ∧ (execOp a.eval o).run P w = .ok .skip w')) ∧ Sim C ((s.write ws).put o.dst v) (a.put o.dst u) w' R' E'
theorem goal_pure (h : Sim C s a w R E) {o : Oper} {v : AV} {u : Value} (hv : RV w R s.st s.us E v u) (hr : (execOp a.eval o).run P w = .ok (.value u) w) : Goal C P o s a w v [] :=
  ⟨u, w, R, E, .inl hr, h.put o.dst hv⟩
theorem Goal.wp {o : Oper} {v : AV} {ws : List W} (h : Goal C P o s a w v ws) {next : Act → World → Prop} {Q : Exit → Act → World → Prop}
    (hn : ∀ a' w' R' E', Sim C ((s.write ws).put o.dst v) a' w' R' E' → next a' w') : o.wp P a w next Q := by
  obtain ⟨u, w', R', E', hr, hs⟩ := h
  unfold Oper.wp
  rcases hr with hr | ⟨rfl, hr⟩
  · rw [hr]; exact hn _ _ _ _ hs
  · rw [hr]; exact hn _ _ _ _ hs

theorem g_move (h : Sim C s a w R E) {o : Oper} {x : Operand} (ho : o.op = .move x ∨ o.op = .assign x) : Goal C P o s a w (s.op x) [] :=
  goal_pure h (h.op x) (by rcases ho with ho | ho <;> simp [execOp, ho])
theorem g_pick (h : Sim C s a w R E) {o : Oper} {c x y : Operand} (ho : o.op = .pick c x y) {t : Bool} (hc : s.op c = .bool t) {v : AV} (hv : RV w R s.st s.us E v (if t then a.eval x else a.eval y)) : Goal C P o s a w v [] := by
  have h1 := h.op c
  rw [hc] at h1
  exact goal_pure h hv (by simp [execOp, ho, rv_bool h1, asBool])
theorem g_bin_int (h : Sim C s a w R E) {o : Oper} {op : BinOp} {tx ty : TypeId} {x y : Operand} (ho : o.op = .binOp op tx x y ty) {k k' : IntKind} {m n : Int} (hx : s.op x = .int k m) (hy : s.op y = .int k' n) (hn : needs op k k' n = true) :
    Goal C P o s a w (bin2 op k m n) [] := by
  have h1 := h.op x
  have h2 := h.op y
  rw [hx] at h1
  rw [hy] at h2
  cases op <;> simp only [needs, decide_eq_true_eq, Bool.and_eq_true, Bool.not_eq_true', decide_eq_false_iff_not] at hn
  case quo => exact goal_pure h (u := .int k (k.wrap (m.tdiv n))) rfl (by simp [execOp, ho, rv_int h1, rv_int h2, eqGuard, binOp, Op.intDiv, hn.1, hn.2])
  case rem => exact goal_pure h (u := .int k (m.tmod n)) rfl (by simp [execOp, ho, rv_int h1, rv_int h2, eqGuard, binOp, Op.intDiv, hn.1, hn.2])
  case shl => exact goal_pure h (u := .int k (k.wrap (m * 2 ^ (min n.toNat k.bits)))) rfl (by simp [execOp, ho, rv_int h1, rv_int h2, eqGuard, binOp, Op.shift, show ¬ n < 0 by omega])
  case shr => exact goal_pure h (u := .int k (m.fdiv (2 ^ (min n.toNat k.bits)))) rfl (by simp [execOp, ho, rv_int h1, rv_int h2, eqGuard, binOp, Op.shift, show ¬ n < 0 by omega])
  all_goals
    subst hn
    first
    | exact goal_pure h rfl (by simp [execOp, ho, rv_int h1, rv_int h2, eqGuard, binOp, Op.intArith, Op.intBits, Op.intCmp])
    | exact goal_pure h rfl (by simp [execOp, ho, rv_int h1, rv_int h2, eqGuard, binOp, Op.intArith, Op.intBits, Op.intCmp]; rfl)
end Go.Ev

set_option autoImplicit false
namespace Go.Ev
variable {P : Program} {T : Tab} {C : Ctx} {s : St} {a : Act} {w : World} {R : Nat → Prop} {E : Env}

theorem g_bin_bool (hT : TabOK P T) (h : Sim C s a w R E) {o : Oper} {op : BinOp} {tx ty : TypeId} {x y : Operand} (ho : o.op = .binOp op tx x y ty) {m n : Bool} (hx : s.op x = .bool m) (hy : s.op y = .bool n) (ht : lookO tx T.lay = some (false, .bool)) :
    (op = .eql → Goal C P o s a w (.bool (m == n)) []) ∧ (op = .neq → Goal C P o s a w (.bool (!(m == n))) []) := by
  have h1 := h.op x
  have h2 := h.op y
  rw [hx] at h1
  rw [hy] at h2
  obtain ⟨_, d, hd, hs⟩ := hT.lay' ht
  have hd' : P.underlying tx = some .bool := by
    rw [hd]
    cases d <;> simp [shOf, shWant] at hs ⊢
  constructor
  · rintro rfl
    exact goal_pure h (u := .bool (m == n)) rfl (by simp [execOp, ho, rv_bool h1, rv_bool h2, eqGuard, run_eql_bool _ tx m n hd'])
  · rintro rfl
    exact goal_pure h (u := .bool (!(m == n))) rfl (by simp [execOp, ho, rv_bool h1, rv_bool h2, eqGuard, run_neq_bool _ tx m n hd'])
theorem g_bin_str (h : Sim C s a w R E) {o : Oper} {op : BinOp} {tx ty : TypeId} {x y : Operand} (ho : o.op = .binOp op tx x y ty) {m n : ByteArray} (hx : s.op x = .str m) (hy : s.op y = .str n) :
    (op = .eql → Goal C P o s a w (.bool (m.toList == n.toList)) []) ∧ (op = .neq → Goal C P o s a w (.bool (!(m.toList == n.toList))) []) := by
  have h1 := h.op x
  have h2 := h.op y
  rw [hx] at h1
  rw [hy] at h2
  constructor
  · rintro rfl
    exact goal_pure h (u := .bool (m.toList == n.toList)) rfl (by simp [execOp, ho, rv_str h1, rv_str h2, eqGuard, binOp, Op.stringOp])
  · rintro rfl
    exact goal_pure h (u := .bool (!(m.toList == n.toList))) rfl (by simp [execOp, ho, rv_str h1, rv_str h2, eqGuard, binOp, Op.stringOp])
theorem g_not (h : Sim C s a w R E) {o : Oper} {tx : TypeId} {x : Operand} (ho : o.op = .unOp .not tx x) {m : Bool} (hx : s.op x = .bool m) : Goal C P o s a w (.bool (!m)) [] := by
  have h1 := h.op x
  rw [hx] at h1
  exact goal_pure h (u := .bool (!m)) rfl (by simp [execOp, ho, rv_bool h1, Op.unary])
theorem g_neg (h : Sim C s a w R E) {o : Oper} {tx : TypeId} {x : Operand} (ho : o.op = .unOp .neg tx x) {k : IntKind} {m : Int} (hx : s.op x = .int k m) : Goal C P o s a w (.int k (k.wrap (0 - m))) [] := by
  have h1 := h.op x
  rw [hx] at h1
  exact goal_pure h (u := .int k (k.wrap (0 - m))) rfl (by simp [execOp, ho, rv_int h1, Op.unary, Op.intArith])
theorem g_conv_int (hT : TabOK P T) (h : Sim C s a w R E) {o : Oper} {src dst : TypeId} {x : Operand} (ho : o.op = .convert src dst x) {k k' : IntKind} {m : Int} (hx : s.op x = .int k' m) {z : Bool × CT} (hs : lookO src T.lay = some z) {b : Bool} (hd : lookO dst T.lay = some (b, .int k)) (hb : b = false) : Goal C P o s a w (.int k (k.wrap m)) [] := by
  have h1 := h.op x
  rw [hx] at h1
  subst hb
  obtain ⟨_, d, hd1, _⟩ := hT.lay' hs
  obtain ⟨_, d2, hd2, hs2⟩ := hT.lay' hd
  have hd' : P.underlying dst = some (.int k) := by
    rw [hd2]
    cases d2 <;> simp [shOf, shWant] at hs2 ⊢
    exact hs2
  exact goal_pure h (u := .int k (k.wrap m)) rfl (by
    have := run_convert_int (P := P) (w := w) src dst k' m (by rw [hd1]; rfl)
    simp [execOp, ho, rv_int h1, convert, run_underlying hd1, run_underlying hd', Conv.intToInt])

/-! rows that are read -/
def Sub (m m' : Mem) : Prop := ∀ n e, m n = some e → m' n = some e
theorem Sub.live {m m' : Mem} (h : Sub m m') {src : Src} (hl : liveSrc m src = true) : liveSrc m' src = true := by
  cases src with
  | imm => rfl
  | inn n ver pos =>
    replace hl : (match m n with | some (.root q) => Nat.beq q.ver ver | _ => false) = true := hl
    show (match m' n with | some (.root q) => Nat.beq q.ver ver | _ => false) = true
    cases hm : m n with
    | none => rw [hm] at hl; simp at hl
    | some e => rw [h n e hm]; rw [hm] at hl; exact hl
/-- what a row's value leads to -/
def RowAt (w : World) (R : Nat → Prop) (t : CT) (xs : List (Den t)) (v : Value) : Prop :=
  ∃ A c ds, v = .slice A xs.length c ∧ xs.length ≤ c ∧ All (Rp w R false t) xs ds [] ∧ (ds ≠ [] → ∃ a, A = some a ∧ R a.block ∧ Cells w a ds)
theorem rowAt_of {e : TypeId} {t : CT} {xs : List (Den t)} {v : Value} (h : Rp w R false (.sl e t) xs [v] []) : RowAt w R t xs v := by
  obtain ⟨A, c, ds, e1, _, h1, h2, h3⟩ := h
  simp only [List.cons.injEq, and_true] at e1
  exact ⟨A, c, ds, e1, h1, h2, h3⟩
theorem Sim.rootRow (h : Sim C s a w R E) {n : Nat} {q : Root} (hq : s.st n = some (.root q)) : RowAt w (fun b => R b ∨ b ∈ E.F n) q.t q.xs (E.V n) := by
  have h1 := h.st n
  unfold SR at h1
  rw [hq] at h1
  obtain ⟨l1, l2, ds, Fi, h2, h3, h4⟩ := h1
  obtain ⟨A, c, e, hc, hd⟩ := own_imm h2
  refine ⟨A, c, ds, e, hc, h4.freeze (fun b hb => .inl hb) (fun b hb => .inr (by rw [h3]; exact List.mem_append.2 (.inr hb))), fun hne => ?_⟩
  obtain ⟨ad, ea, hb, hcs⟩ := hd hne
  exact ⟨ad, ea, .inr (by rw [h3]; exact List.mem_append.2 (.inl hb)), hcs⟩
theorem Sim.rowOf (h : Sim C s a w R E) {m : Mem} (hm : Sub m s.st) {x : AV} {v : Value} (hv : RV w R s.st s.us E x v) {r : Row} (hr : rowOf m x = some r) : ∃ R', RowAt w R' r.t r.xs v := by
  cases x with
  | sl e t xs src =>
    have hv' : RC w R s.st s.us E (.sl e t xs src) v := hv
    cases src with
    | imm =>
      simp only [Ev.rowOf, Option.some.injEq] at hr
      subst hr
      exact ⟨_, rowAt_of (hv'.2.2.1 rfl)⟩
    | inn n ver pos =>
      simp only [Ev.rowOf] at hr
      cases hmn : m n with
      | none => rw [hmn] at hr; simp at hr
      | some en =>
        rw [hmn] at hr
        cases en with
        | box cs | mp es | zb ze => simp at hr
        | root q =>
          simp only at hr
          by_cases hver : Nat.beq q.ver ver = true
          · rw [hver] at hr
            simp only [cond_true, Option.some.injEq] at hr
            subst hr
            refine ⟨_, rowAt_of (hv'.2.2.1 (hm.live ?_))⟩
            show (match m n with | some (.root q) => Nat.beq q.ver ver | _ => false) = true
            rw [hmn]
            exact hver
          · simp only [Bool.not_eq_true] at hver
            rw [hver] at hr
            simp at hr
  | ref n =>
    have hv' : RC w R s.st s.us E (.ref n) v := hv
    simp only [Ev.rowOf] at hr
    cases hmn : m n with
    | none => rw [hmn] at hr; simp at hr
    | some en =>
      rw [hmn] at hr
      cases en with
      | box cs | mp es | zb ze => simp at hr
      | root q =>
        simp only [Option.some.injEq] at hr
        subst hr
        rw [hv'.2.1]
        exact ⟨_, h.rootRow (hm n _ hmn)⟩
  | _ => simp [Ev.rowOf] at hr

theorem g_len (h : Sim C s a w R E) {m : Mem} (hm : Sub m s.st) {o : Oper} {c : Call} (ho : o.op = .call c) (hc : c.callee = .builtin .len) {x : Operand} (hx : c.args = #[x]) {S : TypeId} (hS : c.argTypes[0]? = some S) {e : TypeId} (hu : P.underlying S = some (.slice e)) {r : Row} (hr : rowOf m (s.op x) = some r) :
    Goal C P o s a w (.int .i64 (r.xs.length : Int)) [] := by
  obtain ⟨R', A, cp, ds, hv, _⟩ := h.rowOf hm (h.op x) hr
  exact goal_pure h (u := .int .i64 (r.xs.length : Int)) rfl (by simp [execOp, ho, resolve, hc, hx, invoke, builtin, Builtin.len_, hS, hv, run_underlying hu, goInt])
theorem g_len_nil (h : Sim C s a w R E) {o : Oper} {c : Call} (ho : o.op = .call c) (hc : c.callee = .builtin .len) {x : Operand} (hx : c.args = #[x]) {S : TypeId} (hS : c.argTypes[0]? = some S) {e : TypeId} (hu : P.underlying S = some (.slice e)) (hr : s.op x = .nilsl) :
    Goal C P o s a w (.int .i64 0) [] := by
  have h1 := h.op x
  rw [hr] at h1
  have h2 : a.eval x = .slice none 0 0 := h1
  exact goal_pure h (u := .int .i64 0) rfl (by simp [execOp, ho, resolve, hc, hx, invoke, builtin, Builtin.len_, hS, h2, run_underlying hu, goInt])
theorem g_len_str (h : Sim C s a w R E) {o : Oper} {c : Call} (ho : o.op = .call c) (hc : c.callee = .builtin .len) {x : Operand} (hx : c.args = #[x]) {S : TypeId} (hS : c.argTypes[0]? = some S) (hu : P.underlying S = some .string) {b : ByteArray} (hr : s.op x = .str b) :
    Goal C P o s a w (.int .i64 (b.size : Int)) [] := by
  have h1 := h.op x
  rw [hr] at h1
  exact goal_pure h (u := .int .i64 (b.size : Int)) rfl (by simp [execOp, ho, resolve, hc, hx, invoke, builtin, Builtin.len_, hS, rv_str h1, run_underlying hu, goInt])

theorem All.cellsU8 {w : World} {R : Nat → Prop} : ∀ {xs : List Int} {ds : List Value} {F : List Nat}, All (Rp w R false (.int .u8)) xs ds F → ds = xs.map (Value.int .u8)
  | [], _, _, h => h.1
  | x :: r, ds, F, ⟨c1, c2, F1, F2, e1, e2, h1, h2⟩ => by rw [e1, h2.cellsU8, show c1 = [.int .u8 x] from h1.1]; rfl
theorem add_add' (p : Addr) (i j : Nat) : (p.add i).add j = p.add (i + j) := by
  unfold Addr.add
  by_cases hi : i = 0
  · subst hi; simp
  · by_cases hj : j = 0
    · subst hj; simp
    · simp [hi, hj, Nat.add_assoc]
theorem g_conv_str (hT : TabOK P T) (h : Sim C s a w R E) {m : Mem} (hm : Sub m s.st) {o : Oper} {src dst e : TypeId} {x : Operand} (ho : o.op = .convert src dst x)
    (hs : lookO src T.lay = some (false, .sl e (.int .u8))) (hd : lookO dst T.lay = some (false, .str)) (he : lookO e T.lay = some (false, .int .u8)) {e' : TypeId} {xs : List Int} (hr : rowOf m (s.op x) = some ⟨e', .int .u8, xs⟩) :
    Goal C P o s a w (.str (strOf xs)) [] := by
  obtain ⟨R', A, cp, ds, hv, _, hall, hc⟩ := h.rowOf hm (h.op x) hr
  have hds := hall.cellsU8
  obtain ⟨_, d1, hd1, hh1⟩ := hT.lay' hs
  obtain ⟨_, d2, hd2, hh2⟩ := hT.lay' hd
  obtain ⟨_, d3, hd3, hh3⟩ := hT.lay' he
  have hd1' : P.underlying src = some (.slice e) := by rw [hd1]; cases d1 <;> simp [shOf, shWant] at hh1 ⊢; exact hh1
  have hd2' : P.underlying dst = some .string := by rw [hd2]; cases d2 <;> simp [shOf, shWant] at hh2 ⊢
  have hd3' : P.underlying e = some (.int .u8) := by rw [hd3]; cases d3 <;> simp [shOf, shWant] at hh3 ⊢; exact hh3
  have hrun : (convert src dst (a.eval x)).run P w = .ok (.string (strOf xs)) w := by
    simp only at hv
    rw [hv]
    by_cases hne : xs = []
    · subst hne
      cases A with
      | none =>
        have := run_convert_bytes_nil (P := P) w src e hd1' hd3' 0 cp dst hd2'
        simp only [List.length_nil]
        rw [this]
        rfl
      | some ad => simp [convert, run_underlying hd1', run_underlying hd2', run_underlying hd3', Conv.bytesToString, loadCells, loadCellsFrom, strOf, strOfNums]; rfl
    · obtain ⟨ad, rfl, _, hcs⟩ := hc (by rw [hds]; simpa using hne)
      have hspot : ad.spot = none := by
        cases xs with
        | nil => exact absurd rfl hne
        | cons z zs =>
          have := hcs 0 (.int .u8 z) (by rw [hds]; rfl)
          simp only [Addr.add, if_true] at this
          unfold World.cell? at this
          split at this
          · by_cases hsp : ad.spot.isSome = true
            · simp [hsp] at this
            · simpa using hsp
          · cases this
      obtain ⟨b, off, sp⟩ := ad
      simp only at hspot
      subst hspot
      exact run_convert_bytes_arg (P := P) w src e hd1' hd3' b off xs.length cp xs rfl (fun i hi => by
        have := hcs i (.int .u8 (xs.getD i 0)) (by rw [hds]; simp [hi])
        have e2 : (⟨b, off, none⟩ : Addr).add i = ⟨b, off + i, none⟩ := by unfold Addr.add; split <;> simp_all
        rwa [e2] at this) dst hd2'
  exact goal_pure h (u := .string (strOf xs)) rfl (by simp [execOp, ho, hrun])
theorem g_conv_str_nil (hT : TabOK P T) (h : Sim C s a w R E) {o : Oper} {src dst e : TypeId} {x : Operand} (ho : o.op = .convert src dst x)
    (hs : lookO src T.lay = some (false, .sl e (.int .u8))) (hd : lookO dst T.lay = some (false, .str)) (he : lookO e T.lay = some (false, .int .u8)) (hr : s.op x = .nilsl) :
    Goal C P o s a w (.str ByteArray.empty) [] := by
  have h1 := h.op x
  rw [hr] at h1
  have h2 : a.eval x = .slice none 0 0 := h1
  obtain ⟨_, d1, hd1, hh1⟩ := hT.lay' hs
  obtain ⟨_, d2, hd2, hh2⟩ := hT.lay' hd
  obtain ⟨_, d3, hd3, hh3⟩ := hT.lay' he
  have hd1' : P.underlying src = some (.slice e) := by rw [hd1]; cases d1 <;> simp [shOf, shWant] at hh1 ⊢; exact hh1
  have hd2' : P.underlying dst = some .string := by rw [hd2]; cases d2 <;> simp [shOf, shWant] at hh2 ⊢
  have hd3' : P.underlying e = some (.int .u8) := by rw [hd3]; cases d3 <;> simp [shOf, shWant] at hh3 ⊢; exact hh3
  have hrun := run_convert_bytes_nil (P := P) w src e hd1' hd3' 0 0 dst hd2'
  exact goal_pure h (u := .string ByteArray.empty) rfl (by simp [execOp, ho, h2, hrun])
end Go.Ev

set_option autoImplicit false
namespace Go.Ev
variable {P : Program} {T : Tab} {C : Ctx} {s : St} {a : Act} {w : World} {R : Nat → Prop} {E : Env}

theorem write_new (s : St) (n : Nat) (e : Option Ent) : s.write [⟨n, e, true⟩] = { s with st := upd s.st n e, us := upd s.us n true } := by simp [St.write]
theorem write_old (s : St) (n : Nat) (e : Option Ent) : s.write [⟨n, e, false⟩] = { s with st := upd s.st n e } := by simp [St.write, upd_self]
theorem write_app (s : St) : ∀ (l k : List W), s.write (l ++ k) = (s.write l).write k := by
  intro l
  induction l generalizing s with
  | nil => intro k; rfl
  | cons x r ih => intro k; exact ih _ k
theorem fresh1 {us : Nat → Bool} {n : Nat} {e : Option Ent} (h : freshOk us [⟨n, e, true⟩] = true) : us n = false := by
  unfold freshOk at h
  cases hu : us n with
  | false => rfl
  | true => simp [hu] at h

theorem heap_alloc_lt (w : World) (o : Obj) (b : Nat) (h : b < w.heap.size) : (w.alloc o).heap[b]? = w.heap[b]? := Go.RowKit.Below.heap_alloc w o b h
theorem size_alloc' (w : World) (o : Obj) : (w.alloc o).heap.size = w.heap.size + 1 := by show (w.heap.push o).size = _; simp
theorem Sim.alloc (h : Sim C s a w R E) (o : Obj) : Sim C s a (w.alloc o) R E :=
  h.grow (fun b hb => heap_alloc_lt w o b hb) (by rw [size_alloc']; omega) (h.keep.grow (fun b hb => heap_alloc_lt w o b hb) (by rw [size_alloc']; omega) rfl rfl rfl)
theorem RC.grow {x : AV} {v : Value} (h : Sim C s a w R E) (o : Obj) (hx : RC w R s.st s.us E x v) : RC (w.alloc o) R s.st s.us E x v := by
  refine RC.move (m := s.st) (us := s.us) (E := E) ⟨fun _ h => h, fun _ _ => ⟨rfl, rfl, rfl, rfl⟩, fun b hb' => ⟨hb', heap_alloc_lt w o b (h.lt b hb')⟩, fun n q' _ hq => ⟨q', hq, Nat.le_refl _, fun _ b hb' => ⟨.inr hb', heap_alloc_lt w o b (h.own n b hb').2.1⟩⟩⟩ hx

theorem Sim.newBox (h : Sim C s a w R E) {dn : Nat} (hn : s.us dn = false) {cs : List AV} {arr : Array Value} (Ty : TypeId) (hrc : L2 (RC w R s.st s.us E) cs arr.toList) (d : Option Nat) :
    Sim C ((s.write [⟨dn, some (.box cs), true⟩]).put d (.pbox dn 0)) (a.put d (.pointer (some ⟨w.heap.size, 0, none⟩))) (w.alloc (.cells arr Ty)) R (E.add dn undef [w.heap.size] w.heap.size 0 0) := by
  have h1 := h.alloc (.cells arr Ty)
  have h2 := h1.add dn hn (.box cs) undef [w.heap.size] w.heap.size 0 0 (fun b hb => by
      simp only [List.mem_singleton] at hb
      subst hb
      exact ⟨fun hc => absurd (h.lt _ hc) (by omega), by rw [size_alloc']; omega, .inl h.keep.size⟩) (by simp) (fun k b hb hc => by
      simp only [List.mem_singleton] at hb
      subst hb
      exact absurd (h.own k _ hc).2.1 (by omega)) (fun m us E' mv hus hE hm => by
      subst hE; subst hm
      unfold SR
      rw [upd_at]
      refine ⟨by simp [Env.add, upd_at], arr, Ty, by simp only [Env.add, upd_at]; exact heap_alloc_new w _, hrc.imp fun x v hx => RC.move mv (RC.grow h _ hx)⟩)
  rw [write_new]
  exact h2.put d (And.intro (upd_at ..) (by simp [Env.add, upd_at]))

theorem RC.one {w : World} {R : Nat → Prop} {m : Mem} {us : Nat → Bool} {E : Env} {x : AV} {v : Value} (h : RC w R m us E x v) (hx : okCells [x] = true) : v.oneCell' = true ∧ v.cells = #[v] := by
  cases x with
  | int k n => rw [show v = _ from h]; exact ⟨rfl, rfl⟩
  | bool b => rw [show v = _ from h]; exact ⟨rfl, rfl⟩
  | str b => rw [show v = _ from h]; exact ⟨rfl, rfl⟩
  | nilsl => rw [show v = _ from h]; exact ⟨rfl, rfl⟩
  | fn f => rw [show v = _ from h]; exact ⟨rfl, rfl⟩
  | sl e t xs src => obtain ⟨_, ⟨A, n, c, e⟩, _⟩ := h; rw [e]; exact ⟨rfl, rfl⟩
  | ref n => obtain ⟨_, _, A, k, c, e⟩ := h; rw [e]; exact ⟨rfl, rfl⟩
  | pbox b off => rw [h.2]; exact ⟨rfl, rfl⟩
  | pel n i off => obtain ⟨_, _, _, g, _, e⟩ := h; rw [e]; exact ⟨rfl, rfl⟩
  | pro t y off src => obtain ⟨_, ⟨p, e⟩, _⟩ := h; rw [e]; exact ⟨rfl, rfl⟩
  | junk => simp [okCells] at hx
  | agg cs => exact absurd h (by simp [RC])
  | tup cs => exact absurd h (by simp [RC])
  | clo f cs => exact absurd h (by simp [RC])
  | ifc f cs => exact absurd h (by simp [RC])
  | mref n => rw [h.2]; exact ⟨rfl, rfl⟩
theorem flat_rc {w : World} {R : Nat → Prop} {m : Mem} {us : Nat → Bool} {E : Env} {x : AV} {v : Value} {l : List AV} (hf : flat x = some l) (h : RV w R m us E x v) : L2 (RC w R m us E) l v.cells.toList := by
  cases x with
  | agg cs =>
    simp only [flat, Option.some.injEq] at hf
    subst hf
    obtain ⟨vs, e, h1⟩ := h
    rw [e]
    exact h1
  | junk => simp [flat] at hf
  | tup cs => simp [flat] at hf
  | clo f cs => simp [flat] at hf
  | ifc f cs => simp [flat] at hf
  | _ =>
    simp only [flat, Option.some.injEq] at hf
    subst hf
    simp only [RV, RV1, RV0] at h
    rw [(RC.one h (by simp [okCells])).2]
    exact ⟨v, [], rfl, h, rfl⟩
theorem okCells_all {w : World} {R : Nat → Prop} {m : Mem} {us : Nat → Bool} {E : Env} : ∀ {l : List AV} {vs : List Value}, okCells l = true → L2 (RC w R m us E) l vs → ∀ v, v ∈ vs → v.oneCell' = true
  | [], _, _, e => by rw [show _ = [] from e]; simp
  | x :: r, _, hk, ⟨y, l', e, h1, h2⟩ => by
    intro v hv
    rw [e] at hv
    have hk2 : okCells [x] = true ∧ okCells r = true := by cases x <;> simp_all [okCells]
    rcases List.mem_cons.1 hv with rfl | hv
    · exact (RC.one h1 hk2.1).1
    · exact okCells_all hk2.2 h2 v hv

theorem zcells_rc {w : World} {R : Nat → Prop} {m : Mem} {us : Nat → Bool} {E : Env} : ∀ (t : CT), L2 (RC w R m us E) (zcells t) (zv t)
  | .int k => ⟨_, _, rfl, rfl, rfl⟩
  | .bool => ⟨_, _, rfl, rfl, rfl⟩
  | .str => ⟨_, _, rfl, rfl, rfl⟩
  | .sl e t => ⟨_, _, rfl, rfl, rfl⟩
  | .nil => rfl
  | .cons x y => (zcells_rc x).app (zcells_rc y)

theorem g_alloc (hT : TabOK P T) (h : Sim C s a w R E) {o : Oper} {e : TypeId} (ho : o.op = .alloc e) {z : Bool × CT} (hl : lookO e T.lay = some z) {dn : Nat} (hn : s.us dn = false) :
    Goal C P o s a w (.pbox dn 0) [⟨dn, some (.box (zcells z.2)), true⟩] := by
  obtain ⟨⟨i, zz, hi, hsz, hz, hzc⟩, _⟩ := hT.lay' hl
  refine ⟨_, _, _, _, .inl ?_, h.newBox hn (arr := zz.cells) e (by rw [hzc]; exact zcells_rc _) o.dst⟩
  simp [execOp, ho, Instr.alloc, zeroValue, typeInfo, hi, hz, newVar, newRow]
theorem g_box (h : Sim C s a w R E) {o : Oper} {e : TypeId} {x : Operand} (ho : o.op = .box e x) {l : List AV} (hl : flat (s.op x) = some l) {dn : Nat} (hn : s.us dn = false) :
    Goal C P o s a w (.pbox dn 0) [⟨dn, some (.box l), true⟩] := by
  refine ⟨_, _, _, _, .inl ?_, h.newBox hn (arr := (a.eval x).cells) e (flat_rc hl (h.op x)) o.dst⟩
  simp [execOp, ho, Instr.box, newVar, newRow]

theorem Sim.zb (h : Sim C s a w R E) {n : Nat} {e : TypeId} (hb : s.st n = some (.zb e)) : E.F n = [E.B n] ∧ w.heap[E.B n]? = some (.cells #[] e (0, 0)) := by
  have := h.st n
  unfold SR at this
  rw [hb] at this
  exact this
theorem g_zbox (h : Sim C s a w R E) {o : Oper} {e : TypeId} {x : Operand} (ho : o.op = .box e x) (hl : flat (s.op x) = some []) {dn : Nat} (hn : s.us dn = false) :
    Goal C P o s a w (.pbox dn 0) [⟨dn, some (.zb e), true⟩] := by
  have hc : (a.eval x).cells = #[] := by
    have := flat_rc hl (h.op x)
    exact Array.toList_eq_nil_iff.1 this
  have h1 := h.alloc (.cells #[] e)
  have h2 := h1.add dn hn (.zb e) undef [w.heap.size] w.heap.size 0 0 (fun b hb => by
      simp only [List.mem_singleton] at hb
      subst hb
      exact ⟨fun hc => absurd (h.lt _ hc) (by omega), by rw [size_alloc']; omega, .inl h.keep.size⟩) (by simp) (fun k b hb hc => by
      simp only [List.mem_singleton] at hb
      subst hb
      exact absurd (h.own k _ hc).2.1 (by omega)) (fun m us E' mv hus hE hm => by
      subst hE; subst hm
      unfold SR
      rw [upd_at]
      exact ⟨by simp [Env.add, upd_at], by simp only [Env.add, upd_at]; exact heap_alloc_new w _⟩)
  rw [← write_new] at h2
  exact ⟨.pointer (some ⟨w.heap.size, 0, none⟩), _, R, _, .inl (by simp [execOp, ho, Instr.box, newVar, newRow, hc]), h2.put o.dst (And.intro (by simp [write_new, upd_at]) (by simp [Env.add, upd_at]))⟩
theorem g_zfield (hT : TabOK P T) (h : Sim C s a w R E) {o : Oper} {S : TypeId} {x : Operand} {j : Nat} (ho : o.op = .fieldAddr S x j) {b : Nat} (hx : s.op x = .pbox b 0) {e : TypeId} (hb : s.st b = some (.zb e)) (hz : lookO S T.zf = some j) {z : Bool × CT} (hl : lookO e T.lay = some z) (h0 : z.2.sz = 0) :
    Goal C P o s a w (.pbox b 0) [] := by
  obtain ⟨hu, hv⟩ : RC w R s.st s.us E (.pbox b 0) (a.eval x) := by have := h.op x; rw [hx] at this; exact this
  obtain ⟨hF, hg⟩ := h.zb hb
  obtain ⟨⟨i, zz, hi, his, _, _⟩, _⟩ := hT.lay' hl
  have h1 := lookO_map _ _ S j T.zf hT.zf hz
  simp only at h1
  unfold zfOk at h1
  split at h1
  · rename_i fs hs
    split at h1
    · rename_i f hf
      split at h1
      · rename_i i2 hi2
        simp only [Bool.and_eq_true, beq_iff_eq] at h1
        obtain ⟨h2, h3, h4⟩ := h1
        have hc : P.cellsOf e = 0 := by unfold Program.cellsOf; rw [hi]; simp [his, h0]
        have hsh : w.shape? (E.B b) = some (e, 0) := by unfold World.shape?; rw [hg]; rfl
        have hby : (byteOf ⟨E.B b, 0, none⟩).run P w = .ok 0 w := by
          unfold byteOf
          have hnv : (noView ⟨E.B b, 0, none⟩).run P w = .ok () w := by
            unfold noView
            simp [viewAt, hsh]
          simp [hnv, hsh, hc]
        refine goal_pure h (u := .pointer (some ⟨E.B b, 0, none⟩)) ⟨hu, rfl⟩ ?_
        simp [execOp, ho, hv, Instr.fieldAt, run_underlying hs, hf, Instr.sureAddr, fieldPlace, sizeOf, typeInfo, hi2, h2, partAt, h3, h4, hby]
      · cases h1
    · cases h1
  · cases h1
theorem fieldAt_run (hT : TabOK P T) {S j : Nat} {x : Nat × Nat × Bool} (hf : ((lookO S T.fld).bind fun l => l[j]?) = some x) (h0 : x.2.1 ≠ 0) (ad : Addr) :
    (Instr.fieldAt S (.pointer (some ad)) j).run P w = .ok (.pointer (some (ad.add x.1))) w := by
  obtain ⟨fs, f, i, d, h1, h2, h3, h4, h5, _, _⟩ := hT.fld' hf
  have : i.size ≠ 0 := by rw [h5]; exact h0
  simp [Instr.fieldAt, run_underlying h1, h2, Instr.sureAddr, fieldPlace, sizeOf, typeInfo, h4, this, h3]
theorem g_fieldAddr (hT : TabOK P T) (h : Sim C s a w R E) {o : Oper} {S : TypeId} {x : Operand} {j : Nat} (ho : o.op = .fieldAddr S x j) {y : Nat × Nat × Bool} (hf : ((lookO S T.fld).bind fun l => l[j]?) = some y) (h0 : y.2.1 ≠ 0) :
    (∀ b q, s.op x = .pbox b q → Goal C P o s a w (.pbox b (q + y.1)) []) ∧ (∀ n i q, s.op x = .pel n i q → Goal C P o s a w (.pel n i (q + y.1)) []) ∧ (∀ t v q src, s.op x = .pro t v q src → Goal C P o s a w (.pro t v (q + y.1) src) []) := by
  have hx := h.op x
  refine ⟨fun b q e => ?_, fun n i q e => ?_, fun t v q src e => ?_⟩
  · rw [e] at hx
    obtain ⟨h1, h2⟩ : RC w R s.st s.us E (.pbox b q) (a.eval x) := hx
    refine goal_pure h (u := .pointer (some ((⟨E.B b, q, none⟩ : Addr).add y.1))) ⟨h1, ?_⟩ (by simp [execOp, ho, h2, fieldAt_run hT hf h0])
    unfold Addr.add; split <;> simp_all
  · rw [e] at hx
    obtain ⟨h1, h2, h3, g, h4, h5⟩ : RC w R s.st s.us E (.pel n i q) (a.eval x) := hx
    refine goal_pure h (u := .pointer (some ((⟨g, i.toNat * E.S n + q, none⟩ : Addr).add y.1))) ⟨h1, h2, h3, g, h4, ?_⟩ (by simp [execOp, ho, h5, fieldAt_run hT hf h0])
    unfold Addr.add; split <;> simp_all [Nat.add_assoc]
  · rw [e] at hx
    obtain ⟨h1, ⟨p, hp⟩, h2⟩ : RC w R s.st s.us E (.pro t v q src) (a.eval x) := hx
    refine goal_pure h (u := .pointer (some (p.add y.1))) ⟨h1, ⟨_, rfl⟩, fun hl => ?_⟩ (by simp [execOp, ho, hp, fieldAt_run hT hf h0])
    obtain ⟨ad, ds, e1, hr⟩ := h2 hl
    rw [hp] at e1
    simp only [Value.pointer.injEq, Option.some.injEq] at e1
    exact ⟨ad, ds, by rw [e1, add_add'], hr⟩
end Go.Ev

set_option autoImplicit false
set_option linter.unusedVariables false
namespace Go.Ev
variable {P : Program} {T : Tab} {C : Ctx} {s : St} {a : Act} {w : World} {R : Nat → Prop} {E : Env}

theorem isAgg_run (hT : TabOK P T) {L : TypeId} {z : Bool × CT} (hl : lookO L T.lay = some z) : (isAgg L).run P w = .ok z.1 w := by
  obtain ⟨_, d, hd, hs⟩ := hT.lay' hl
  obtain ⟨b, t⟩ := z
  cases b
  · cases t <;> cases d <;> simp [shOf, shWant] at hs <;> simp [isAgg, run_underlying hd]
  · cases d <;> simp [shOf, shWant] at hs <;> simp [isAgg, run_underlying hd]
theorem sizeOf_run (hT : TabOK P T) {L : TypeId} {z : Bool × CT} (hl : lookO L T.lay = some z) : (sizeOf L).run P w = .ok z.2.sz w := by
  obtain ⟨⟨i, zz, hi, hsz, _⟩, _⟩ := hT.lay' hl
  simp [sizeOf, typeInfo, hi, hsz]
theorem loadVar_run (hT : TabOK P T) {L : TypeId} {z : Bool × CT} (hl : lookO L T.lay = some z) {ad : Addr} {cs : List Value} (hlen : cs.length = z.2.sz) (hc : Cells w ad cs) (h1 : (z.1 || Nat.beq z.2.sz 1) = true) :
    (loadVar L ad).run P w = .ok (if z.1 = true then .agg cs.toArray else cs.headD undef) w := by
  unfold loadVar
  simp only [Sem.run_bind, isAgg_run hT hl, Result.andThen_ok]
  cases hz : z.1 with
  | true =>
    have := run_loadCells_list (P := P) w ad cs hc
    simp [sizeOf_run hT hl, ← hlen, this]
  | false =>
    rw [hz] at h1
    simp only [Bool.false_or] at h1
    have hs := Nat.eq_of_beq_eq_true h1
    rw [hs] at hlen
    match cs, hlen with
    | [c], _ =>
      have := hc 0 c rfl
      simp only [Addr.add, if_true] at this
      simp [this]
theorem load_rv {m : Mem} {us : Nat → Bool} {b : Bool} {n : Nat} {l : List AV} {cs : List Value} (h : L2 (RC w R m us E) l cs) (hn : l.length = n) (h1 : (b || Nat.beq n 1) = true) :
    RV w R m us E (unflat b l) (if b = true then .agg cs.toArray else cs.headD undef) := by
  cases b with
  | true => exact ⟨cs, rfl, h⟩
  | false =>
    simp only [Bool.false_or] at h1
    have hs := Nat.eq_of_beq_eq_true h1
    rw [hs] at hn
    match l, hn with
    | [x], _ =>
      obtain ⟨y, l', e, hx, e2⟩ := h
      rw [e]
      simp only [unflat, cond_false, List.headD_cons, Bool.false_eq_true, if_false]
      cases x <;> simp only [RV, RV1, RV0] <;> first | exact hx | exact absurd hx (by simp [RC])
theorem Cells.drop {ad : Addr} {cs : List Value} (h : Cells w ad cs) (q n : Nat) : Cells w (ad.add q) ((cs.drop q).take n) := by
  intro j u hu
  rw [add_add']
  have : cs[q + j]? = some u := by
    rw [List.getElem?_take] at hu
    split at hu
    · rw [List.getElem?_drop] at hu; exact hu
    · cases hu
  exact h _ _ this
theorem cells_heap {g : Nat} {arr : Array Value} {Ty : TypeId} {fr : Nat × Nat} (hg : w.heap[g]? = some (.cells arr Ty fr)) (o : Nat) : Cells w ⟨g, o, none⟩ (arr.toList.drop o) := by
  intro j u hu
  have e : (⟨g, o, none⟩ : Addr).add j = ⟨g, o + j, none⟩ := by unfold Addr.add; split <;> simp_all
  rw [e]
  rw [List.getElem?_drop] at hu
  simp only [World.cell?, hg]
  simpa using hu
theorem cells_len : ∀ (t : CT) (x : Den t) (src : Nat → Src) (o : Nat), (cells t x src o).length = t.sz
  | .int k, _, _, _ => rfl
  | .bool, _, _, _ => rfl
  | .str, _, _, _ => rfl
  | .sl e t, _, _, _ => rfl
  | .nil, _, _, _ => rfl
  | .cons a b, x, src, o => by simp [cells, cells_len a, cells_len b, CT.sz]
/-- an element's cells, read where what it leads to lies in R' -/
theorem cells_rc {m : Mem} {us : Nat → Bool} {R' : Nat → Prop} : ∀ {t : CT} {x : Den t} {ds : List Value} (src : Nat → Src) (o : Nat), (∀ o, usedSrc m us (src o) ∧ ∀ b, R' b → RS R E (src o) b) → (∀ j u, ds[j]? = some u → AtPos w R E (src (o + j)) u) → Rp w R' false t x ds [] → L2 (RC w R m us E) (cells t x src o) ds
  | .int k, x, ds, _, _, _, _, h => ⟨_, [], h.1, rfl, rfl⟩
  | .bool, x, ds, _, _, _, _, h => ⟨_, [], h.1, rfl, rfl⟩
  | .str, x, ds, _, _, _, _, h => ⟨_, [], h.1, rfl, rfl⟩
  | .sl e t, x, ds, src, o, hs, hp, h => by
    have h' := h
    obtain ⟨A, c, cs, e1, _⟩ := h'
    refine ⟨_, [], e1, ⟨(hs o).1, ⟨_, _, _, rfl⟩, fun _ => ?_, fun _ => hp 0 _ (by rw [e1]; rfl)⟩, rfl⟩
    rw [← e1]
    exact h.keep (w' := w) (fun b hb => ⟨(hs o).2 b hb, rfl⟩) (fun _ _ => rfl)
  | .nil, x, ds, _, _, _, _, h => h.1
  | .cons a b, x, ds, src, o, hs, hp, ⟨c1, c2, F1, F2, e1, e2, h1, h2⟩ => by
    have f1 := h1.noF
    have f2 := h2.noF
    subst f1; subst f2
    rw [e1]
    have l1 := h1.len
    exact (cells_rc src o hs (fun j u hu => hp j u (by rw [e1, List.getElem?_append_left (List.getElem?_eq_some_iff.1 hu).1]; exact hu)) h1).app (cells_rc src (o + a.sz) hs (fun j u hu => by
      have := hp (a.sz + j) u (by rw [e1, List.getElem?_append_right (by omega), l1, Nat.add_sub_cancel_left]; exact hu)
      rw [Nat.add_assoc]
      exact this) h2)

theorem Sim.box (h : Sim C s a w R E) {b : Nat} {cs : List AV} (hb : s.st b = some (.box cs)) : E.F b = [E.B b] ∧ ∃ arr Ty, w.heap[E.B b]? = some (.cells arr Ty (0, 0)) ∧ L2 (RC w R s.st s.us E) cs arr.toList := by
  have := h.st b
  unfold SR at this
  rw [hb] at this
  exact this
theorem Sim.root (h : Sim C s a w R E) {n : Nat} {q : Root} (hq : s.st n = some (.root q)) : E.L n = q.xs.length ∧ E.S n = q.t.sz ∧ ∃ ds Fi, w.ownsRow 0 q.e q.t.sz (E.V n) q.xs.length ds ∧ E.F n = (E.V n).ownBlock.toList ++ Fi ∧ All (Rp w R q.deep q.t) q.xs ds Fi := by
  have := h.st n
  unfold SR at this
  rw [hq] at this
  exact this

theorem g_load_box (hT : TabOK P T) (h : Sim C s a w R E) {o : Oper} {L : TypeId} {x : Operand} (ho : o.op = .load L x) {z : Bool × CT} (hl : lookO L T.lay = some z) {b q : Nat} (hx : s.op x = .pbox b q) {cs : List AV} (hb : s.st b = some (.box cs))
    (h1 : (Nat.ble (q + z.2.sz) cs.length && (z.1 || Nat.beq z.2.sz 1)) = true) : Goal C P o s a w (unflat z.1 ((cs.drop q).take z.2.sz)) [] := by
  simp only [Bool.and_eq_true] at h1
  have hle := Nat.le_of_ble_eq_true h1.1
  obtain ⟨h2, h3⟩ : RC w R s.st s.us E (.pbox b q) (a.eval x) := by have := h.op x; rw [hx] at this; exact this
  obtain ⟨_, arr, Ty, hg, hrc⟩ := h.box hb
  have hl2 := (hrc.drop q).take z.2.sz
  have hlen : ((cs.drop q).take z.2.sz).length = z.2.sz := by simp; omega
  have hrun := loadVar_run (P := P) (w := w) hT hl (ad := ⟨E.B b, q, none⟩) (cs := (arr.toList.drop q).take z.2.sz) (by rw [hl2.len, hlen]) (by
    have := (cells_heap hg q).drop 0 z.2.sz
    simpa [Addr.add] using this) h1.2
  exact goal_pure h (load_rv hl2 hlen h1.2) (by simp [execOp, ho, h3, Instr.loadAt, Instr.sureAddr, hrun])
theorem g_load_zb (hT : TabOK P T) (h : Sim C s a w R E) {o : Oper} {L : TypeId} {x : Operand} (ho : o.op = .load L x) {z : Bool × CT} (hl : lookO L T.lay = some z) {b q : Nat} (hx : s.op x = .pbox b q) (h0 : z.2.sz = 0) (h1 : z.1 = true) : Goal C P o s a w (.agg []) [] := by
  obtain ⟨hu, hv⟩ : RC w R s.st s.us E (.pbox b q) (a.eval x) := by have := h.op x; rw [hx] at this; exact this
  have hrun := loadVar_run (P := P) (w := w) hT hl (ad := ⟨E.B b, q, none⟩) (cs := []) h0.symm (fun j u hj => by simp at hj) (by simp [h1])
  rw [h1] at hrun
  exact goal_pure h (u := .agg #[]) ⟨[], rfl, rfl⟩ (by simp only [execOp, ho, hv, Instr.loadAt, Instr.sureAddr, Sem.run_bind, Sem.run_pure, Result.andThen_ok, hrun]; rfl)
theorem g_load_pro (hT : TabOK P T) (h : Sim C s a w R E) {o : Oper} {L : TypeId} {x : Operand} (ho : o.op = .load L x) {z : Bool × CT} (hl : lookO L T.lay = some z) {u : CT} {v : Den u} {q : Nat} {src : Src} (hx : s.op x = .pro u v q src) (hlive : liveSrc s.st src = true)
    (h1 : (Nat.ble (q + z.2.sz) u.sz && (z.1 || Nat.beq z.2.sz 1)) = true) : Goal C P o s a w (unflat z.1 (((cells u v (fun _ => noPos src) 0).drop q).take z.2.sz)) [] := by
  simp only [Bool.and_eq_true] at h1
  have hle := Nat.le_of_ble_eq_true h1.1
  obtain ⟨h2, _, h3⟩ : RC w R s.st s.us E (.pro u v q src) (a.eval x) := by have := h.op x; rw [hx] at this; exact this
  obtain ⟨ad, ds, e, hr, hc, _⟩ := h3 hlive
  have hl2 := ((cells_rc (R := R) (E := E) (m := s.st) (us := s.us) (fun _ => noPos src) 0 (fun _ => ⟨by cases src <;> exact h2, fun b hb => by cases src <;> exact hb⟩) (fun _ _ _ => by cases src <;> trivial) hr).drop q).take z.2.sz
  have hlen : (((cells u v (fun _ => noPos src) 0).drop q).take z.2.sz).length = z.2.sz := by simp [cells_len]; omega
  have hrun := loadVar_run (P := P) (w := w) hT hl (ad := ad.add q) (cs := (ds.drop q).take z.2.sz) (by rw [hl2.len, hlen]) (hc.drop q z.2.sz) h1.2
  exact goal_pure h (load_rv hl2 hlen h1.2) (by simp [execOp, ho, e, Instr.loadAt, Instr.sureAddr, hrun])
theorem getD_lt {α : Type} (l : List α) (i : Nat) (d : α) (h : i < l.length) : l.getD i d = l[i] := by simp [List.getD, h]
/-- an element of an owned row -/
theorem Sim.elem (h : Sim C s a w R E) {n : Nat} {q : Root} (hq : s.st n = some (.root q)) (i : Nat) (hi : i < q.xs.length) :
    ∃ g cap cur c1 c c2 F1 G F2, E.V n = .slice (some ⟨g, 0, none⟩) q.xs.length cap ∧ w.heap[g]? = some (.cells cur q.e (0, 0)) ∧ cur.toList.take (q.xs.length * q.t.sz) = c1 ++ c ++ c2 ∧ c1.length = i * q.t.sz ∧ E.F n = g :: (F1 ++ G ++ F2) ∧
      q.xs.length ≤ cap ∧ cap ≤ maxLen ∧ cur.size = cap * q.t.sz ∧ Rp w R q.deep q.t q.xs[i] c G ∧
      (∀ (p : Den q.t → List Value → List Nat → Prop) y c' G', (∀ x c H, (∀ b, b ∈ H → b ∈ F1 ∨ b ∈ F2) → Rp w R q.deep q.t x c H → p x c H) → p y c' G' → All p (q.xs.set i y) (c1 ++ c' ++ c2) (F1 ++ G' ++ F2)) := by
  obtain ⟨_, _, ds, Fi, h1, h2, h3⟩ := h.root hq
  obtain ⟨c1, c, c2, F1, G, F2, e1, e2, e3, h4, h5⟩ := h3.focus (n := q.t.sz) (fun x c G hp => hp.len) i hi
  rcases h1.2 with ⟨_, h6⟩ | ⟨g, cap, cur, h6, _, h7, h8, h9, h10, h11⟩
  · omega
  · refine ⟨g, cap, cur, c1, c, c2, F1, G, F2, h6, h7, by rw [h11, e1], e3, ?_, h8, h9, h10, h4, h5⟩
    rw [h2, h6, e2]
    rfl
theorem g_load_pel (hT : TabOK P T) (h : Sim C s a w R E) {o : Oper} {L : TypeId} {x : Operand} (ho : o.op = .load L x) {z : Bool × CT} (hl : lookO L T.lay = some z) {n q : Nat} {i : Int} (hx : s.op x = .pel n i q) {r : Root} (hb : s.st n = some (.root r))
    (h1 : (Nat.ble (q + z.2.sz) r.t.sz && (z.1 || Nat.beq z.2.sz 1)) = true) : Goal C P o s a w (unflat z.1 (((cells r.t (r.xs.getD i.toNat r.t.z) (fun o => .inn n r.ver (some (i, o))) 0).drop q).take z.2.sz)) [] := by
  simp only [Bool.and_eq_true] at h1
  have hle := Nat.le_of_ble_eq_true h1.1
  obtain ⟨hu, h2, h3, g', h4, h5⟩ : RC w R s.st s.us E (.pel n i q) (a.eval x) := by have := h.op x; rw [hx] at this; exact this
  obtain ⟨hL, hS, _⟩ := h.root hb
  rw [hL] at h3
  obtain ⟨g, cap, cur, c1, c, c2, F1, G, F2, e1, e2, e3, e4, e5, e6, e7, e8, e9, _⟩ := h.elem hb i.toNat (by omega)
  rw [e1] at h4
  simp only [Value.ownBlock, Option.some.injEq] at h4
  subst h4
  have hr : Rp w (fun b => R b ∨ b ∈ E.F n) false r.t r.xs[i.toNat] c [] := e9.freeze (fun b hb => .inl hb) (fun b hb => .inr (by rw [e5]; simp [hb]))
  rw [getD_lt _ _ _ (by omega)]
  have hclen := e9.len
  have hc : Cells w ⟨g, i.toNat * r.t.sz, none⟩ c := by
    intro j u hu
    have hj : j < c.length := (List.getElem?_eq_some_iff.1 hu).1
    refine cells_heap e2 _ j u ?_
    rw [List.getElem?_drop]
    have h6 : (cur.toList.take (r.xs.length * r.t.sz))[i.toNat * r.t.sz + j]? = some u := by
      rw [e3, List.append_assoc, List.getElem?_append_right (by omega), e4, Nat.add_sub_cancel_left, List.getElem?_append_left hj]
      exact hu
    rw [List.getElem?_take] at h6
    split at h6
    · exact h6
    · cases h6
  have hpos : ∀ (j : Nat) (u : Value), c[j]? = some u → AtPos w R E (Src.inn n r.ver (some (i, 0 + j))) u := fun j u hj => by
    refine ⟨g, by rw [e1]; rfl, .inr (by rw [e5]; simp), h2, by rw [hL]; omega, ?_⟩
    have := hc j u hj
    have e : (⟨g, i.toNat * r.t.sz, none⟩ : Addr).add j = ⟨g, i.toNat * E.S n + (0 + j), none⟩ := by unfold Addr.add; split <;> simp_all
    rw [e] at this
    exact this
  have hl2 := ((cells_rc (R := R) (E := E) (m := s.st) (us := s.us) (fun o => .inn n r.ver (some (i, o))) 0 (fun _ => ⟨⟨hu, fun q' hq' => by rw [hb] at hq'; injection hq' with hq'; injection hq' with hq'; subst hq'; exact Nat.le_refl _⟩, fun b hb => hb⟩) hpos hr).drop q).take z.2.sz
  have hlen : (((cells r.t r.xs[i.toNat] (fun o => .inn n r.ver (some (i, o))) 0).drop q).take z.2.sz).length = z.2.sz := by simp [cells_len]; omega
  have hrun := loadVar_run (P := P) (w := w) hT hl (ad := ⟨g, i.toNat * E.S n + q, none⟩) (cs := (c.drop q).take z.2.sz) (by rw [hl2.len, hlen]) (by
    have := hc.drop q z.2.sz
    rw [hS]
    have e : (⟨g, i.toNat * r.t.sz, none⟩ : Addr).add q = ⟨g, i.toNat * r.t.sz + q, none⟩ := by unfold Addr.add; split <;> simp_all
    rwa [e] at this) h1.2
  exact goal_pure h (load_rv hl2 hlen h1.2) (by simp [execOp, ho, h5, Instr.loadAt, Instr.sureAddr, hrun])

theorem g_nilCheck (h : Sim C s a w R E) {o : Oper} {x : Operand} (ho : o.op = .nilCheck x) (hx : (∃ b q, s.op x = .pbox b q) ∨ (∃ n i q, s.op x = .pel n i q) ∨ (∃ t v q src, s.op x = .pro t v q src)) : Goal C P o s a w (s.op x) [] := by
  have hv := h.op x
  have hp : ∃ p : Addr, a.eval x = .pointer (some p) := by
    rcases hx with ⟨b, q, e⟩ | ⟨n, i, q, e⟩ | ⟨t, v, q, src, e⟩
    · rw [e] at hv; exact ⟨_, (show RC w R s.st s.us E (.pbox b q) (a.eval x) from hv).2⟩
    · rw [e] at hv; obtain ⟨_, _, _, g, _, h5⟩ : RC w R s.st s.us E (.pel n i q) (a.eval x) := hv; exact ⟨_, h5⟩
    · rw [e] at hv; obtain ⟨_, h5, _⟩ : RC w R s.st s.us E (.pro t v q src) (a.eval x) := hv; exact h5
  obtain ⟨p, hp⟩ := hp
  exact goal_pure h (u := a.eval x) (h.op x) (by simp [execOp, ho, hp])
theorem g_field (hT : TabOK P T) (h : Sim C s a w R E) {o : Oper} {S : TypeId} {x : Operand} {j : Nat} (ho : o.op = .field S x j) {y : Nat × Nat × Bool} (hf : ((lookO S T.fld).bind fun l => l[j]?) = some y) {l : List AV} (hx : s.op x = .agg l)
    (h1 : (Nat.ble (y.1 + y.2.1) l.length && (y.2.2 || Nat.beq y.2.1 1)) = true) : Goal C P o s a w (unflat y.2.2 ((l.drop y.1).take y.2.1)) [] := by
  simp only [Bool.and_eq_true] at h1
  have hle := Nat.le_of_ble_eq_true h1.1
  obtain ⟨vs, e, h2⟩ : RV1 w R s.st s.us E (.agg l) (a.eval x) := by have := h.op x; rw [hx] at this; exact this
  obtain ⟨fs, f, i, d, h3, h4, h5, h6, h7, h8, h9⟩ := hT.fld' hf
  have hl2 := (h2.drop y.1).take y.2.1
  have hlen : ((l.drop y.1).take y.2.1).length = y.2.1 := by simp; omega
  have hvl := h2.len
  refine goal_pure h (load_rv hl2 hlen h1.2) ?_
  have hagg : (isAgg f.type).run P w = .ok y.2.2 w := by
    rw [← h9]
    cases d <;> simp [isAgg, run_underlying h8, isAggD]
  have hex : (vs.toArray.extract y.1 (y.1 + y.2.1)) = ((vs.drop y.1).take y.2.1).toArray := by
    apply Array.ext'
    simp
  have hrun : (part f.type vs.toArray y.1).run P w = .ok (if y.2.2 = true then .agg ((vs.drop y.1).take y.2.1).toArray else ((vs.drop y.1).take y.2.1).headD undef) w := by
    unfold part
    simp only [Sem.run_bind, hagg, Result.andThen_ok]
    cases hy : y.2.2 with
    | true => simp [sizeOf, typeInfo, h6, h7]
    | false =>
      rw [hy] at h1
      simp only [Bool.false_or] at h1
      have hs := Nat.eq_of_beq_eq_true h1.2
      rw [hs] at hle
      have hlt : y.1 < vs.length := by omega
      rw [hs]
      simp [hlt]
      rw [List.drop_eq_getElem_cons hlt]
      rfl
  simp [execOp, ho, Instr.field, run_underlying h3, h4, h5, e, asAgg, hrun]
theorem g_extract (h : Sim C s a w R E) {o : Oper} {x : Operand} {i : Nat} (ho : o.op = .extract x i) {l : List AV} (hx : s.op x = .tup l) {y : AV} (hy : l[i]? = some y) : Goal C P o s a w y [] := by
  obtain ⟨vs, e, h2⟩ : RV w R s.st s.us E (.tup l) (a.eval x) := by have := h.op x; rw [hx] at this; exact this
  obtain ⟨v, hv, hr⟩ := h2.get i y hy
  refine goal_pure h (u := v) ?_ (by simp [execOp, ho, e, Instr.extract, hv])
  cases y <;> simp only [RV] <;> first | exact hr | exact absurd hr (by simp [RV1, RV0, RC])
end Go.Ev

set_option autoImplicit false
set_option linter.unusedVariables false
namespace Go.Ev
variable {P : Program} {T : Tab} {C : Ctx} {s : St} {a : Act} {w : World} {R : Nat → Prop} {E : Env}

/-! ### rows: indexing, cutting, making -/
theorem szOk_run (hT : TabOK P T) {e : TypeId} {t : CT} (h : szOk T e t = true) : ∃ i z u, P.info? e = some i ∧ i.size = t.sz ∧ i.zero = some z ∧ z.cells.toList = zv u ∧ u.sz = t.sz := by
  unfold szOk at h
  cases hl : lookO e T.lay with
  | none => rw [hl] at h; simp at h
  | some z =>
    rw [hl] at h
    obtain ⟨⟨i, zz, hi, hsz, hz, hzc⟩, _⟩ := hT.lay' hl
    have := Nat.eq_of_beq_eq_true h
    exact ⟨i, zz, z.2, hi, by rw [hsz]; exact this, hz, hzc, this⟩
theorem elOk_run (hT : TabOK P T) {S : TypeId} {t : CT} (h : elOk T S t = true) : 0 < t.sz ∧ ∃ e i, P.underlying S = some (.slice e) ∧ P.info? e = some i ∧ i.size = t.sz := by
  unfold elOk at h
  cases he : lookO S T.elem with
  | none => rw [he] at h; simp at h
  | some e =>
    rw [he] at h
    simp only [Bool.and_eq_true] at h
    obtain ⟨i, _, _, h1, h2, _⟩ := szOk_run hT h.1
    exact ⟨by have := h.2; rw [Nat.blt_eq] at this; exact this, e, i, hT.elem' he, h1, h2⟩
theorem g_index_sl (hT : TabOK P T) (h : Sim C s a w R E) {o : Oper} {S : TypeId} {x j : Operand} (ho : o.op = .indexAddr S x j) {e : TypeId} {t : CT} {xs : List (Den t)} {src : Src} (hx : s.op x = .sl e t xs src) {k : IntKind} {i : Int} (hj : s.op j = .int k i)
    (hlive : liveSrc s.st src = true) (hel : elOk T S t = true) (h0 : 0 ≤ i) (h1 : i < (xs.length : Int)) : Goal C P o s a w (.pro t (xs.getD i.toNat t.z) 0 src) [] := by
  have hjv := h.op j
  rw [hj] at hjv
  obtain ⟨hu, _, hr, _⟩ : RC w R s.st s.us E (.sl e t xs src) (a.eval x) := by have := h.op x; rw [hx] at this; exact this
  obtain ⟨A, c, ds, hv, hc, hall, hd⟩ := rowAt_of (hr hlive)
  obtain ⟨h0s, e', ti, hS, hi, hsz⟩ := elOk_run hT hel
  have hlt : i.toNat < xs.length := by omega
  have hdl := hall.len (n := t.sz) (fun x c G hp => hp.len)
  have hdne : ds ≠ [] := by
    intro hn
    rw [hn] at hdl
    have := Nat.mul_pos (show 0 < xs.length by omega) h0s
    simp at hdl
    omega
  obtain ⟨ad, rfl, hb, hcs⟩ := hd hdne
  obtain ⟨c1, c0, c2, F1, G, F2, e1, e2, e3, h4, _⟩ := hall.focus (n := t.sz) (fun x c G hp => hp.len) i.toNat hlt
  have hG := h4.noF
  subst hG
  rw [getD_lt _ _ _ hlt]
  refine goal_pure h (u := .pointer (some (ad.add (i.toNat * t.sz)))) ⟨hu, ⟨_, rfl⟩, fun hl => ?_⟩ ?_
  · refine ⟨ad.add (i.toNat * t.sz), c0, by rw [add_add', Nat.add_zero], h4, ?_, fun _ => ?_⟩
    · have := hcs.drop (i.toNat * t.sz) t.sz
      rw [e1, List.append_assoc, ← e3, List.drop_left] at this
      rw [← e3]
      have hl := h4.len
      rwa [← hl, List.take_left] at this
    · have : (ad.add (i.toNat * t.sz)).block = ad.block := by unfold Addr.add; split <;> rfl
      rw [this]
      exact hb
  · simp [execOp, ho, hv, rv_int hjv, Instr.indexAt, asIntOf, run_underlying hS, h0, h1, sizeOf, typeInfo, hi, hsz]
theorem g_index_ref (hT : TabOK P T) (h : Sim C s a w R E) {o : Oper} {S : TypeId} {x j : Operand} (ho : o.op = .indexAddr S x j) {n : Nat} {r : Root} (hx : s.op x = .ref n) (hr : s.st n = some (.root r)) {k : IntKind} {i : Int} (hj : s.op j = .int k i)
    (hel : elOk T S r.t = true) (h0 : 0 ≤ i) (h1 : i < (r.xs.length : Int)) : Goal C P o s a w (.pel n i 0) [] := by
  have hjv := h.op j
  rw [hj] at hjv
  obtain ⟨hu, hv, _⟩ : RC w R s.st s.us E (.ref n) (a.eval x) := by have := h.op x; rw [hx] at this; exact this
  obtain ⟨h0s, e', ti, hS, hi, hsz⟩ := elOk_run hT hel
  obtain ⟨hL, hSz, _⟩ := h.root hr
  obtain ⟨g, cap, cur, c1, c, c2, F1, G, F2, e1, _⟩ := h.elem hr i.toNat (by omega)
  rw [e1] at hv
  refine goal_pure h (u := .pointer (some ⟨g, i.toNat * r.t.sz, none⟩)) ⟨hu, h0, by rw [hL]; exact h1, g, by rw [e1]; rfl, by rw [hSz, Nat.add_zero]⟩ ?_
  have e : (⟨g, 0, none⟩ : Addr).add (i.toNat * r.t.sz) = ⟨g, i.toNat * r.t.sz, none⟩ := by unfold Addr.add; split <;> simp_all
  simp [execOp, ho, hv, rv_int hjv, Instr.indexAt, asIntOf, run_underlying hS, h0, h1, sizeOf, typeInfo, hi, hsz, e]

/-- a cut of a row -/
theorem slice_run {S e : TypeId} {ti : TypeInfo} (hS : P.underlying S = some (.slice e)) (hi : P.info? e = some ti) {A : Option Addr} {n c : Nat} (hnc : n ≤ c) {lo hi' : Option Value} {l m : Nat} (hlo : (lo = none ∧ l = 0) ∨ ∃ k, lo = some (.int k (l : Int))) (hhi : (hi' = none ∧ m = n) ∨ ∃ k, hi' = some (.int k (m : Int))) (hlm : l ≤ m) (hmn : m ≤ n) :
    (Instr.sliceAt S (.slice A n c) lo hi' none).run P w = .ok (.slice (if c = l then A else A.map (·.add (l * ti.size))) (m - l) (c - l)) w := by
  have hb : (Instr.sliceBounds true n c lo hi' none).run P w = .ok (l, m, c) w := by
    rcases hlo with ⟨rfl, rfl⟩ | ⟨k, rfl⟩ <;> rcases hhi with ⟨rfl, rfl⟩ | ⟨k', rfl⟩
    · simp [Instr.sliceBounds]
    · simp [Instr.sliceBounds, Instr.sliceBound, asIntOf, show m ≤ c by omega]
    · simp [Instr.sliceBounds, Instr.sliceBound, asIntOf, hlm]
    · simp [Instr.sliceBounds, Instr.sliceBound, asIntOf, hlm, show m ≤ c by omega]
  simp [Instr.sliceAt, run_underlying hS, Instr.slice, hb, sizeOf, typeInfo, hi]
theorem All.cut {w : World} {R : Nat → Prop} {t : CT} : ∀ {xs : List (Den t)} {ds : List Value} (l m : Nat), All (Rp w R false t) xs ds [] → All (Rp w R false t) ((xs.take m).drop l) ((ds.take (m * t.sz)).drop (l * t.sz)) []
  | [], ds, l, m, h => by rw [h.1]; simp [All]
  | x :: r, ds, l, 0, h => by simp [All]
  | x :: r, ds, 0, m + 1, ⟨c1, c2, F1, F2, e1, e2, h1, h2⟩ => by
    have f1 := h1.noF
    subst f1
    have f2 : F2 = [] := by simpa using e2.symm
    subst f2
    have hl := h1.len
    have ih := All.cut 0 m h2
    refine ⟨c1, (c2.take (m * t.sz)), [], [], ?_, rfl, h1, by simpa using ih⟩
    rw [e1, Nat.zero_mul, List.drop_zero, List.take_append, hl, Nat.succ_mul, Nat.add_sub_cancel, List.take_of_length_le (by rw [hl]; omega)]
  | x :: r, ds, l + 1, m + 1, ⟨c1, c2, F1, F2, e1, e2, h1, h2⟩ => by
    have f1 := h1.noF
    subst f1
    have f2 : F2 = [] := by simpa using e2.symm
    subst f2
    have hl := h1.len
    have ih := All.cut l m h2
    have e : (ds.take ((m + 1) * t.sz)).drop ((l + 1) * t.sz) = (c2.take (m * t.sz)).drop (l * t.sz) := by
      rw [e1, Nat.succ_mul m, Nat.succ_mul l, List.take_append, hl, Nat.add_sub_cancel, List.take_of_length_le (by rw [hl]; omega), List.drop_append, hl, Nat.add_sub_cancel, List.drop_of_length_le (by rw [hl]; omega)]
      rfl
    rw [e]
    simpa using ih
theorem rowAt_cut {R' : Nat → Prop} {t : CT} {xs : List (Den t)} {A : Option Addr} {c : Nat} (h : RowAt w R' t xs (.slice A xs.length c)) (e : TypeId) (l m : Nat) (hlm : l ≤ m) (hmn : m ≤ xs.length) :
    Rp w R' false (.sl e t) ((xs.take m).drop l) [.slice (if c = l then A else A.map (·.add (l * t.sz))) (m - l) (c - l)] [] := by
  obtain ⟨A', c', ds, hv, hc, hall, hd⟩ := h
  simp only [Value.slice.injEq, true_and] at hv
  obtain ⟨rfl, rfl⟩ := hv
  have hlen : ((xs.take m).drop l).length = m - l := by simp; omega
  refine ⟨_, _, _, by rw [hlen], rfl, by rw [hlen]; omega, hall.cut l m, fun hne => ?_⟩
  have hdl := hall.len (n := t.sz) (fun x c G hp => hp.len)
  obtain ⟨ad, rfl, hb, hcs⟩ := hd (fun hn => hne (by rw [hn]; simp))
  have hcl : c ≠ l := by
    intro hcl
    have h1 : l = m := by omega
    subst h1
    exact hne (by rw [List.drop_of_length_le (by simp; omega)])
  refine ⟨ad.add (l * t.sz), by simp [hcl], ?_, ?_⟩
  · have : (ad.add (l * t.sz)).block = ad.block := by unfold Addr.add; split <;> rfl
    rw [this]; exact hb
  · have := hcs.drop (l * t.sz) (m * t.sz - l * t.sz)
    rwa [List.drop_take]
/-- the source that a cut of x has -/
theorem g_slice (hT : TabOK P T) (h : Sim C s a w R E) {m : Mem} (hm : Sub m s.st) {o : Oper} {S : TypeId} {x : Operand} {lo hi : Option Operand} (ho : o.op = .slice S x lo hi none) {r : Row} (hr : rowOf m (s.op x) = some r) (hel : elOk T S r.t = true) {l u : Int}
    (hlo : (lo = none ∧ l = 0) ∨ ∃ z k, lo = some z ∧ s.op z = .int k l) (hhi : (hi = none ∧ u = (r.xs.length : Int)) ∨ ∃ z k, hi = some z ∧ s.op z = .int k u) (h0 : 0 ≤ l) (hlu : l ≤ u) (hu : u ≤ (r.xs.length : Int)) :
    Goal C P o s a w (.sl r.e r.t ((r.xs.take u.toNat).drop l.toNat) (cutSrc m (s.op x))) [] := by
  obtain ⟨_, e', ti, hS, hi', hsz⟩ := elOk_run hT hel
  have hv := h.op x
  have key : ∃ A c, a.eval x = .slice A r.xs.length c ∧ r.xs.length ≤ c ∧ usedSrc s.st s.us (cutSrc m (s.op x)) ∧ RowAt w (RS R E (cutSrc m (s.op x))) r.t r.xs (.slice A r.xs.length c) := by
    cases hx : s.op x with
    | sl e t xs src =>
      rw [hx] at hv hr
      obtain ⟨h1, _, h2⟩ : RC w R s.st s.us E (.sl e t xs src) (a.eval x) := hv
      cases src with
      | imm =>
        simp only [Ev.rowOf, Option.some.injEq] at hr
        subst hr
        obtain ⟨A, c, ds, e1, e2, e3, e4⟩ := rowAt_of (h2.1 rfl)
        exact ⟨A, c, e1, e2, trivial, A, c, ds, rfl, e2, e3, e4⟩
      | inn n ver pos =>
        simp only [Ev.rowOf] at hr
        cases hmn : m n with
        | none => rw [hmn] at hr; simp at hr
        | some en =>
          rw [hmn] at hr
          cases en with
          | box cs | mp es | zb ze => simp at hr
          | root q =>
            simp only at hr
            by_cases hver : Nat.beq q.ver ver = true
            · rw [hver] at hr
              simp only [cond_true, Option.some.injEq] at hr
              subst hr
              have hl : liveSrc m (.inn n ver pos) = true := by
                show (match m n with | some (.root q) => Nat.beq q.ver ver | _ => false) = true
                rw [hmn]; exact hver
              obtain ⟨A, c, ds, e1, e2, e3, e4⟩ := rowAt_of (h2.1 (hm.live hl))
              exact ⟨A, c, e1, e2, h1, A, c, ds, rfl, e2, e3, e4⟩
            · simp only [Bool.not_eq_true] at hver
              rw [hver] at hr
              simp at hr
    | ref n =>
      rw [hx] at hv hr
      obtain ⟨h1, h2, _⟩ : RC w R s.st s.us E (.ref n) (a.eval x) := hv
      simp only [Ev.rowOf] at hr
      cases hmn : m n with
      | none => rw [hmn] at hr; simp at hr
      | some en =>
        rw [hmn] at hr
        cases en with
        | box cs | mp es | zb ze => simp at hr
        | root q =>
          simp only [Option.some.injEq] at hr
          subst hr
          have hq := hm n _ hmn
          obtain ⟨A, c, ds, e1, e2, e3, e4⟩ := h.rootRow hq
          rw [h2]
          refine ⟨A, c, e1, e2, ?_, A, c, ds, rfl, e2, ?_, ?_⟩
          · simp only [cutSrc, hmn]
            exact ⟨h1, fun q' hq' => by rw [hq] at hq'; injection hq' with hq'; injection hq' with hq'; subst hq'; exact Nat.le_refl _⟩
          · simp only [cutSrc, hmn]
            exact e3
          · simp only [cutSrc, hmn]
            exact e4
    | _ => rw [hx] at hr; simp [Ev.rowOf] at hr
  obtain ⟨A, c, e1, e2, e3, e4⟩ := key
  have hlo' : (lo.map a.eval = none ∧ l.toNat = 0) ∨ ∃ k, lo.map a.eval = some (.int k (l.toNat : Int)) := by
    rcases hlo with ⟨rfl, rfl⟩ | ⟨z, k, rfl, hz⟩
    · exact .inl ⟨rfl, rfl⟩
    · have := h.op z
      rw [hz] at this
      exact .inr ⟨k, by simp [rv_int this, Int.toNat_of_nonneg h0]⟩
  have hhi' : (hi.map a.eval = none ∧ u.toNat = r.xs.length) ∨ ∃ k, hi.map a.eval = some (.int k (u.toNat : Int)) := by
    rcases hhi with ⟨rfl, rfl⟩ | ⟨z, k, rfl, hz⟩
    · exact .inl ⟨rfl, by simp⟩
    · have := h.op z
      rw [hz] at this
      exact .inr ⟨k, by simp [rv_int this, Int.toNat_of_nonneg (show 0 ≤ u by omega)]⟩
  have hrun := slice_run (P := P) (w := w) hS hi' (A := A) e2 hlo' hhi' (show l.toNat ≤ u.toNat by omega) (show u.toNat ≤ r.xs.length by omega)
  refine goal_pure h (u := .slice (if c = l.toNat then A else A.map (·.add (l.toNat * ti.size))) (u.toNat - l.toNat) (c - l.toNat)) (And.intro e3 (And.intro ⟨_, _, _, rfl⟩ (And.intro (fun _ => ?_) (fun _ => ?_)))) (by simp [execOp, ho, e1, hrun])
  · rw [hsz]
    exact rowAt_cut e4 r.e l.toNat u.toNat (by omega) (by omega)
  · cases hx : s.op x with
    | sl e t xs src => cases src <;> trivial
    | ref n =>
      unfold cutSrc
      dsimp only
      split <;> trivial
    | _ => trivial
end Go.Ev

set_option autoImplicit false
set_option linter.unusedVariables false
namespace Go.Ev
variable {P : Program} {T : Tab} {C : Ctx} {s : St} {a : Act} {w : World} {R : Nat → Prop} {E : Env}

/-- the world turns where nothing is told -/
theorem Sim.turn (h : Sim C s a w R E) {w' : World} (hb : ∀ b, b < w.heap.size → (R b ∨ ∃ n, b ∈ E.F n) → w'.heap[b]? = w.heap[b]?) (hs : w.heap.size ≤ w'.heap.size) (hk : Keep C.w0 w' C.F0) : Sim C s a w' R E := by
  have mv : Move w R s.st s.us E w' R s.st s.us E :=
    ⟨fun _ h => h, fun _ _ => ⟨rfl, rfl, rfl, rfl⟩, fun b hb' => ⟨hb', hb b (h.lt b hb') (.inl hb')⟩, fun n q' _ hq => ⟨q', hq, Nat.le_refl _, fun _ b hb' => ⟨.inr hb', hb b (h.own n b hb').2.1 (.inr ⟨n, hb'⟩)⟩⟩⟩
  refine ⟨fun t => RV.move mv (h.tm t), h.nt, h.df, fun n => ?_, h.un, h.sub, fun b hb' => Nat.lt_of_lt_of_le (h.lt b hb') hs, fun n b hb' => ⟨(h.own n b hb').1, Nat.lt_of_lt_of_le (h.own n b hb').2.1 hs, (h.own n b hb').2.2⟩, h.nd, h.dj, hk, h.nw⟩
  cases hu : s.us n with
  | false => exact SR.congr (h.un n hu) (h.unF hu)
  | true => exact SR.move mv hu rfl rfl (fun b hb' => hb b (h.own n b hb').2.1 (.inr ⟨n, hb'⟩)) (h.st n)

/-! names given up, several at once -/
def Env.dropL (E : Env) : List Nat → Env
  | [] => E
  | n :: r => Env.dropL (E.drop n) r
theorem dropL_V : ∀ (l : List Nat) (E : Env), (E.dropL l).V = E.V ∧ (E.dropL l).B = E.B ∧ (E.dropL l).L = E.L ∧ (E.dropL l).S = E.S
  | [], _ => ⟨rfl, rfl, rfl, rfl⟩
  | n :: r, E => dropL_V r (E.drop n)
theorem dropL_in : ∀ (l : List Nat) (E : Env) (k : Nat), k ∈ l → (E.dropL l).F k = []
  | n :: r, E, k, h => by
    by_cases hk : k ∈ r
    · exact dropL_in r (E.drop n) k hk
    · have e : k = n := by simpa [hk] using h
      subst e
      have : ∀ (l : List Nat) (E : Env), k ∉ l → (E.dropL l).F k = E.F k := by
        intro l
        induction l with
        | nil => intro E _; rfl
        | cons x r ih =>
          intro E hx
          simp only [List.mem_cons, not_or] at hx
          show ((E.drop x).dropL r).F k = _
          rw [ih _ hx.2, Sim.dropF hx.1]
      show ((E.drop k).dropL r).F k = _
      rw [this r _ hk, Sim.dropAt]
theorem dropL_out : ∀ (l : List Nat) (E : Env) (k : Nat), k ∉ l → (E.dropL l).F k = E.F k
  | [], _, _, _ => rfl
  | x :: r, E, k, hx => by
    simp only [List.mem_cons, not_or] at hx
    show ((E.drop x).dropL r).F k = _
    rw [dropL_out r _ k hx.2, Sim.dropF hx.1]
theorem gone_cons (s : St) (n : Nat) (r : List Nat) : s.write (gone (n :: r)) = ({ s with st := upd s.st n none } : St).write (gone r) := by
  show ({ s with st := upd s.st n none, us := upd s.us n (s.us n || false) } : St).write (gone r) = _
  rw [Bool.or_false, upd_self]
theorem Sim.goneDrop : ∀ (l : List Nat) {s : St} {E : Env}, Sim C s a w R E → Sim C (s.write (gone l)) a w R (E.dropL l)
  | [], _, _, h => h
  | n :: r, s, E, h => by rw [gone_cons]; exact Sim.goneDrop r (h.drop n)
theorem Sim.goneFreeze : ∀ (l : List Nat) {s : St} {R : Nat → Prop} {E : Env}, Sim C s a w R E → Sim C (s.write (gone l)) a w (fun b => R b ∨ ∃ n, n ∈ l ∧ b ∈ E.F n) (E.dropL l)
  | [], s, R, E, h => by
    have : (fun b => R b ∨ ∃ n, n ∈ ([] : List Nat) ∧ b ∈ E.F n) = R := by funext b; simp
    rw [this]; exact h
  | n :: r, s, R, E, h => by
    rw [gone_cons]
    have := Sim.goneFreeze r (h.freeze n)
    have e : (fun b => (R b ∨ b ∈ E.F n) ∨ ∃ k, k ∈ r ∧ b ∈ (E.drop n).F k) = (fun b => R b ∨ ∃ k, k ∈ n :: r ∧ b ∈ E.F k) := by
      funext b
      apply propext
      constructor
      · rintro ((hb | hb) | ⟨k, hk, hb⟩)
        · exact .inl hb
        · exact .inr ⟨n, by simp, hb⟩
        · by_cases hkn : k = n
          · subst hkn; rw [Sim.dropAt] at hb; cases hb
          · rw [Sim.dropF hkn] at hb; exact .inr ⟨k, by simp [hk], hb⟩
      · rintro (hb | ⟨k, hk, hb⟩)
        · exact .inl (.inl hb)
        · by_cases hkn : k = n
          · subst hkn; exact .inl (.inr hb)
          · refine .inr ⟨k, by simpa [hkn] using hk, by rw [Sim.dropF hkn]; exact hb⟩
    rw [e] at this
    exact this
theorem gone_us (l : List Nat) : ∀ (s : St), (s.write (gone l)).us = s.us ∧ (s.write (gone l)).tm = s.tm ∧ (s.write (gone l)).nt = s.nt ∧ (∀ k, k ∉ l → (s.write (gone l)).st k = s.st k) ∧ (∀ k, k ∈ l → (s.write (gone l)).st k = none) := by
  induction l with
  | nil => intro s; exact ⟨rfl, rfl, rfl, fun _ _ => rfl, fun _ h => by cases h⟩
  | cons n r ih =>
    intro s
    rw [gone_cons]
    obtain ⟨h1, h2, h3, h4, h5⟩ := ih { s with st := upd s.st n none }
    refine ⟨h1, h2, h3, fun k hk => ?_, fun k hk => ?_⟩
    · simp only [List.mem_cons, not_or] at hk
      rw [h4 k hk.2]
      exact upd_ne _ _ hk.1
    · by_cases hkr : k ∈ r
      · exact h5 k hkr
      · rw [h4 k hkr]
        have : k = n := by simpa [hkr] using hk
        subst this
        exact upd_at ..

/-- a new row -/
theorem Sim.addRoot (h : Sim C s a w R E) {dn : Nat} (hn : s.us dn = false) {q : Root} {v : Value} {ds : List Value} {Fi : List Nat} (hown : w.ownsRow 0 q.e q.t.sz v q.xs.length ds) (hall : All (Rp w R q.deep q.t) q.xs ds Fi)
    (hF : ∀ b, b ∈ v.ownBlock.toList ++ Fi → ¬ R b ∧ (C.w0.heap.size ≤ b ∨ b ∈ C.F0)) (hnd : (v.ownBlock.toList ++ Fi).Nodup) (hdj : ∀ k b, b ∈ v.ownBlock.toList ++ Fi → b ∉ E.F k) (d : Option Nat) :
    ∃ E', Sim C ((s.write [⟨dn, some (.root q), true⟩]).put d (.ref dn)) (a.put d v) w R E' := by
  have hlt : ∀ b, b ∈ v.ownBlock.toList ++ Fi → b < w.heap.size := by
    intro b hb
    rcases List.mem_append.1 hb with hb | hb
    · exact (hown.lt b (by simpa using hb)).2
    · exact hall.lt b hb
  have h2 := h.add dn hn (.root q) v (v.ownBlock.toList ++ Fi) 0 q.xs.length q.t.sz (fun b hb => ⟨(hF b hb).1, hlt b hb, (hF b hb).2⟩) hnd hdj (fun m us E' mv hus hE hm => by
      subst hE; subst hm
      unfold SR
      rw [upd_at]
      refine ⟨by simp [Env.add, upd_at], by simp [Env.add, upd_at], ds, Fi, ?_, ?_, hall⟩
      · simp only [Env.add, upd_at]; exact hown
      · simp only [Env.add, upd_at])
  rw [write_new]
  refine ⟨_, h2.put d (u := v) (And.intro (upd_at ..) (And.intro ?_ ?_))⟩
  · simp [Env.add, upd_at]
  · rcases hown.2 with ⟨e, _⟩ | ⟨g, cap, cur, e, _⟩
    · exact ⟨_, _, _, e⟩
    · exact ⟨_, _, _, e⟩

/-! zeros -/
theorem zv_rp (d : Bool) : ∀ (t : CT), Rp w R d t t.z (zv t) []
  | .int k => ⟨rfl, rfl⟩
  | .bool => ⟨rfl, rfl⟩
  | .str => ⟨rfl, rfl⟩
  | .sl e t => by
    cases d
    · exact ⟨none, 0, [], rfl, rfl, Nat.le_refl _, ⟨rfl, rfl⟩, fun h => absurd rfl h⟩
    · exact ⟨_, [], [], rfl, World.ownsRow_nil w 0 e t.sz, rfl, rfl, rfl⟩
  | .nil => ⟨rfl, rfl⟩
  | .cons x y => ⟨_, _, [], [], rfl, rfl, zv_rp d x, zv_rp d y⟩
theorem zv_len : ∀ (t : CT), (zv t).length = t.sz
  | .int k => rfl
  | .bool => rfl
  | .str => rfl
  | .sl e t => rfl
  | .nil => rfl
  | .cons x y => by simp [zv, zv_len x, zv_len y, CT.sz]
theorem range_rep (z : List Value) (hz : 0 < z.length) (k : Nat) : (List.range (k * z.length)).map (fun i => z[i % z.length]!) = (List.replicate k z).flatten := by
  induction k with
  | zero => simp
  | succ k ih =>
    rw [Nat.succ_mul, List.range_add, List.map_append, ih, List.replicate_succ', List.flatten_append]
    congr 1
    simp only [List.map_map, List.flatten_cons, List.flatten_nil, List.append_nil]
    apply List.ext_getElem
    · simp
    · intro i h1 h2
      simp only [List.getElem_map, List.getElem_range, Function.comp]
      rw [Nat.mul_comm, Nat.mul_add_mod, Nat.mod_eq_of_lt h2]
      simp [h2]
theorem madeCells_list (z : Array Value) (hz : 0 < z.size) (k : Nat) : (madeCells z (k * z.size)).toList = (List.replicate k z.toList).flatten := by
  unfold madeCells
  rw [Array.toList_map, Array.toList_range]
  rw [← range_rep z.toList (by simpa using hz) k]
  simp
  intro a _
  have : a % z.size < z.size := Nat.mod_lt _ hz
  simp [this]
theorem all_rep (d : Bool) (t : CT) (n : Nat) : All (Rp w R d t) (List.replicate n t.z) (List.replicate n (zv t)).flatten [] := by
  induction n with
  | zero => exact ⟨rfl, rfl⟩
  | succ n ih => exact ⟨_, _, [], [], rfl, rfl, zv_rp d t, ih⟩
theorem g_make (hT : TabOK P T) (h : Sim C s a w R E) {o : Oper} {S : TypeId} {x y : Operand} (ho : o.op = .makeSlice S x y) {n m : Int} (hx : s.op x = .int .i64 n) (hy : s.op y = .int .i64 m) {e : TypeId} (he : lookO S T.elem = some e) {z : Bool × CT} (hl : lookO e T.lay = some z) {by_ : Nat} (hby : lookO e T.byt = some by_)
    (h0 : 0 ≤ n) (h1 : n ≤ m) (h2 : m * (by_ : Int) ≤ 281474976710656) (h3 : 0 < by_) (hsz : 0 < z.2.sz) {dn : Nat} (hn : s.us dn = false) : Goal C P o s a w (.ref dn) [⟨dn, some (.root ⟨e, z.2, List.replicate n.toNat z.2.z, true, false, 0⟩), true⟩] := by
  have hxv := h.op x
  have hyv := h.op y
  rw [hx] at hxv
  rw [hy] at hyv
  obtain ⟨⟨i, zz, hi, his, hz, hzc⟩, _⟩ := hT.lay' hl
  have hb := hT.byt' hby
  rw [hi] at hb
  simp only [Option.map_some, Option.some.injEq] at hb
  have hm : m ≤ 281474976710656 := by
    have : m * 1 ≤ m * (by_ : Int) := Int.mul_le_mul_of_nonneg_left (by omega) (by omega)
    omega
  have hrun := run_make (P := P) w S e i zz (hT.elem' he) hi hz .i64 .i64 n m h0 h1 (by rw [hb, Int.mul_comm]; exact h2) (by omega)
  rw [his] at hrun
  have hzl : zz.cells.size = z.2.sz := by rw [← Array.length_toList, hzc, zv_len]
  have hmc : (madeCells zz.cells (m.toNat * z.2.sz)).toList = (List.replicate m.toNat (zv z.2)).flatten := by
    rw [← hzl, madeCells_list _ (by omega), hzc]
  have hA := h.alloc (.cells (madeCells zz.cells (m.toNat * z.2.sz)) e)
  have hflen : ∀ k, (List.replicate k (zv z.2)).flatten.length = k * z.2.sz := by
    intro k
    induction k with
    | zero => simp
    | succ k ih => rw [List.replicate_succ, List.flatten_cons, List.length_append, ih, zv_len, Nat.succ_mul]; omega
  have htake : (List.replicate m.toNat (zv z.2)).flatten.take (n.toNat * z.2.sz) = (List.replicate n.toNat (zv z.2)).flatten := by
    have e1 : m.toNat = n.toNat + (m.toNat - n.toNat) := by omega
    rw [e1, ← List.replicate_append_replicate, List.flatten_append, ← hflen n.toNat, List.take_left]
  have hown : (w.alloc (.cells (madeCells zz.cells (m.toNat * z.2.sz)) e)).ownsRow 0 e z.2.sz (.slice (some ⟨w.heap.size, 0, none⟩) n.toNat m.toNat) (List.replicate n.toNat z.2.z).length (List.replicate n.toNat (zv z.2)).flatten := by
    rw [List.length_replicate]
    refine ⟨by rw [hflen], .inr ⟨w.heap.size, m.toNat, _, rfl, Nat.zero_le _, heap_alloc_new w _, by omega, by simp only [maxLen]; omega, size_madeCells _ _, by rw [hmc]; exact htake⟩⟩
  obtain ⟨E', hE⟩ := hA.addRoot hn (q := ⟨e, z.2, List.replicate n.toNat z.2.z, true, false, 0⟩) hown (all_rep true z.2 n.toNat) (fun b hb => by
      simp [Value.ownBlock] at hb
      subst hb
      exact ⟨fun hc => absurd (h.lt _ hc) (by omega), .inl h.keep.size⟩) (by simp [Value.ownBlock]) (fun k b hb hc => by
      simp [Value.ownBlock] at hb
      subst hb
      exact absurd (h.own k _ hc).2.1 (by omega)) o.dst
  exact ⟨_, _, R, E', .inl (by simp [execOp, ho, rv_int hxv, rv_int hyv, hrun]), hE⟩
end Go.Ev

