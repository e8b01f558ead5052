/- A text of the claim: an evaluator of Go functions, and why it answers as they do. -/
import Derived.Calls
import Derived.Laws.BytesArg
import Derived.KernelRfl
set_option linter.all false
set_option linter.unusedVariables false
set_option linter.unusedSimpArgs false
set_option autoImplicit false
namespace Go.Ev

/-- the layout of a cell, or of a row of cells -/
inductive CT where
  | int (k : IntKind) | bool | str | sl (e : TypeId) (t : CT) | nil | cons (a b : CT)
  deriving DecidableEq

@[reducible] def Den : CT → Type
  | .int _ => Int
  | .bool => Bool
  | .str => ByteArray
  | .sl _ t => List (Den t)
  | .nil => Unit
  | .cons a b => Den a × Den b

def CT.sz : CT → Nat
  | .nil => 0
  | .cons a b => a.sz + b.sz
  | _ => 1

def CT.z : (t : CT) → Den t
  | .int _ => (0 : Int)
  | .bool => false
  | .str => (⟨#[]⟩ : ByteArray)
  | .sl _ _ => []
  | .nil => ()
  | .cons a b => (a.z, b.z)

def CT.hasSl : CT → Bool
  | .sl _ _ => true
  | .cons a b => a.hasSl || b.hasSl
  | _ => false

inductive Src where
  | imm
  | inn (n ver : Nat) (pos : Option (Int × Nat))

inductive AV where
  | int (k : IntKind) (n : Int)
  | bool (b : Bool)
  | str (s : ByteArray)
  | sl (e : TypeId) (t : CT) (xs : List (Den t)) (src : Src)
  | ref (n : Nat)
  | nilsl
  | agg (cs : List AV)
  | tup (vs : List AV)
  | pbox (b off : Nat)
  | pel (n : Nat) (i : Int) (off : Nat)
  | pro (t : CT) (x : Den t) (off : Nat) (src : Src)
  | fn (f : FuncId)
  | clo (f : FuncId) (caps : List AV)
  | mref (n : Nat)
  | ifc (T : TypeId) (cs : List AV)
  | junk

def cells : (t : CT) → Den t → (Nat → Src) → Nat → List AV
  | .int k, n, _, _ => [.int k n]
  | .bool, b, _, _ => [.bool b]
  | .str, s, _, _ => [.str s]
  | .sl e t, xs, src, o => [.sl e t xs (src o)]
  | .nil, _, _, _ => []
  | .cons a b, x, src, o => cells a x.1 src o ++ cells b x.2 src (o + a.sz)

structure Root where
  e : TypeId
  t : CT
  xs : List (Den t)
  deep : Bool
  pin : Bool
  ver : Nat

inductive Ent where
  | root (q : Root)
  | box (cs : List AV)
  | mp (es : List (ByteArray × Int))
  | zb (e : TypeId)

structure St where
  tm : Nat → AV
  st : Nat → Option Ent
  us : Nat → Bool
  nt : Nat

structure Tab where
  lay : List (TypeId × (Bool × CT))
  fld : List (TypeId × List (Nat × Nat × Bool))
  elem : List (TypeId × TypeId)
  byt : List (TypeId × Nat)
  maps : List (TypeId × Unit)
  meth : List (TypeId × List (String × FuncId))
  zf : List (TypeId × Nat)

def look {α : Type} (d : α) (n : Nat) : List (Nat × α) → α
  | [] => d
  | x :: r => bif Nat.beq x.1 n then x.2 else look d n r
def lookO {α : Type} (n : Nat) : List (Nat × α) → Option α
  | [] => none
  | x :: r => bif Nat.beq x.1 n then some x.2 else lookO n r
def elemN (n : Nat) : List Nat → Bool
  | [] => false
  | x :: r => bif Nat.beq x n then true else elemN n r

def ofConst : Value → AV
  | .int k n => .int k n
  | .bool b => .bool b
  | .string s => .str s
  | .slice none 0 0 => .nilsl
  | _ => .junk

def St.op (s : St) : Operand → AV
  | .tmp t => s.tm t
  | .const v => ofConst v
  | .func f => .fn f
  | .global _ => .junk

def upd {α : Type} (f : Nat → α) (d : Nat) (v : α) : Nat → α := fun i => bif Nat.beq i d then v else f i
def St.put (s : St) (d : Option Nat) (v : AV) : St := match d with
  | some d => bif Nat.blt d s.nt then { s with tm := upd s.tm d v } else s
  | none => s

/-- what an operation writes: a name, what it becomes, is it new -/
structure W where
  n : Nat
  e : Option Ent
  new : Bool

def St.write (s : St) : List W → St
  | [] => s
  | w :: r => St.write { s with st := upd s.st w.n w.e, us := upd s.us w.n (s.us w.n || w.new) } r
def freshOk (us : Nat → Bool) : List W → Bool
  | [] => true
  | w :: r => bif w.new then (bif us w.n then false else freshOk (upd us w.n true) r) else freshOk us r

abbrev Mem := Nat → Option Ent
def flat : AV → Option (List AV)
  | .agg cs => some cs
  | .junk => none
  | .tup _ => none
  | .clo _ _ => none
  | .ifc _ _ => none
  | v => some [v]
def unflat (isAgg : Bool) (cs : List AV) : AV := bif isAgg then .agg cs else cs.headD .junk
def splice (cs : List AV) (off : Nat) (vs : List AV) : List AV := cs.take off ++ vs ++ cs.drop (off + vs.length)
def zcells : CT → List AV
  | .int k => [.int k 0]
  | .bool => [.bool false]
  | .str => [.str ⟨#[]⟩]
  | .sl _ _ => [.nilsl]
  | .nil => []
  | .cons a b => zcells a ++ zcells b

/-- cells as data; is what they lead to wholly owned; the names given up; the cells left -/
def toDen (m : Mem) : (t : CT) → List AV → Option (Den t × Bool × List Nat × List AV)
  | .int k, .int k' n :: r => bif decide (k' = k) then some (n, true, [], r) else none
  | .bool, .bool b :: r => some (b, true, [], r)
  | .str, .str b :: r => some (b, true, [], r)
  | .sl _ _, .nilsl :: r => some ([], true, [], r)
  | .sl e t, .sl e' t' xs .imm :: r => if h : t' = t then (bif Nat.beq e' e then some (h ▸ xs, false, [], r) else none) else none
  | .sl e t, .ref n :: r => match m n with
    | some (.root q) => if h : q.t = t then (bif Nat.beq q.e e && !q.pin then some (h ▸ q.xs, q.deep, [n], r) else none) else none
    | _ => none
  | .nil, r => some ((), true, [], r)
  | .cons a b, l => match toDen m a l with
    | some (x, o, c, r) => match toDen m b r with
      | some (y, o', c', r') => some ((x, y), o && o', c ++ c', r')
      | none => none
    | none => none
  | _, _ => none
def okCells : List AV → Bool
  | [] => true
  | .junk :: _ => false
  | _ :: r => okCells r
def anyN (a b : List Nat) : Bool := match a with
  | [] => false
  | x :: r => bif elemN x b then true else anyN r b
def okV0 : AV → Bool
  | .tup _ => false
  | .clo _ _ => false
  | .ifc _ _ => false
  | _ => true
def okV0s : List AV → Bool
  | [] => true
  | x :: r => bif okV0 x then okV0s r else false
def okV1 : AV → Bool
  | .tup _ => false
  | _ => true
def okV1s : List AV → Bool
  | [] => true
  | x :: r => bif okV1 x then okV1s r else false
/-- a map from texts to numbers: its entries, in the order in which they came -/
def mhas (k : ByteArray) : List (ByteArray × Int) → Bool
  | [] => false
  | e :: r => k == e.1 || mhas k r
def mget (k : ByteArray) : List (ByteArray × Int) → Int
  | [] => 0
  | e :: r => bif k == e.1 then e.2 else mget k r
def mput (k : ByteArray) (v : Int) : List (ByteArray × Int) → List (ByteArray × Int)
  | [] => [(k, v)]
  | e :: r => bif k == e.1 then (k, v) :: r else e :: mput k v r
def midx (k : ByteArray) : List (ByteArray × Int) → Nat
  | [] => 0
  | e :: r => bif k == e.1 then 0 else midx k r + 1
def nodupN : List Nat → Bool
  | [] => true
  | x :: r => bif elemN x r then false else nodupN r

/-- one cell of an element written -/
def putC (m : Mem) : (t : CT) → Den t → Nat → AV → Option (Den t × Bool × List Nat)
  | .cons a b, x, off, v => bif Nat.blt off a.sz then (match putC m a x.1 off v with | some (y, o, c) => some ((y, x.2), o, c) | none => none)
      else (match putC m b x.2 (off - a.sz) v with | some (y, o, c) => some ((x.1, y), o, c) | none => none)
  | t, _, _, v => match toDen m t [v] with
    | some (y, o, c, _) => some (y, o, c)
    | none => none
def putCs (m : Mem) (t : CT) : Den t → Nat → List AV → Option (Den t × Bool × List Nat)
  | x, _, [] => some (x, true, [])
  | x, off, v :: r => match putC m t x off v with
    | some (y, o, c) => (match putCs m t y (off + 1) r with
      | some (z, o', c') => some (z, o && o', c ++ c')
      | none => none)
    | none => none

def gone (l : List Nat) : List W := l.map fun n => ⟨n, none, false⟩

/-! forms: what is known of a slot, an argument, a result -/
inductive Fm where
  | int (k : IntKind) | bool | str
  | sl (e : TypeId) (t : CT)
  | own (e : TypeId) (t : CT) (deep : Bool)
  | pin (n : Nat) (e : TypeId) (t : CT) (deep : Bool)
  | box (f : Fm) | agg (f : Fm) | tup (f : Fm)
  | nil | cons (a b : Fm)
  | mp | ptr (t : CT) | bx (f : Fm) | clo (f : FuncId) (c : Fm) | ifc (T : TypeId) (f : Fm) | alt (a b : Fm)

@[reducible] def DenF : Fm → Type
  | .int _ => Int
  | .bool => Bool
  | .str => ByteArray
  | .sl _ t => List (Den t)
  | .own _ t _ => List (Den t)
  | .pin _ _ t _ => List (Den t)
  | .box f => DenF f
  | .agg f => DenF f
  | .tup f => DenF f
  | .nil => Unit
  | .cons a b => DenF a × DenF b
  | .mp => List (ByteArray × Int)
  | .ptr t => Den t
  | .bx f => DenF f
  | .clo _ c => DenF c
  | .ifc _ f => DenF f
  | .alt a b => DenF a ⊕ DenF b

/-- what comes back in the arguments that a call may write -/
@[reducible] def DenB : Fm → Type
  | .pin _ _ t _ => List (Den t)
  | .bx f => DenF f
  | .agg f => DenB f
  | .cons a b => DenB a × DenB b
  | _ => Unit
def Fm.hasPin : Fm → Bool
  | .pin _ _ _ _ => true
  | .bx _ => true
  | .agg f => f.hasPin
  | .cons a b => a.hasPin || b.hasPin
  | _ => false
def Fm.hasImm : Fm → Bool
  | .sl _ _ => true
  | .own _ t d => !d && t.hasSl
  | .pin _ _ t d => !d && t.hasSl
  | .box f | .agg f | .tup f | .bx f | .clo _ f | .ifc _ f => f.hasImm
  | .cons a b | .alt a b => a.hasImm || b.hasImm
  | .ptr _ => true
  | _ => false
def Fm.immB : Fm → Bool
  | .pin _ _ t d => !d && t.hasSl
  | .bx f => f.hasImm
  | .agg f => f.immB
  | .cons a b => a.immB || b.immB
  | _ => false

def noPos : Src → Src
  | .imm => .imm
  | .inn n ver _ => .inn n ver none
def liveSrc (m : Mem) : Src → Bool
  | .imm => true
  | .inn n ver _ => match m n with
    | some (.root q) => Nat.beq q.ver ver
    | _ => false

/-- the row that a value is: its contents, its name (if it is owned) -/
structure Row where
  e : TypeId
  t : CT
  xs : List (Den t)
/-- a row inside an element -/
def getRow : (t : CT) → Den t → Nat → Option Row
  | .sl e t, x, off => bif Nat.beq off 0 then some ⟨e, t, x⟩ else none
  | .cons a b, x, off => bif Nat.blt off a.sz then getRow a x.1 off else getRow b x.2 (off - a.sz)
  | _, _, _ => none
def setRow (u : CT) (y : List (Den u)) : (t : CT) → Den t → Nat → Option (Den t)
  | .sl _ t, _, off => if h : u = t then (bif Nat.beq off 0 then some (h ▸ y) else none) else none
  | .cons a b, x, off => bif Nat.blt off a.sz then (match setRow u y a x.1 off with
      | some z => some (z, x.2)
      | none => none) else (match setRow u y b x.2 (off - a.sz) with
      | some z => some (x.1, z)
      | none => none)
  | _, _, _ => none
def rowOf (m : Mem) : AV → Option Row
  | .sl e t xs .imm => some ⟨e, t, xs⟩
  | .sl e t xs (.inn n ver _) => match m n with
    | some (.root q) => bif Nat.beq q.ver ver then some ⟨e, t, xs⟩ else none
    | _ => none
  | .ref n => match m n with
    | some (.root q) => some ⟨q.e, q.t, q.xs⟩
    | _ => none
  | _ => none
def names1 : AV → List Nat
  | .ref n => [n]
  | .sl _ _ _ (.inn n _ _) => [n]
  | .pel n _ _ => [n]
  | .pro _ _ _ (.inn n _ _) => [n]
  | .mref n => [n]
  | _ => []
/-- cells as data that are only read: the data, the names that are lent, the cells left -/
def viewC (m : Mem) : (t : CT) → List AV → Option (Den t × List Nat × List AV)
  | .int k, .int k' n :: r => bif decide (k' = k) then some (n, [], r) else none
  | .bool, .bool b :: r => some (b, [], r)
  | .str, .str b :: r => some (b, [], r)
  | .sl _ _, .nilsl :: r => some ([], [], r)
  | .sl _ t, v :: r => match rowOf m v with
    | some q => if h : q.t = t then some (h ▸ q.xs, names1 v, r) else none
    | none => none
  | .nil, r => some ((), [], r)
  | .cons a b, l => match viewC m a l with
    | some (x, c, r) => match viewC m b r with
      | some (y, c', r') => some ((x, y), c ++ c', r')
      | none => none
    | none => none
  | _, _ => none
/-- what a call is given: the data, the names that are lent, the names that are given up -/
def lendCell (m : Mem) : (f : Fm) → AV → Option (DenF f × List Nat × List Nat)
  | .int k, .int k' n => bif decide (k' = k) then some (n, [], []) else none
  | .bool, .bool b => some (b, [], [])
  | .str, .str b => some (b, [], [])
  | .sl _ t, .sl _ t' xs .imm => if h : t' = t then some (h ▸ xs, [], []) else none
  | .sl _ t, .sl _ t' xs (.inn n ver p) => if h : t' = t then (bif liveSrc m (.inn n ver p) then some (h ▸ xs, [n], []) else none) else none
  | .sl _ _, .nilsl => some ([], [], [])
  | .sl _ t, .ref n => match m n with
    | some (.root q) => if h : q.t = t then some (h ▸ q.xs, [n], []) else none
    | _ => none
  | .own e t d, .ref n => match m n with
    | some (.root q) => if h : q.t = t then (bif (Nat.beq q.e e && !q.pin) && (q.deep == d || !t.hasSl) then some (h ▸ q.xs, [], [n]) else none) else none
    | _ => none
  | .own _ _ _, .nilsl => some ([], [], [])
  | .pin _ e t d, .ref n => match m n with
    | some (.root q) => if h : q.t = t then (bif Nat.beq q.e e && (q.deep == d || !t.hasSl) then some (h ▸ q.xs, [], [n]) else none) else none
    | _ => none
  | .pin _ _ _ _, .nilsl => some ([], [], [])
  | .pin _ e t d, .sl _ _ _ (.inn n ver (some (i, o))) => match m n with
    | some (.root q) => bif Nat.beq q.ver ver && (q.deep && d) then (match getRow q.t (q.xs.getD i.toNat q.t.z) o with
      | some r => if h : r.t = t then (bif Nat.beq r.e e then some (h ▸ r.xs, [], [n]) else none) else none
      | none => none) else none
    | _ => none
  | .ptr t, .pro t' x 0 .imm => if h : t' = t then some (h ▸ x, [], []) else none
  | .ptr t, .pro t' x 0 (.inn n ver p) => if h : t' = t then (bif liveSrc m (.inn n ver p) then some (h ▸ x, [n], []) else none) else none
  | .ptr t, .pbox b 0 => match m b with
    | some (.box cs) => (match viewC m t cs with
      | some (x, l, []) => some (x, b :: l, [])
      | _ => none)
    | _ => none
  | _, _ => none
def lendCells (m : Mem) : (f : Fm) → List AV → Option (DenF f × List Nat × List Nat)
  | .nil, [] => some ((), [], [])
  | .cons a b, v :: r => match lendCell m a v with
    | some (x, l, w) => (match lendCells m b r with
      | some (y, l', w') => some ((x, y), l ++ l', w ++ w')
      | none => none)
    | none => none
  | _, _ => none
def lendV0 (m : Mem) : (f : Fm) → AV → Option (DenF f × List Nat × List Nat)
  | .agg f, .agg cs => lendCells m f cs
  | .bx f, .pbox b 0 => match m b with
    | some (.box cs) => (match lendCells m f cs with
      | some (x, l, w) => some (x, l, w ++ [b])
      | none => none)
    | _ => none
  | f, v => lendCell m f v
def lendVs0 (m : Mem) : (f : Fm) → List AV → Option (DenF f × List Nat × List Nat)
  | .nil, [] => some ((), [], [])
  | .cons a b, v :: r => match lendV0 m a v with
    | some (x, l, w) => (match lendVs0 m b r with
      | some (y, l', w') => some ((x, y), l ++ l', w ++ w')
      | none => none)
    | none => none
  | _, _ => none
def lendV (m : Mem) : (f : Fm) → AV → Option (DenF f × List Nat × List Nat)
  | .clo f c, .clo f' l => bif Nat.beq f' f then lendVs0 m c l else none
  | .clo f c, .fn f' => bif Nat.beq f' f then lendVs0 m c [] else none
  | f, v => lendV0 m f v
def lendVs (m : Mem) : (f : Fm) → List AV → Option (DenF f × List Nat × List Nat)
  | .nil, [] => some ((), [], [])
  | .cons a b, v :: r => match lendV m a v with
    | some (x, l, w) => (match lendVs m b r with
      | some (y, l', w') => some ((x, y), l ++ l', w ++ w')
      | none => none)
    | none => none
  | _, _ => none

/-- a called function: its arguments, its result, what it answers (and what comes back) -/
structure Spec where
  fa : Fm
  fr : Fm
  spec : DenF fa → Option (DenF fr × DenB fa)
/-- what comes back to the names that were lent to be written -/
def backCell (m : Mem) : (f : Fm) → AV → DenB f → Option (List W)
  | .pin _ _ _ _, .nilsl, _ => some []
  | .pin _ e t d, .ref n, x => match m n with
    | some (.root q) => bif Nat.beq q.t.sz t.sz then some [⟨n, some (.root ⟨e, t, x, d, q.pin, q.ver + 1⟩), false⟩] else none
    | _ => none
  | .pin _ _ t _, .sl _ _ _ (.inn n _ (some (i, o))), x => match m n with
    | some (.root q) => (match setRow t x q.t (q.xs.getD i.toNat q.t.z) o with
      | some y => some [⟨n, some (.root ⟨q.e, q.t, q.xs.set i.toNat y, q.deep, q.pin, q.ver + 1⟩), false⟩]
      | none => none)
    | _ => none
  | .pin _ _ _ _, _, _ => none
  | _, _, _ => some []
def backCells (m : Mem) : (f : Fm) → List AV → DenB f → Option (List W)
  | .nil, [], _ => some []
  | .cons a b, v :: r, x => match backCell m a v x.1 with
    | some l => (match backCells m b r x.2 with
      | some k => some (l ++ k)
      | none => none)
    | none => none
  | _, _, _ => none
/-- a box that comes back: its name, what it holds, the names for its rows -/
structure BB where
  b : Nat
  f : Fm
  y : DenF f
  n : Nat
def backV (m : Mem) : (f : Fm) → AV → DenB f → Nat → Option (List W × List BB)
  | .agg f, v, x, _ => bif f.hasPin then (match v with
    | .agg cs => (match backCells m f cs x with
      | some l => some (l, [])
      | none => none)
    | _ => none) else some ([], [])
  | .bx f, .pbox b _, y, n => some ([], [⟨b, f, y, n⟩])
  | .bx _, _, _, _ => none
  | f, v, x, _ => match backCell m f v x with
    | some l => some (l, [])
    | none => none
def backVs (m : Mem) : (f : Fm) → List AV → DenB f → Nat → Option (List W × List BB)
  | .nil, [], _, _ => some ([], [])
  | .cons a b, v :: r, x, n => match backV m a v x.1 n with
    | some l => (match backVs m b r x.2 (n + 16) with
      | some k => some (l.1 ++ k.1, l.2 ++ k.2)
      | none => none)
    | none => none
  | _, _, _, _ => none
def minus : List Nat → List Nat → List Nat
  | [], _ => []
  | x :: r, k => bif elemN x k then minus r k else x :: minus r k
def subN : List Nat → List Nat → Bool
  | [], _ => true
  | x :: r, k => bif elemN x k then subN r k else false
abbrev Orc := List (FuncId × Spec)
/-- a result as the caller gets it: the rows that it owns take the names from n on -/
def outCell : (f : Fm) → DenF f → Nat → AV × List W
  | .int k, n, _ => (.int k n, [])
  | .bool, b, _ => (.bool b, [])
  | .str, b, _ => (.str b, [])
  | .sl e t, xs, _ => (.sl e t xs .imm, [])
  | .own e t d, xs, n => (.ref n, [⟨n, some (.root ⟨e, t, xs, d, false, 0⟩), true⟩])
  | .pin _ e t d, xs, n => (.ref n, [⟨n, some (.root ⟨e, t, xs, d, false, 0⟩), true⟩])
  | .mp, es, n => (.mref n, [⟨n, some (.mp es), true⟩])
  | .ptr t, x, _ => (.pro t x 0 .imm, [])
  | _, _, _ => (.junk, [])
def outCells : (f : Fm) → DenF f → Nat → List AV × List W
  | .cons a b, x, n => let p := outCell a x.1 n; let q := outCells b x.2 (n + 1); (p.1 :: q.1, p.2 ++ q.2)
  | _, _, _ => ([], [])
def outV0 : (f : Fm) → DenF f → Nat → AV × List W
  | .agg f, x, n => let p := outCells f x n; (.agg p.1, p.2)
  | .box f, x, n => let p := outCells f x (n + 1); (.pbox n 0, p.2 ++ [⟨n, some (.box p.1), true⟩])
  | .bx f, x, n => let p := outCells f x (n + 1); (.pbox n 0, p.2 ++ [⟨n, some (.box p.1), true⟩])
  | f, x, n => outCell f x n
def outVs0 : (f : Fm) → DenF f → Nat → List AV × List W
  | .cons a b, x, n => let p := outV0 a x.1 n; let q := outVs0 b x.2 (n + 16); (p.1 :: q.1, p.2 ++ q.2)
  | _, _, _ => ([], [])
def outV : (f : Fm) → DenF f → Nat → AV × List W
  | .clo f c, x, n => let p := outVs0 c x n; (.clo f p.1, p.2)
  | .ifc T f, x, n => let p := outCells f x n; (.ifc T p.1, p.2)
  | .alt a b, x, n => match x with
    | .inl y => outV a y n
    | .inr y => outV b y n
  | f, x, n => outV0 f x n
def outVs : (f : Fm) → DenF f → Nat → List AV × List W
  | .cons a b, x, n => let p := outV a x.1 n; let q := outVs b x.2 (n + 16); (p.1 :: q.1, p.2 ++ q.2)
  | _, _, _ => ([], [])
def outR : (f : Fm) → DenF f → Nat → AV × List W
  | .tup f, x, n => let p := outVs f x n; (.tup p.1, p.2)
  | f, x, n => outV f x n
/-- one of several forms -/
def splitAlt {ρ : Type} : (f : Fm) → DenF f → ((g : Fm) → DenF g → ρ) → ρ
  | .alt a b, x, k => match x with
    | .inl y => splitAlt a y k
    | .inr y => splitAlt b y k
  | f, x, k => k f x
/-- what a box that comes back writes -/
def BB.ws (x : BB) : List W := (outCells x.f x.y x.n).2 ++ [⟨x.b, some (.box (outCells x.f x.y x.n).1), false⟩]

def bin2 (op : BinOp) (k : IntKind) (a b : Int) : AV :=
  match op with
  | .add => .int k (k.wrap (a + b))
  | .sub => .int k (k.wrap (a - b))
  | .mul => .int k (k.wrap (a * b))
  | .eql => .bool (a == b)
  | .neq => .bool (a != b)
  | .lss => .bool (decide (a < b))
  | .leq => .bool (decide (a ≤ b))
  | .gtr => .bool (decide (a > b))
  | .geq => .bool (decide (a ≥ b))
  | .quo => .int k (k.wrap (a.tdiv b))
  | .rem => .int k (a.tmod b)
  | .shl => .int k (k.wrap (a * 2 ^ (min b.toNat k.bits)))
  | .shr => .int k (a.fdiv (2 ^ (min b.toNat k.bits)))
  | .and => .int k (k.wrap (BitVec.ofInt k.bits a &&& BitVec.ofInt k.bits b).toNat)
  | .or => .int k (k.wrap (BitVec.ofInt k.bits a ||| BitVec.ofInt k.bits b).toNat)
  | .xor => .int k (k.wrap (BitVec.ofInt k.bits a ^^^ BitVec.ofInt k.bits b).toNat)
  | .andNot => .int k (k.wrap (BitVec.ofInt k.bits a &&& ~~~(BitVec.ofInt k.bits b)).toNat)
def needs (op : BinOp) (k k' : IntKind) (b : Int) : Bool :=
  match op with
  | .quo | .rem => decide (k = k') && !(decide (b = 0))
  | .shl | .shr => decide (0 ≤ b)
  | _ => decide (k = k')

def strOf (xs : List Int) : ByteArray := strOfNums xs
def bytesOf (s : ByteArray) : List Int := s.data.toList.map fun b => (b.toNat : Int)

def namesB (m : Mem) : AV → List Nat
  | .pbox n _ => n :: (match m n with
    | some (.box cs) => cs.flatMap names1
    | _ => [])
  | v => names1 v
def namesC (m : Mem) : AV → List Nat
  | .agg cs => cs.flatMap (namesB m)
  | v => namesB m v
def namesD (m : Mem) : AV → List Nat
  | .clo _ vs => vs.flatMap (namesC m)
  | .ifc _ cs => cs.flatMap (namesB m)
  | v => namesC m v
def namesV (m : Mem) : AV → List Nat
  | .tup vs => vs.flatMap (namesD m)
  | v => namesD m v

def szOk (T : Tab) (e : TypeId) (t : CT) : Bool := match lookO e T.lay with
  | some (_, u) => Nat.beq u.sz t.sz
  | none => false
def elOk (T : Tab) (S : TypeId) (t : CT) : Bool := match lookO S T.elem with
  | some e => szOk T e t && Nat.blt 0 t.sz
  | none => false

def cutSrc (m : Mem) : AV → Src
  | .sl _ _ _ (.inn n v _) => .inn n v none
  | .ref n => match m n with
    | some (.root q) => .inn n q.ver none
    | _ => .imm
  | _ => .imm
def sliceBounds (lo hi : Option Operand) (r : List AV) (n : Int) : Option (Int × Int) := match lo, hi, r with
  | none, none, [] => some (0, n)
  | some _, none, [.int _ a] => some (a, n)
  | none, some _, [.int _ b] => some (0, b)
  | some _, some _, [.int _ a, .int _ b] => some (a, b)
  | _, _, _ => none

/-- the first slots, if the function gives arguments back, stay as they are -/
def dOk (fx : Nat) : Option Nat → Bool
  | none => true
  | some d => Nat.ble fx d

section
variable {ρ : Type} (T : Tab) (O : Orc)

/-- append: what is appended to -/
def appX (S : TypeId) (m : Mem) : AV → Option (Root × List Nat)
  | .nilsl => match lookO S T.elem with
    | some e => (match lookO e T.lay with
      | some z => some (⟨e, z.2, [], true, false, 0⟩, [])
      | none => none)
    | none => none
  | .ref n => match m n with
    | some (.root q) => bif q.pin then none else some (q, [n])
    | _ => none
  | _ => none
/-- what is appended: the rows, are they wholly owned, the names given up -/
def appY (m : Mem) (t : CT) (g : List Nat) : AV → Option (List (Den t) × Bool × List Nat)
  | .nilsl => some ([], true, [])
  | .ref n => match m n with
    | some (.root q) => if h : q.t = t then (bif elemN n g then none else (bif t.hasSl then (bif q.pin then none else some (h ▸ q.xs, q.deep, [n])) else some (h ▸ q.xs, true, []))) else none
    | _ => none
  | .sl _ t' xs .imm => if h : t' = t then some (h ▸ xs, !t.hasSl, []) else none
  | .sl _ t' xs (.inn n ver p) => if h : t' = t then (bif liveSrc m (.inn n ver p) && !t.hasSl then some (h ▸ xs, true, []) else none) else none
  | _ => none
def evAppend (dn : Nat) (x y : AV) (m : Mem) (S : TypeId) (K : AV → List W → Option ρ) : Option ρ :=
  match appX T S m x with
  | none => none
  | some (q, g) => match appY m q.t g y with
    | none => none
    | some (ys, own, g2) => match lookO S T.elem, lookO q.e T.byt with
      | some e, some by_ => bif (Nat.beq e q.e && (Nat.blt 0 by_ && (Nat.blt 0 q.t.sz && szOk T q.e q.t))) && Nat.ble ((q.xs.length + ys.length) * by_) 140737488355328 then
            K (.ref dn) (gone g ++ (gone g2 ++ [⟨dn, some (.root ⟨q.e, q.t, q.xs ++ ys, q.deep && own, false, 0⟩), true⟩]))
          else none
      | _, _ => none

/-- struct literals -/
def fillC (fs : List (Nat × Nat × Bool)) : List AV → List (Nat × AV) → Option (List AV)
  | cs, [] => some cs
  | cs, (i, v) :: r => match (fs[i]? : Option (Nat × Nat × Bool)), flat v with
    | some (off, n, _), some l => bif Nat.beq l.length n && Nat.ble (off + n) cs.length then fillC fs (splice cs off l) r else none
    | _, _ => none

def rows (m : Mem) (t : CT) : List AV → Option (List (Den t) × Bool × List Nat)
  | [] => some ([], true, [])
  | v :: r => match flat v with
    | none => none
    | some l => match toDen m t l with
      | some (x, o, c, []) => (match rows m t r with
        | some (xs, o', c') => some (x :: xs, o && o', c ++ c')
        | none => none)
      | _ => none

def inRange (ps : List Nat) : Nat → Bool
  | n => match ps with
    | [] => true
    | p :: r => Nat.beq p n && inRange r (n + 1)

def lookS (n : String) : List (String × FuncId) → Option FuncId
  | [] => none
  | x :: r => bif x.1 == n then some x.2 else lookS n r
def evCall (dn : Nat) (g : FuncId) (args : List AV) (m : Mem) (K : AV → List W → Option ρ) : Option ρ :=
  match lookO g O with
  | some o => (match lendVs m o.fa args with
    | some (x, l, wr) => bif ((o.fr.hasImm || o.fa.immB) && !l.isEmpty) || (!nodupN wr || anyN l wr) then none else (match o.spec x with
      | some r => (match backVs m o.fa args r.2 (dn + 40) with
        | some ws => bif nodupN (ws.1.map (·.n) ++ ws.2.map (·.b)) && subN (ws.1.map (·.n) ++ ws.2.map (·.b)) wr then
            splitAlt o.fr r.1 fun h y => K (outR h y dn).1 (gone (minus wr (ws.1.map (·.n))) ++ (ws.1 ++ (ws.2.flatMap BB.ws ++ (outR h y dn).2))) else none
        | none => none)
      | none => none)
    | none => none)
  | none => none

def core (dn : Nat) (op : Op) (vs : List AV) (m : Mem) (K : AV → List W → Option ρ) : Option ρ :=
  match op, vs with
  | .move _, [x] => K x []
  | .assign _, [x] => K x []
  | .pick _ _ _, [.bool t, x, y] => (match x, y with
    | .bool x, .bool y => K (.bool (bif t then x else y)) []
    | x, y => bif t then K x [] else K y [])
  | .binOp op tx _ _ _, [x, y] => (match x, y with
    | .int k a, .int k' b => bif needs op k k' b then K (bin2 op k a b) [] else none
    | .bool a, .bool b => (match op, lookO tx T.lay with
      | .eql, some (false, .bool) => K (.bool (a == b)) []
      | .neq, some (false, .bool) => K (.bool (!(a == b))) []
      | _, _ => none)
    | .str a, .str b => (match op with
      | .eql => K (.bool (a.toList == b.toList)) []
      | .neq => K (.bool (!(a.toList == b.toList))) []
      | _ => none)
    | _, _ => none)
  | .unOp op _ _, [x] => (match op, x with
    | .not, .bool b => K (.bool (!b)) []
    | .neg, .int k n => K (.int k (k.wrap (0 - n))) []
    | _, _ => none)
  | .convert src dst _, [x] => (match lookO src T.lay, lookO dst T.lay, x with
    | some _, some (false, .int k), .int _ n => K (.int k (k.wrap n)) []
    | some (false, .sl e (.int .u8)), some (false, .str), x => (match lookO e T.lay, x with
      | some (false, .int .u8), .nilsl => K (.str ByteArray.empty) []
      | some (false, .int .u8), x => (match rowOf m x with
        | some ⟨_, .int .u8, xs⟩ => K (.str (strOf xs)) []
        | _ => none)
      | _, _ => none)
    | _, _, _ => none)
  | .alloc e, [] => (match lookO e T.lay with
    | some (_, t) => K (.pbox dn 0) [⟨dn, some (.box (zcells t)), true⟩]
    | none => none)
  | .box e _, [x] => (match flat x with
    | some [] => K (.pbox dn 0) [⟨dn, some (.zb e), true⟩]
    | some l => K (.pbox dn 0) [⟨dn, some (.box l), true⟩]
    | none => none)
  | .build S ps, vs => (match lookO S T.lay, lookO S T.fld with
    | some (true, t), some fs => (match fillC fs (zcells t) ((ps.toList.map (·.1)).zip vs) with
      | some cs => K (.agg cs) []
      | none => none)
    | _, _ => none)
  | .buildSlice S n ps, vs => (match lookO S T.elem with
    | some e => (match lookO e T.lay with
      | some (_, t) => bif ((Nat.beq n ps.size && inRange (ps.toList.map (·.1)) 0) && Nat.ble (n * t.sz) 16777216) && Nat.blt 0 t.sz then (match rows m t vs with
        | some (xs, o, c) => bif nodupN c then K (.ref dn) (gone c ++ [⟨dn, some (.root ⟨e, t, xs, o, false, 0⟩), true⟩]) else none
        | none => none) else none
      | none => none)
    | none => none)
  | .fieldAddr S _ j, [x] => (match ((lookO S T.fld).bind fun l => l[j]? : Option (Nat × Nat × Bool)) with
    | some (off, n, _) => (bif Nat.beq n 0 then (match x with
      | .pbox b 0 => (match m b, lookO S T.zf with
        | some (.zb e), some i => bif Nat.beq i j then (match lookO e T.lay with
          | some (_, t) => bif Nat.beq t.sz 0 then K (.pbox b 0) [] else none
          | none => none) else none
        | _, _ => none)
      | _ => none) else match x with
      | .pbox b q => K (.pbox b (q + off)) []
      | .pel r i q => K (.pel r i (q + off)) []
      | .pro t v q s => K (.pro t v (q + off) s) []
      | _ => none)
    | none => none)
  | .nilCheck _, [x] => (match x with
    | .pbox _ _ => K x []
    | .pel _ _ _ => K x []
    | .pro _ _ _ _ => K x []
    | _ => none)
  | .load L _, [x] => (match lookO L T.lay with
    | none => none
    | some (isAgg, t) => (match x with
      | .pbox b q => (match m b with
        | some (.box cs) => bif Nat.ble (q + t.sz) cs.length && (isAgg || Nat.beq t.sz 1) then K (unflat isAgg ((cs.drop q).take t.sz)) [] else none
        | some (.zb _) => bif Nat.beq t.sz 0 && isAgg then K (.agg []) [] else none
        | _ => none)
      | .pro u v q s => bif liveSrc m s && (Nat.ble (q + t.sz) u.sz && (isAgg || Nat.beq t.sz 1)) then K (unflat isAgg (((cells u v (fun _ => noPos s) 0).drop q).take t.sz)) [] else none
      | .pel n i q => (match m n with
        | some (.root r) => bif Nat.ble (q + t.sz) r.t.sz && (isAgg || Nat.beq t.sz 1) then K (unflat isAgg (((cells r.t (r.xs.getD i.toNat r.t.z) (fun o => .inn n r.ver (some (i, o))) 0).drop q).take t.sz)) [] else none
        | _ => none)
      | _ => none))
  | .store L _ _, [x, y] => (match lookO L T.lay, flat y with
    | some (_, t), some l => (match x with
      | .pbox b q => (match m b with
        | some (.box cs) => bif okCells l && (Nat.beq l.length t.sz && Nat.ble (q + l.length) cs.length) then K .junk [⟨b, some (.box (splice cs q l)), false⟩] else none
        | _ => none)
      | .pel n i q => (match m n with
        | some (.root r) => bif okCells l && (Nat.beq l.length t.sz && Nat.ble (q + l.length) r.t.sz) then (match putCs m r.t (r.xs.getD i.toNat r.t.z) q l with
          | some (v, own, used) => bif nodupN (n :: used) then K .junk (gone used ++ [⟨n, some (.root { r with xs := r.xs.set i.toNat v, deep := r.deep && own, ver := r.ver + 1 }), false⟩]) else none
          | none => none) else none
        | _ => none)
      | _ => none)
    | _, _ => none)
  | .field S _ j, [x] => (match ((lookO S T.fld).bind fun l => l[j]? : Option (Nat × Nat × Bool)), x with
    | some (off, n, a), .agg l => bif Nat.ble (off + n) l.length && (a || Nat.beq n 1) then K (unflat a ((l.drop off).take n)) [] else none
    | _, _ => none)
  | .indexAddr S _ _, [x, .int _ i] => (match x with
    | .sl _ t xs s => bif (liveSrc m s && elOk T S t) && (decide (0 ≤ i) && decide (i < (xs.length : Int))) then K (.pro t (xs.getD i.toNat t.z) 0 s) [] else none
    | .ref n => (match m n with
      | some (.root r) => bif elOk T S r.t && (decide (0 ≤ i) && decide (i < (r.xs.length : Int))) then K (.pel n i 0) [] else none
      | _ => none)
    | _ => none)
  | .slice S _ lo hi none, x :: r => (match rowOf m x with
    | some q => (match sliceBounds lo hi r (q.xs.length : Int) with
      | some (a, b) => bif elOk T S q.t && (decide (0 ≤ a) && (decide (a ≤ b) && decide (b ≤ (q.xs.length : Int)))) then K (.sl q.e q.t ((q.xs.take b.toNat).drop a.toNat) (cutSrc m x)) [] else none
      | none => none)
    | none => none)
  | .makeSlice S _ _, [.int .i64 a, .int .i64 b] => (match lookO S T.elem with
    | some e => (match lookO e T.lay, lookO e T.byt with
      | some (_, t), some by_ => bif (decide (0 ≤ a) && (decide (a ≤ b) && decide (b * (by_ : Int) ≤ 281474976710656))) && (Nat.blt 0 by_ && Nat.blt 0 t.sz) then K (.ref dn) [⟨dn, some (.root ⟨e, t, List.replicate a.toNat t.z, true, false, 0⟩), true⟩] else none
      | _, _ => none)
    | none => none)
  | .extract _ i, [.tup vs] => (match vs[i]? with
    | some v => K v []
    | none => none)
  | .makeFunc (.func f) first _, vs => bif Nat.beq first.size 0 && okV0s vs then K (.clo f vs) [] else none
  | .makeInterface X _, [x] => (match lookO X T.lay, x with
    | some (true, _), .agg cs => K (.ifc X cs) []
    | _, _ => none)
  | .makeMap _ none, [] => K (.mref dn) [⟨dn, some (.mp []), true⟩]
  | .lookup S _ _ ok, [.mref n, .str k] => (match lookO S T.maps, m n with
    | some _, some (.mp es) => K (bif ok then .tup [.int .i64 (mget k es), .bool (mhas k es)] else .int .i64 (mget k es)) []
    | _, _ => none)
  | .mapUpdate S _ _ _, [.mref n, .str k, .int .i64 v] => (match lookO S T.maps, m n with
    | some _, some (.mp es) => K .junk [⟨n, some (.mp (mput k v es)), false⟩]
    | _, _ => none)
  | .mapEntry S _ _, [.mref n, .str k] => (match lookO S T.maps, m n with
    | some _, some (.mp es) => K (.tup [.int .i64 (mget k es), .int .i64 (midx k es : Int)]) [⟨n, some (.mp (mput k (mget k es) es)), false⟩]
    | _, _ => none)
  | .entryStore _ _ _ _, [.mref n, .int .i64 i, .int .i64 v] => (match m n with
    | some (.mp es) => bif decide (0 ≤ i) && decide (i < (es.length : Int)) then K .junk [⟨n, some (.mp (es.modify i.toNat fun e => (e.1, v))), false⟩] else none
    | _ => none)
  | .call c, vs => (match c.callee, vs with
    | .builtin .len, [x] => (match c.argTypes[0]? with
      | none => none
      | some S => (match x with
        | .nilsl => (match lookO S T.elem with
          | some _ => K (.int .i64 0) []
          | none => none)
        | .mref n => (match lookO S T.maps, m n with
          | some _, some (.mp es) => K (.int .i64 (es.length : Int)) []
          | _, _ => none)
        | .str b => (match lookO S T.lay with
          | some (false, .str) => K (.int .i64 (b.size : Int)) []
          | _ => none)
        | x => (match lookO S T.elem, rowOf m x with
          | some _, some r => K (.int .i64 (r.xs.length : Int)) []
          | _, _ => none)))
    | .builtin .min, [.int k x, .int _ y] => K (.int k (bif decide (y < x) then y else x)) []
    | .builtin .append, [x, y] => (match c.argTypes.toList with
      | [S, S'] => bif Nat.beq S S' then evAppend T dn x y m S K else none
      | _ => none)
    | .value _, f :: args =>
      let ga : Option (FuncId × List AV) := match f with
        | .fn g => some (g, args)
        | .clo g caps => some (g, args ++ caps)
        | _ => none
      (match ga with
      | some (g, args) => evCall O dn g args m K
      | none => none)
    | .invoke _ nm, .ifc X cs :: args => (match lookO X T.meth with
      | some ms => (match lookS nm ms with
        | some g => evCall O dn g (.agg cs :: args) m K
        | none => none)
      | none => none)
    | _, _ => none)
  | _, _ => none

def evalOp (fx : Nat) (o : Oper) (s : St) (m : Mem) (K : St → Option ρ) : Option ρ :=
  core T O ((o.dst.getD 0) * 64) o.op (o.op.operands.toList.map s.op) m fun v w => bif freshOk s.us w && dOk fx o.dst then K ((s.write w).put o.dst v) else none

def evalOps (fx : Nat) (ops : List Oper) : List Oper → St → (St → Option ρ) → Option ρ
  | [], s, K => K s
  | o :: r, s, K => match o.guard with
    | none => evalOp T O fx o s s.st fun s => evalOps fx ops r s K
    | some (j, want) => match ((ops[j]?).bind (·.dst)) with
      | some d => match s.tm d with
        | .bool b => bif b == want then evalOp T O fx o (s.put (some d) (.bool want)) s.st fun s => evalOps fx ops r s K
            else (bif dOk fx o.dst then evalOps fx ops r ((s.put (some d) (.bool (!want))).put o.dst (.tup [])) K else none)
        | .tup [] => bif dOk fx o.dst then evalOps fx ops r (s.put o.dst (.tup [])) K else none
        | _ => none
      | none => none
end
end Go.Ev
