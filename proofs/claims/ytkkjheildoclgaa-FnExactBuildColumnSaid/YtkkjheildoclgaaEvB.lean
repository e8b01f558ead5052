/- A text of the claim: an evaluator of Go functions, and why it answers as they do. -/
import Derived.Test.YtkkjheildoclgaaEvA
set_option linter.all false
set_option linter.unusedVariables false
set_option linter.unusedSimpArgs false
set_option autoImplicit false
namespace Go.Ev

/-! ### regions whose order is open: the text's order, with a record of what each operation reads and writes -/
structure Rec where
  d : Option Nat
  rd : List Nat
  ns : List Nat
  wk : List Nat

def meets (a b : List Nat) : Bool := match a with
  | [] => false
  | x :: r => bif elemN x b then true else meets r b
def dIn (d : Option Nat) (l : List Nat) : Bool := match d with
  | some d => elemN d l
  | none => false
def sameD (d e : Option Nat) : Bool := match d, e with
  | some d, some e => Nat.beq d e
  | _, _ => false
def conflict (a b : Rec) : Bool :=
  dIn a.d b.rd || (dIn b.d a.rd || (sameD a.d b.d || (meets a.wk b.ns || (meets a.wk b.wk || meets b.wk a.ns))))
/-- record j, the j-th, against those before it -/
def indepOne (mask : Nat) (r : Rec) : Nat → List Rec → Bool
  | _, [] => true
  | i, q :: l => bif mask.testBit i || !conflict q r then indepOne mask r (i + 1) l else false
def indepAll (bef : List Nat) : List Rec → Nat → List Rec → Bool
  | _, _, [] => true
  | seen, j, r :: l => bif indepOne (bef.getD j 0) r 0 seen then indepAll bef (seen ++ [r]) (j + 1) l else false

/-- what each operation waits for, as bits; and: only for what stands before it -/
def force {α : Type} (n : Nat) (k : Nat → α) : α := match n with | 0 => k 0 | m + 1 => k (m + 1)
def msk1 (acc : List Nat) : List Edge → Nat
  | [] => 0
  | e :: r => bif Region.binds .any e then (2 ^ e.on ||| acc.getD e.on 0) ||| msk1 acc r else msk1 acc r
def befs : List Oper → List Nat → List Nat
  | [], acc => acc
  | o :: r, acc => force (msk1 acc o.after.toList) fun v => befs r (acc ++ [v])
def edgesOk (i : Nat) : List Edge → Bool
  | [] => true
  | e :: r => bif Region.binds .any e then (bif Nat.blt e.on i then edgesOk i r else false) else edgesOk i r
def ordOk : Nat → List Oper → Bool
  | _, [] => true
  | i, o :: r => bif edgesOk i o.after.toList then ordOk (i + 1) r else false
def tmpsOf (o : Oper) : List Nat := o.op.operands.toList.filterMap fun | .tmp t => some t | _ => none
def rm (ns : List Nat) (m : Mem) : Mem := fun n => bif elemN n ns then m n else none

section
variable {ρ : Type} (T : Tab) (O : Orc)
def evalOpR (fx : Nat) (o : Oper) (g : List Nat) (s : St) (K : St → Rec → Option ρ) : Option ρ :=
  let vs := o.op.operands.toList.map s.op
  let ns := vs.flatMap (namesV s.st)
  core T O ((o.dst.getD 0) * 64) o.op vs (rm ns s.st) fun v w => bif freshOk s.us w && dOk fx o.dst then K ((s.write w).put o.dst v) ⟨o.dst, g ++ tmpsOf o, ns, w.map (·.n)⟩ else none
def evalOpsR (fx : Nat) (ops : List Oper) : List Oper → St → List Rec → (St → List Rec → Option ρ) → Option ρ
  | [], s, rs, K => K s rs
  | o :: r, s, rs, K => match o.guard with
    | none => evalOpR T O fx o [] s fun s q => evalOpsR fx ops r s (rs ++ [q]) K
    | some (j, want) => match ((ops[j]?).bind (·.dst)) with
      | some d => match s.tm d with
        | .bool b => bif b == want then evalOpR T O fx o [d] (s.put (some d) (.bool want)) fun s q => evalOpsR fx ops r s (rs ++ [q]) K
            else (bif dOk fx o.dst then evalOpsR fx ops r ((s.put (some d) (.bool (!want))).put o.dst (.tup [])) (rs ++ [⟨o.dst, [d], [], []⟩]) K else none)
        | .tup [] => bif dOk fx o.dst then evalOpsR fx ops r (s.put o.dst (.tup [])) (rs ++ [⟨o.dst, [d], [], []⟩]) K else none
        | _ => none
      | none => none
end

/-! ### what stays live at a loop's head, and behind it -/
def exCell (m : Mem) : (f : Fm) → AV → Option (DenF f × List Nat)
  | .int k, .int k' n => bif decide (k' = k) then some (n, []) else none
  | .bool, .bool b => some (b, [])
  | .str, .str b => some (b, [])
  | .sl _ t, .sl _ t' xs .imm => if h : t' = t then some (h ▸ xs, []) else none
  | .sl _ t, .sl _ t' xs (.inn n ver p) => if h : t' = t then (bif liveSrc m (.inn n ver p) then some (h ▸ xs, [n]) else none) else none
  | .sl _ t, .ref n => match m n with
    | some (.root q) => if h : q.t = t then some (h ▸ q.xs, [n]) else none
    | _ => none
  | .sl _ _, .nilsl => some ([], [])
  | .own e t d, .ref n => match m n with
    | some (.root q) => if h : q.t = t then (bif Nat.beq q.e e && ((q.deep || !d) && !q.pin) then some (h ▸ q.xs, [n]) else none) else none
    | _ => none
  | .own _ _ _, .nilsl => some ([], [])
  | .mp, .mref n => match m n with
    | some (.mp es) => some (es, [n])
    | _ => none
  | .ptr t, .pro t' x 0 .imm => if h : t' = t then some (h ▸ x, []) else none
  | _, _ => none
def exCells (m : Mem) : (f : Fm) → List AV → Option (DenF f × List Nat)
  | .nil, [] => some ((), [])
  | .cons a b, v :: r => match exCell m a v with
    | some (x, l) => (match exCells m b r with
      | some (y, l') => some ((x, y), l ++ l')
      | none => none)
    | none => none
  | _, _ => none
def exV0 (m : Mem) : (f : Fm) → AV → Option (DenF f × List Nat)
  | .agg f, .agg cs => exCells m f cs
  | .box f, .pbox b 0 => match m b with
    | some (.box cs) => (match exCells m f cs with
      | some (x, l) => some (x, l ++ [b])
      | none => none)
    | _ => none
  | f, v => exCell m f v
def exVs0 (m : Mem) : (f : Fm) → List AV → Option (DenF f × List Nat)
  | .nil, [] => some ((), [])
  | .cons a b, v :: r => match exV0 m a v with
    | some (x, l) => (match exVs0 m b r with
      | some (y, l') => some ((x, y), l ++ l')
      | none => none)
    | none => none
  | _, _ => none
def exV (m : Mem) : (f : Fm) → AV → Option (DenF f × List Nat)
  | .clo f c, .clo f' l => bif Nat.beq f' f then exVs0 m c l else none
  | .ifc T f, .ifc T' cs => bif Nat.beq T' T then exCells m f cs else none
  | .alt a b, v => match exV m a v with
    | some (x, l) => some (.inl x, l)
    | none => match exV m b v with
      | some (x, l) => some (.inr x, l)
      | none => none
  | f, v => exV0 m f v
def exVs (m : Mem) : (f : Fm) → List AV → Option (DenF f × List Nat)
  | .nil, [] => some ((), [])
  | .cons a b, v :: r => match exV m a v with
    | some (x, l) => (match exVs m b r with
      | some (y, l') => some ((x, y), l ++ l')
      | none => none)
    | none => none
  | _, _ => none
def ex (sl : List Nat) (f : Fm) (s : St) : Option (DenF f) := match exVs s.st f (sl.map s.tm) with
  | some (x, l) => bif nodupN l then some x else none
  | none => none
def exR (m : Mem) : (f : Fm) → List AV → Option (DenF f × List Nat)
  | .tup f, vs => bif Nat.beq vs.length 1 then none else exVs m f vs
  | f, [v] => exV m f v
  | _, _ => none

/-- what the arguments that come back hold at the end -/
def unitB : (f : Fm) → Option (DenB f)
  | .pin _ _ _ _ => none
  | .agg f => unitB f
  | .cons a b => match unitB a with
    | some x => (match unitB b with
      | some y => some (x, y)
      | none => none)
    | none => none
  | .bx _ => none
  | .int _ | .bool | .str | .sl _ _ | .own _ _ _ | .box _ | .tup _ | .nil | .mp | .ptr _ | .clo _ _ | .ifc _ _ | .alt _ _ => some ()
def exBC (m : Mem) : (f : Fm) → AV → Option (DenB f × List Nat)
  | .pin _ e t d, v => exCell m (.own e t d) v
  | f, _ => match unitB f with
    | some u => some (u, [])
    | none => none
def exBCs (m : Mem) : (f : Fm) → List AV → Option (DenB f × List Nat)
  | .nil, [] => some ((), [])
  | .cons a b, v :: r => match exBC m a v with
    | some (x, l) => (match exBCs m b r with
      | some (y, l') => some ((x, y), l ++ l')
      | none => none)
    | none => none
  | _, _ => none
def exBV (m : Mem) : (f : Fm) → AV → Option (DenB f × List Nat)
  | .agg f, v => bif f.hasPin then (match v with
    | .agg cs => exBCs m f cs
    | _ => none) else (match unitB f with
    | some u => some (u, [])
    | none => none)
  | .bx f, v => exV0 m (.box f) v
  | f, v => exBC m f v
def exBVs (m : Mem) : (f : Fm) → List AV → Option (DenB f × List Nat)
  | .nil, [] => some ((), [])
  | .cons a b, v :: r => match exBV m a v with
    | some (x, l) => (match exBVs m b r with
      | some (y, l') => some ((x, y), l ++ l')
      | none => none)
    | none => none
  | _, _ => none
def fxOf : Fm → Nat → Nat
  | .cons a b, i => bif b.hasPin then fxOf b (i + 1) else (bif a.hasPin then i + 1 else 0)
  | _, _ => 0

def st0 (nt : Nat) : St := ⟨fun _ => .junk, fun _ => none, fun _ => false, nt⟩
def inVs : St → List Nat → (f : Fm) → DenF f → Option St
  | s, [], .nil, _ => some s
  | s, n :: r, .cons a b, x => bif freshOk s.us (outV a x.1 (n * 64)).2 then inVs ((s.write (outV a x.1 (n * 64)).2).put (some n) (outV a x.1 (n * 64)).1) r b x.2 else none
  | _, _, _, _ => none
def inj (nt : Nat) (sl : List Nat) (f : Fm) (x : DenF f) : Option St := inVs (st0 nt) sl f x

structure LoopO (ρ : Type) where
  hs : List Nat
  head : Fm
  xs : List Nat
  exit : Fm
  run : DenF head → (Nat → DenF exit → Option ρ) → Option ρ

def firstRegion : Code → Nat
  | .region id _ _ => id
  | .seq a _ => firstRegion a
  | .cond _ a _ => firstRegion a
  | .block _ b => firstRegion b
  | .loop b => firstRegion b
  | .scope b => firstRegion b
  | _ => 0

def evalCode {ρ : Type} (fx : Nat) (T : Tab) (O : Orc) (L : List (Nat × LoopO ρ)) (R : St → Option ρ) : Code → St → (St → Option ρ) → (Nat → St → Option ρ) → Option ρ
  | .skip, s, K, _ => K s
  | .region _ ops draw, s, K, _ => bif draw then evalOpsR T O fx ops.toList ops.toList s [] (fun s rs => bif ordOk 0 ops.toList && indepAll (befs ops.toList []) [] 0 rs then K s else none) else evalOps T O fx ops.toList ops.toList s K
  | .seq a b, s, K, X => evalCode fx T O L R a s (fun s => evalCode fx T O L R b s K X) X
  | .cond c a b, s, K, X => match s.op c with
    | .bool t => bif t then evalCode fx T O L R a s K X else evalCode fx T O L R b s K X
    | _ => none
  | .block id b, s, K, X => evalCode fx T O L R b s K (fun i s => bif Nat.beq i id then K s else X i s)
  | .loop b, s, _, X => match lookO (firstRegion b) L with
    | some l => (match ex l.hs l.head s with
      | some x => l.run x fun i y => (match inj s.nt l.xs l.exit y with
        | some s' => X i s'
        | none => none)
      | none => none)
    | none => none
  | .exit id, s, _, X => X id s
  | .ret, s, _, _ => R s
  | _, _, _, _ => none

def resV (T : Tab) (s : St) : ResultVar → Option AV
  | .tmp t => some (s.tm t)
  | .cell p L => match lookO L T.lay, s.tm p with
    | some (isAgg, t), .pbox b 0 => (match s.st b with
      | some (.box cs) => bif Nat.beq t.sz cs.length && (isAgg || Nat.beq t.sz 1) then some (unflat isAgg cs) else none
      | _ => none)
    | _, _ => none
def resVs (T : Tab) (s : St) : List ResultVar → Option (List AV)
  | [] => some []
  | x :: r => match resV T s x with
    | some v => (match resVs T s r with
      | some l => some (v :: l)
      | none => none)
    | none => none
def fin (T : Tab) (f : Func) (fa rf : Fm) (np : Nat) (s : St) : Option (DenF rf × DenB fa) := match resVs T s f.results.toList with
  | some vs => (match exR s.st rf vs with
    | some (x, l) => (match exBVs s.st fa ((List.range np).map s.tm) with
      | some (y, k) => bif nodupN (l ++ k) then some (x, y) else none
      | none => none)
    | none => none)
  | none => none

def bodyOf (f : Func) : Code := f.body.getD .skip
/-- the loop whose first region is n -/
def loopAt (n : Nat) : Code → Option Code
  | .seq a b => match loopAt n a with | some c => some c | none => loopAt n b
  | .cond _ a b => match loopAt n a with | some c => some c | none => loopAt n b
  | .block _ b => loopAt n b
  | .loop b => bif Nat.beq (firstRegion b) n then some b else loopAt n b
  | _ => none
def loopBody (n : Nat) (f : Func) : Code := (loopAt n (bodyOf f)).getD .skip

def evalF (T : Tab) (f : Func) (fa fr : Fm) (np : Nat) (O : Orc) (L : List (Nat × LoopO (DenF fr × DenB fa))) (x : DenF fa) : Option (DenF fr × DenB fa) :=
  match inj (max np f.ntmps) (List.range np) fa x with
  | some s => evalCode (fxOf fa 0) T O L (fin T f fa fr np) (bodyOf f) s (fun _ => none) (fun _ _ => none)
  | none => none
def evalL (T : Tab) (f : Func) (fa fr : Fm) (np : Nat) (n : Nat) (O : Orc) (L : List (Nat × LoopO (DenF fr × DenB fa))) (hs : List Nat) (head : Fm) (xs : List Nat) (exit : Fm)
    (Rc : DenF head → Option (DenF fr × DenB fa)) (X : Nat → DenF exit → Option (DenF fr × DenB fa)) (x : DenF head) : Option (DenF fr × DenB fa) :=
  match inj (max np f.ntmps) hs head x with
  | some s => evalCode (fxOf fa 0) T O L (fin T f fa fr np) (loopBody n f) s (fun s => match ex hs head s with
    | some x => Rc x
    | none => none) (fun i s => match ex xs exit s with
    | some y => X i y
    | none => none)
  | none => none
end Go.Ev
