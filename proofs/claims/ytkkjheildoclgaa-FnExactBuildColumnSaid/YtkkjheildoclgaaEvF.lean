/- A text of the claim: an evaluator of Go functions, and why it answers as they do. -/
import Derived.Test.YtkkjheildoclgaaEvE
import Derived.WalkKit
import Derived.Laws.BytesArg
import Derived.Laws.MakeOwn
import Derived.Laws.IdiomStrings
set_option linter.all false
set_option linter.unusedVariables false
set_option linter.unusedSimpArgs false
set_option autoImplicit false
namespace Go.Ev

/-! ### the tables, held against the program -/
def zv : CT → List Value
  | .int k => [.int k 0]
  | .bool => [.bool false]
  | .str => [.string ⟨#[]⟩]
  | .sl _ _ => [.slice none 0 0]
  | .nil => []
  | .cons a b => zv a ++ zv b
inductive Sh where
  | agg | int (k : IntKind) | bool | str | sl (e : TypeId) | other
def shOf : TypeDesc → Sh
  | .struct _ => .agg
  | .array _ _ => .agg
  | .int k => .int k
  | .bool => .bool
  | .string => .str
  | .slice e => .sl e
  | _ => .other
def shWant : Bool × CT → Sh
  | (true, _) => .agg
  | (false, .int k) => .int k
  | (false, .bool) => .bool
  | (false, .str) => .str
  | (false, .sl e _) => .sl e
  | (false, _) => .other
def isAggD : TypeDesc → Bool
  | .struct _ => true
  | .array _ _ => true
  | _ => false
/-- a map from texts to whole numbers -/
def isMapSI (P : Program) (S : TypeId) : Bool := match P.underlying S with
  | some (.map k e) => (match P.underlying k, P.info? e with
    | some .string, some i => (match i.zero with
      | some (.int .i64 n) => n == 0
      | _ => false)
    | _, _ => false)
  | _ => false
/-- a method of the type itself, with a value receiver -/
def methOf (P : Program) (X : TypeId) (nm : String) : Option FuncId := match P.info? X, P.underlying X with
  | some i, some (.struct _) => (match i.methods.find? (·.name == nm) with
    | some m => if m.path.isEmpty then (match m.func with
      | some (f, false) => some f
      | _ => none) else none
    | none => none)
  | _, _ => none
/-- a field without cells at its struct's begin -/
def zfOk (P : Program) (S : TypeId) (j : Nat) : Bool := match P.underlying S with
  | some (.struct fs) => (match fs[j]? with
    | some f => (match P.info? f.type with
      | some i => i.size == 0 && (f.offset == 0 && f.byteOffset == 0)
      | none => false)
    | none => false)
  | _ => false
structure TabOK (P : Program) (T : Tab) : Prop where
  layA : (T.lay.map fun x => (P.info? x.1).map fun i => (i.size, i.zero.map fun z => z.cells.toList)) = T.lay.map fun x => some (x.2.2.sz, some (zv x.2.2))
  layB : (T.lay.map fun x => (P.underlying x.1).map shOf) = T.lay.map fun x => some (shWant x.2)
  fld : (T.fld.map fun x => (P.underlying x.1).bind fun d => match d with
    | .struct fs => some (fs.toList.map fun f => (f.offset, (P.info? f.type).map (·.size), (P.underlying f.type).map isAggD))
    | _ => none) = T.fld.map fun x => some (x.2.map fun y => (y.1, some y.2.1, some y.2.2))
  elem : (T.elem.map fun x => P.underlying x.1) = T.elem.map fun x => some (.slice x.2)
  byt : (T.byt.map fun x => (P.info? x.1).map (·.bytes)) = T.byt.map fun x => some x.2
  maps : (T.maps.map fun x => isMapSI P x.1) = T.maps.map fun _ => true
  zf : (T.zf.map fun x => zfOk P x.1 x.2) = T.zf.map fun _ => true
  meth : (T.meth.map fun x => x.2.map fun y => methOf P x.1 y.1) = T.meth.map fun x => x.2.map fun y => some y.2

theorem lookO_map {α β : Type} (f g : Nat × α → β) (n : Nat) (v : α) : ∀ (l : List (Nat × α)), l.map f = l.map g → lookO n l = some v → f (n, v) = g (n, v)
  | [], _, h => by simp [lookO] at h
  | x :: r, e, h => by
    simp only [List.map_cons, List.cons.injEq] at e
    unfold lookO at h
    by_cases hx : x.1 = n
    · subst hx
      simp at h
      subst h
      exact e.1
    · rw [beq_ne hx] at h
      exact lookO_map f g n v r e.2 h

variable {P : Program} {T : Tab}
theorem TabOK.lay' (h : TabOK P T) {e : Nat} {x : Bool × CT} (he : lookO e T.lay = some x) :
    (∃ i z, P.info? e = some i ∧ i.size = x.2.sz ∧ i.zero = some z ∧ z.cells.toList = zv x.2) ∧ ∃ d, P.underlying e = some d ∧ shOf d = shWant x := by
  have h1 := lookO_map _ _ e x T.lay h.layA he
  have h2 := lookO_map _ _ e x T.lay h.layB he
  simp only at h1 h2
  constructor
  · cases hi : P.info? e with
    | none => rw [hi] at h1; simp at h1
    | some i =>
      rw [hi] at h1
      simp only [Option.map_some, Option.some.injEq, Prod.mk.injEq] at h1
      cases hz : i.zero with
      | none => rw [hz] at h1; simp at h1
      | some z => rw [hz] at h1; simp only [Option.map_some, Option.some.injEq] at h1; exact ⟨i, z, rfl, h1.1, hz, h1.2⟩
  · cases hi : P.underlying e with
    | none => rw [hi] at h2; simp at h2
    | some d => rw [hi] at h2; simp only [Option.map_some, Option.some.injEq] at h2; exact ⟨d, rfl, h2⟩
theorem TabOK.elem' (h : TabOK P T) {S e : Nat} (he : lookO S T.elem = some e) : P.underlying S = some (.slice e) := by
  have h1 := lookO_map _ _ S e T.elem h.elem he
  exact h1
theorem TabOK.byt' (h : TabOK P T) {e n : Nat} (he : lookO e T.byt = some n) : (P.info? e).map (·.bytes) = some n := lookO_map _ _ e n T.byt h.byt he
theorem TabOK.fld' (h : TabOK P T) {S j : Nat} {x : Nat × Nat × Bool} (he : ((lookO S T.fld).bind fun l => l[j]?) = some x) :
    ∃ (fs : Array Field) (f : Field) (i : TypeInfo) (d : TypeDesc), P.underlying S = some (.struct fs) ∧ fs[j]? = some f ∧ f.offset = x.1 ∧ P.info? f.type = some i ∧ i.size = x.2.1 ∧ P.underlying f.type = some d ∧ isAggD d = x.2.2 := by
  cases hl : lookO S T.fld with
  | none => rw [hl] at he; simp at he
  | some l =>
    rw [hl] at he
    simp only [Option.bind_some] at he
    have h1 := lookO_map _ _ S l T.fld h.fld hl
    simp only at h1
    cases hu : P.underlying S with
    | none => rw [hu] at h1; simp at h1
    | some d =>
      rw [hu] at h1
      simp only [Option.bind_some] at h1
      cases d with
      | struct fs =>
        simp only [Option.some.injEq] at h1
        have h2 := congrArg (fun q => q[j]?) h1
        simp only [List.getElem?_map, he, Option.map_some] at h2
        simp only [Array.getElem?_toList] at h2
        cases hf : fs[j]? with
        | none => rw [hf] at h2; simp at h2
        | some f =>
          rw [hf] at h2
          simp only [Option.map_some, Option.some.injEq, Prod.mk.injEq] at h2
          obtain ⟨h3, h4, h5⟩ := h2
          cases hi : P.info? f.type with
          | none => rw [hi] at h4; simp at h4
          | some i =>
            cases hd : P.underlying f.type with
            | none => rw [hd] at h5; simp at h5
            | some d => rw [hi] at h4; rw [hd] at h5; simp only [Option.map_some, Option.some.injEq] at h4 h5; exact ⟨fs, f, i, d, rfl, hf, h3, hi, h4, hd, h5⟩
      | _ => simp at h1

/-! ### operands -/
variable {C : Ctx} {s : St} {a : Act} {w : World} {R : Nat → Prop} {E : Env}
theorem rv_const (v : Value) : RV w R s.st s.us E (ofConst v) v := by
  unfold ofConst
  split <;> simp [RV, RV1, RV0, RC]
theorem Sim.op (h : Sim C s a w R E) (x : Operand) : RV w R s.st s.us E (s.op x) (a.eval x) := by
  cases x with
  | tmp t => exact h.tm t
  | const v => exact rv_const v
  | func f => simp [St.op, Act.eval, RV, RV1, RV0, RC]
  | global g => simp [St.op, RV, RV1, RV0, RC]

theorem rv_int {m : Mem} {us : Nat → Bool} {k : IntKind} {n : Int} {v : Value} (h : RV w R m us E (.int k n) v) : v = .int k n := h
theorem rv_bool {m : Mem} {us : Nat → Bool} {b : Bool} {v : Value} (h : RV w R m us E (.bool b) v) : v = .bool b := h
theorem rv_str {m : Mem} {us : Nat → Bool} {b : ByteArray} {v : Value} (h : RV w R m us E (.str b) v) : v = .string b := h

/-- what an operation comes to -/
def Goal (C : Ctx) (P : Program) (o : Oper) (s : St) (a : Act) (w : World) (v : AV) (ws : List W) : Prop :=
  ∃ u w' R' E', ((execOp a.eval o).run P w = .ok (.value u) w' ∨ (u = undef ∧ (execOp a.eval o).run P w = .ok .skip w')) ∧ Sim C ((s.write ws).put o.dst v) (a.put o.dst u) w' R' E'
theorem goal_pure (h : Sim C s a w R E) {o : Oper} {v : AV} {u : Value} (hv : RV w R s.st s.us E v u) (hr : (execOp a.eval o).run P w = .ok (.value u) w) : Goal C P o s a w v [] :=
  ⟨u, w, R, E, .inl hr, h.put o.dst hv⟩
theorem Goal.wp {o : Oper} {v : AV} {ws : List W} (h : Goal C P o s a w v ws) {next : Act → World → Prop} {Q : Exit → Act → World → Prop}
    (hn : ∀ a' w' R' E', Sim C ((s.write ws).put o.dst v) a' w' R' E' → next a' w') : o.wp P a w next Q := by
  obtain ⟨u, w', R', E', hr, hs⟩ := h
  unfold Oper.wp
  rcases hr with hr | ⟨rfl, hr⟩
  · rw [hr]; exact hn _ _ _ _ hs
  · rw [hr]; exact hn _ _ _ _ hs

theorem g_move (h : Sim C s a w R E) {o : Oper} {x : Operand} (ho : o.op = .move x ∨ o.op = .assign x) : Goal C P o s a w (s.op x) [] :=
  goal_pure h (h.op x) (by rcases ho with ho | ho <;> simp [execOp, ho])
theorem g_pick (h : Sim C s a w R E) {o : Oper} {c x y : Operand} (ho : o.op = .pick c x y) {t : Bool} (hc : s.op c = .bool t) {v : AV} (hv : RV w R s.st s.us E v (if t then a.eval x else a.eval y)) : Goal C P o s a w v [] := by
  have h1 := h.op c
  rw [hc] at h1
  exact goal_pure h hv (by simp [execOp, ho, rv_bool h1, asBool])
theorem g_bin_int (h : Sim C s a w R E) {o : Oper} {op : BinOp} {tx ty : TypeId} {x y : Operand} (ho : o.op = .binOp op tx x y ty) {k k' : IntKind} {m n : Int} (hx : s.op x = .int k m) (hy : s.op y = .int k' n) (hn : needs op k k' n = true) :
    Goal C P o s a w (bin2 op k m n) [] := by
  have h1 := h.op x
  have h2 := h.op y
  rw [hx] at h1
  rw [hy] at h2
  cases op <;> simp only [needs, decide_eq_true_eq, Bool.and_eq_true, Bool.not_eq_true', decide_eq_false_iff_not] at hn
  case quo => exact goal_pure h (u := .int k (k.wrap (m.tdiv n))) rfl (by simp [execOp, ho, rv_int h1, rv_int h2, eqGuard, binOp, Op.intDiv, hn.1, hn.2])
  case rem => exact goal_pure h (u := .int k (m.tmod n)) rfl (by simp [execOp, ho, rv_int h1, rv_int h2, eqGuard, binOp, Op.intDiv, hn.1, hn.2])
  case shl => exact goal_pure h (u := .int k (k.wrap (m * 2 ^ (min n.toNat k.bits)))) rfl (by simp [execOp, ho, rv_int h1, rv_int h2, eqGuard, binOp, Op.shift, show ¬ n < 0 by omega])
  case shr => exact goal_pure h (u := .int k (m.fdiv (2 ^ (min n.toNat k.bits)))) rfl (by simp [execOp, ho, rv_int h1, rv_int h2, eqGuard, binOp, Op.shift, show ¬ n < 0 by omega])
  all_goals
    subst hn
    first
    | exact goal_pure h rfl (by simp [execOp, ho, rv_int h1, rv_int h2, eqGuard, binOp, Op.intArith, Op.intBits, Op.intCmp])
    | exact goal_pure h rfl (by simp [execOp, ho, rv_int h1, rv_int h2, eqGuard, binOp, Op.intArith, Op.intBits, Op.intCmp]; rfl)
end Go.Ev
