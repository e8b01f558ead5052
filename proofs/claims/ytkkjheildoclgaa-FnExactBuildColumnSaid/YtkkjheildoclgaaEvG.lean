/- A text of the claim: an evaluator of Go functions, and why it answers as they do. -/
import Derived.Test.YtkkjheildoclgaaEvF
import Derived.Laws.Small
import Derived.Laws.CopyRow
import Derived.Laws.Slices
import Derived.Great.BuildSlice
set_option linter.all false
set_option linter.unusedVariables false
set_option linter.unusedSimpArgs false
set_option autoImplicit false
namespace Go.Ev
variable {P : Program} {T : Tab} {C : Ctx} {s : St} {a : Act} {w : World} {R : Nat → Prop} {E : Env}

theorem g_bin_bool (hT : TabOK P T) (h : Sim C s a w R E) {o : Oper} {op : BinOp} {tx ty : TypeId} {x y : Operand} (ho : o.op = .binOp op tx x y ty) {m n : Bool} (hx : s.op x = .bool m) (hy : s.op y = .bool n) (ht : lookO tx T.lay = some (false, .bool)) :
    (op = .eql → Goal C P o s a w (.bool (m == n)) []) ∧ (op = .neq → Goal C P o s a w (.bool (!(m == n))) []) := by
  have h1 := h.op x
  have h2 := h.op y
  rw [hx] at h1
  rw [hy] at h2
  obtain ⟨_, d, hd, hs⟩ := hT.lay' ht
  have hd' : P.underlying tx = some .bool := by
    rw [hd]
    cases d <;> simp [shOf, shWant] at hs ⊢
  constructor
  · rintro rfl
    exact goal_pure h (u := .bool (m == n)) rfl (by simp [execOp, ho, rv_bool h1, rv_bool h2, eqGuard, run_eql_bool _ tx m n hd'])
  · rintro rfl
    exact goal_pure h (u := .bool (!(m == n))) rfl (by simp [execOp, ho, rv_bool h1, rv_bool h2, eqGuard, run_neq_bool _ tx m n hd'])
theorem g_bin_str (h : Sim C s a w R E) {o : Oper} {op : BinOp} {tx ty : TypeId} {x y : Operand} (ho : o.op = .binOp op tx x y ty) {m n : ByteArray} (hx : s.op x = .str m) (hy : s.op y = .str n) :
    (op = .eql → Goal C P o s a w (.bool (m.toList == n.toList)) []) ∧ (op = .neq → Goal C P o s a w (.bool (!(m.toList == n.toList))) []) := by
  have h1 := h.op x
  have h2 := h.op y
  rw [hx] at h1
  rw [hy] at h2
  constructor
  · rintro rfl
    exact goal_pure h (u := .bool (m.toList == n.toList)) rfl (by simp [execOp, ho, rv_str h1, rv_str h2, eqGuard, binOp, Op.stringOp])
  · rintro rfl
    exact goal_pure h (u := .bool (!(m.toList == n.toList))) rfl (by simp [execOp, ho, rv_str h1, rv_str h2, eqGuard, binOp, Op.stringOp])
theorem g_not (h : Sim C s a w R E) {o : Oper} {tx : TypeId} {x : Operand} (ho : o.op = .unOp .not tx x) {m : Bool} (hx : s.op x = .bool m) : Goal C P o s a w (.bool (!m)) [] := by
  have h1 := h.op x
  rw [hx] at h1
  exact goal_pure h (u := .bool (!m)) rfl (by simp [execOp, ho, rv_bool h1, Op.unary])
theorem g_neg (h : Sim C s a w R E) {o : Oper} {tx : TypeId} {x : Operand} (ho : o.op = .unOp .neg tx x) {k : IntKind} {m : Int} (hx : s.op x = .int k m) : Goal C P o s a w (.int k (k.wrap (0 - m))) [] := by
  have h1 := h.op x
  rw [hx] at h1
  exact goal_pure h (u := .int k (k.wrap (0 - m))) rfl (by simp [execOp, ho, rv_int h1, Op.unary, Op.intArith])
theorem g_conv_int (hT : TabOK P T) (h : Sim C s a w R E) {o : Oper} {src dst : TypeId} {x : Operand} (ho : o.op = .convert src dst x) {k k' : IntKind} {m : Int} (hx : s.op x = .int k' m) {z : Bool × CT} (hs : lookO src T.lay = some z) {b : Bool} (hd : lookO dst T.lay = some (b, .int k)) (hb : b = false) : Goal C P o s a w (.int k (k.wrap m)) [] := by
  have h1 := h.op x
  rw [hx] at h1
  subst hb
  obtain ⟨_, d, hd1, _⟩ := hT.lay' hs
  obtain ⟨_, d2, hd2, hs2⟩ := hT.lay' hd
  have hd' : P.underlying dst = some (.int k) := by
    rw [hd2]
    cases d2 <;> simp [shOf, shWant] at hs2 ⊢
    exact hs2
  exact goal_pure h (u := .int k (k.wrap m)) rfl (by
    have := run_convert_int (P := P) (w := w) src dst k' m (by rw [hd1]; rfl)
    simp [execOp, ho, rv_int h1, convert, run_underlying hd1, run_underlying hd', Conv.intToInt])

/-! rows that are read -/
def Sub (m m' : Mem) : Prop := ∀ n e, m n = some e → m' n = some e
theorem Sub.live {m m' : Mem} (h : Sub m m') {src : Src} (hl : liveSrc m src = true) : liveSrc m' src = true := by
  cases src with
  | imm => rfl
  | inn n ver pos =>
    replace hl : (match m n with | some (.root q) => Nat.beq q.ver ver | _ => false) = true := hl
    show (match m' n with | some (.root q) => Nat.beq q.ver ver | _ => false) = true
    cases hm : m n with
    | none => rw [hm] at hl; simp at hl
    | some e => rw [h n e hm]; rw [hm] at hl; exact hl
/-- what a row's value leads to -/
def RowAt (w : World) (R : Nat → Prop) (t : CT) (xs : List (Den t)) (v : Value) : Prop :=
  ∃ A c ds, v = .slice A xs.length c ∧ xs.length ≤ c ∧ All (Rp w R false t) xs ds [] ∧ (ds ≠ [] → ∃ a, A = some a ∧ R a.block ∧ Cells w a ds)
theorem rowAt_of {e : TypeId} {t : CT} {xs : List (Den t)} {v : Value} (h : Rp w R false (.sl e t) xs [v] []) : RowAt w R t xs v := by
  obtain ⟨A, c, ds, e1, _, h1, h2, h3⟩ := h
  simp only [List.cons.injEq, and_true] at e1
  exact ⟨A, c, ds, e1, h1, h2, h3⟩
theorem Sim.rootRow (h : Sim C s a w R E) {n : Nat} {q : Root} (hq : s.st n = some (.root q)) : RowAt w (fun b => R b ∨ b ∈ E.F n) q.t q.xs (E.V n) := by
  have h1 := h.st n
  unfold SR at h1
  rw [hq] at h1
  obtain ⟨l1, l2, ds, Fi, h2, h3, h4⟩ := h1
  obtain ⟨A, c, e, hc, hd⟩ := own_imm h2
  refine ⟨A, c, ds, e, hc, h4.freeze (fun b hb => .inl hb) (fun b hb => .inr (by rw [h3]; exact List.mem_append.2 (.inr hb))), fun hne => ?_⟩
  obtain ⟨ad, ea, hb, hcs⟩ := hd hne
  exact ⟨ad, ea, .inr (by rw [h3]; exact List.mem_append.2 (.inl hb)), hcs⟩
theorem Sim.rowOf (h : Sim C s a w R E) {m : Mem} (hm : Sub m s.st) {x : AV} {v : Value} (hv : RV w R s.st s.us E x v) {r : Row} (hr : rowOf m x = some r) : ∃ R', RowAt w R' r.t r.xs v := by
  cases x with
  | sl e t xs src =>
    have hv' : RC w R s.st s.us E (.sl e t xs src) v := hv
    cases src with
    | imm =>
      simp only [Ev.rowOf, Option.some.injEq] at hr
      subst hr
      exact ⟨_, rowAt_of (hv'.2.2.1 rfl)⟩
    | inn n ver pos =>
      simp only [Ev.rowOf] at hr
      cases hmn : m n with
      | none => rw [hmn] at hr; simp at hr
      | some en =>
        rw [hmn] at hr
        cases en with
        | box cs | mp es | zb ze => simp at hr
        | root q =>
          simp only at hr
          by_cases hver : Nat.beq q.ver ver = true
          · rw [hver] at hr
            simp only [cond_true, Option.some.injEq] at hr
            subst hr
            refine ⟨_, rowAt_of (hv'.2.2.1 (hm.live ?_))⟩
            show (match m n with | some (.root q) => Nat.beq q.ver ver | _ => false) = true
            rw [hmn]
            exact hver
          · simp only [Bool.not_eq_true] at hver
            rw [hver] at hr
            simp at hr
  | ref n =>
    have hv' : RC w R s.st s.us E (.ref n) v := hv
    simp only [Ev.rowOf] at hr
    cases hmn : m n with
    | none => rw [hmn] at hr; simp at hr
    | some en =>
      rw [hmn] at hr
      cases en with
      | box cs | mp es | zb ze => simp at hr
      | root q =>
        simp only [Option.some.injEq] at hr
        subst hr
        rw [hv'.2.1]
        exact ⟨_, h.rootRow (hm n _ hmn)⟩
  | _ => simp [Ev.rowOf] at hr

theorem g_len (h : Sim C s a w R E) {m : Mem} (hm : Sub m s.st) {o : Oper} {c : Call} (ho : o.op = .call c) (hc : c.callee = .builtin .len) {x : Operand} (hx : c.args = #[x]) {S : TypeId} (hS : c.argTypes[0]? = some S) {e : TypeId} (hu : P.underlying S = some (.slice e)) {r : Row} (hr : rowOf m (s.op x) = some r) :
    Goal C P o s a w (.int .i64 (r.xs.length : Int)) [] := by
  obtain ⟨R', A, cp, ds, hv, _⟩ := h.rowOf hm (h.op x) hr
  exact goal_pure h (u := .int .i64 (r.xs.length : Int)) rfl (by simp [execOp, ho, resolve, hc, hx, invoke, builtin, Builtin.len_, hS, hv, run_underlying hu, goInt])
theorem g_len_nil (h : Sim C s a w R E) {o : Oper} {c : Call} (ho : o.op = .call c) (hc : c.callee = .builtin .len) {x : Operand} (hx : c.args = #[x]) {S : TypeId} (hS : c.argTypes[0]? = some S) {e : TypeId} (hu : P.underlying S = some (.slice e)) (hr : s.op x = .nilsl) :
    Goal C P o s a w (.int .i64 0) [] := by
  have h1 := h.op x
  rw [hr] at h1
  have h2 : a.eval x = .slice none 0 0 := h1
  exact goal_pure h (u := .int .i64 0) rfl (by simp [execOp, ho, resolve, hc, hx, invoke, builtin, Builtin.len_, hS, h2, run_underlying hu, goInt])
theorem g_len_str (h : Sim C s a w R E) {o : Oper} {c : Call} (ho : o.op = .call c) (hc : c.callee = .builtin .len) {x : Operand} (hx : c.args = #[x]) {S : TypeId} (hS : c.argTypes[0]? = some S) (hu : P.underlying S = some .string) {b : ByteArray} (hr : s.op x = .str b) :
    Goal C P o s a w (.int .i64 (b.size : Int)) [] := by
  have h1 := h.op x
  rw [hr] at h1
  exact goal_pure h (u := .int .i64 (b.size : Int)) rfl (by simp [execOp, ho, resolve, hc, hx, invoke, builtin, Builtin.len_, hS, rv_str h1, run_underlying hu, goInt])

theorem All.cellsU8 {w : World} {R : Nat → Prop} : ∀ {xs : List Int} {ds : List Value} {F : List Nat}, All (Rp w R false (.int .u8)) xs ds F → ds = xs.map (Value.int .u8)
  | [], _, _, h => h.1
  | x :: r, ds, F, ⟨c1, c2, F1, F2, e1, e2, h1, h2⟩ => by rw [e1, h2.cellsU8, show c1 = [.int .u8 x] from h1.1]; rfl
theorem add_add' (p : Addr) (i j : Nat) : (p.add i).add j = p.add (i + j) := by
  unfold Addr.add
  by_cases hi : i = 0
  · subst hi; simp
  · by_cases hj : j = 0
    · subst hj; simp
    · simp [hi, hj, Nat.add_assoc]
theorem g_conv_str (hT : TabOK P T) (h : Sim C s a w R E) {m : Mem} (hm : Sub m s.st) {o : Oper} {src dst e : TypeId} {x : Operand} (ho : o.op = .convert src dst x)
    (hs : lookO src T.lay = some (false, .sl e (.int .u8))) (hd : lookO dst T.lay = some (false, .str)) (he : lookO e T.lay = some (false, .int .u8)) {e' : TypeId} {xs : List Int} (hr : rowOf m (s.op x) = some ⟨e', .int .u8, xs⟩) :
    Goal C P o s a w (.str (strOf xs)) [] := by
  obtain ⟨R', A, cp, ds, hv, _, hall, hc⟩ := h.rowOf hm (h.op x) hr
  have hds := hall.cellsU8
  obtain ⟨_, d1, hd1, hh1⟩ := hT.lay' hs
  obtain ⟨_, d2, hd2, hh2⟩ := hT.lay' hd
  obtain ⟨_, d3, hd3, hh3⟩ := hT.lay' he
  have hd1' : P.underlying src = some (.slice e) := by rw [hd1]; cases d1 <;> simp [shOf, shWant] at hh1 ⊢; exact hh1
  have hd2' : P.underlying dst = some .string := by rw [hd2]; cases d2 <;> simp [shOf, shWant] at hh2 ⊢
  have hd3' : P.underlying e = some (.int .u8) := by rw [hd3]; cases d3 <;> simp [shOf, shWant] at hh3 ⊢; exact hh3
  have hrun : (convert src dst (a.eval x)).run P w = .ok (.string (strOf xs)) w := by
    simp only at hv
    rw [hv]
    by_cases hne : xs = []
    · subst hne
      cases A with
      | none =>
        have := run_convert_bytes_nil (P := P) w src e hd1' hd3' 0 cp dst hd2'
        simp only [List.length_nil]
        rw [this]
        rfl
      | some ad => simp [convert, run_underlying hd1', run_underlying hd2', run_underlying hd3', Conv.bytesToString, loadCells, loadCellsFrom, strOf, strOfNums]; rfl
    · obtain ⟨ad, rfl, _, hcs⟩ := hc (by rw [hds]; simpa using hne)
      have hspot : ad.spot = none := by
        cases xs with
        | nil => exact absurd rfl hne
        | cons z zs =>
          have := hcs 0 (.int .u8 z) (by rw [hds]; rfl)
          simp only [Addr.add, if_true] at this
          unfold World.cell? at this
          split at this
          · by_cases hsp : ad.spot.isSome = true
            · simp [hsp] at this
            · simpa using hsp
          · cases this
      obtain ⟨b, off, sp⟩ := ad
      simp only at hspot
      subst hspot
      exact run_convert_bytes_arg (P := P) w src e hd1' hd3' b off xs.length cp xs rfl (fun i hi => by
        have := hcs i (.int .u8 (xs.getD i 0)) (by rw [hds]; simp [hi])
        have e2 : (⟨b, off, none⟩ : Addr).add i = ⟨b, off + i, none⟩ := by unfold Addr.add; split <;> simp_all
        rwa [e2] at this) dst hd2'
  exact goal_pure h (u := .string (strOf xs)) rfl (by simp [execOp, ho, hrun])
theorem g_conv_str_nil (hT : TabOK P T) (h : Sim C s a w R E) {o : Oper} {src dst e : TypeId} {x : Operand} (ho : o.op = .convert src dst x)
    (hs : lookO src T.lay = some (false, .sl e (.int .u8))) (hd : lookO dst T.lay = some (false, .str)) (he : lookO e T.lay = some (false, .int .u8)) (hr : s.op x = .nilsl) :
    Goal C P o s a w (.str ByteArray.empty) [] := by
  have h1 := h.op x
  rw [hr] at h1
  have h2 : a.eval x = .slice none 0 0 := h1
  obtain ⟨_, d1, hd1, hh1⟩ := hT.lay' hs
  obtain ⟨_, d2, hd2, hh2⟩ := hT.lay' hd
  obtain ⟨_, d3, hd3, hh3⟩ := hT.lay' he
  have hd1' : P.underlying src = some (.slice e) := by rw [hd1]; cases d1 <;> simp [shOf, shWant] at hh1 ⊢; exact hh1
  have hd2' : P.underlying dst = some .string := by rw [hd2]; cases d2 <;> simp [shOf, shWant] at hh2 ⊢
  have hd3' : P.underlying e = some (.int .u8) := by rw [hd3]; cases d3 <;> simp [shOf, shWant] at hh3 ⊢; exact hh3
  have hrun := run_convert_bytes_nil (P := P) w src e hd1' hd3' 0 0 dst hd2'
  exact goal_pure h (u := .string ByteArray.empty) rfl (by simp [execOp, ho, h2, hrun])
end Go.Ev
