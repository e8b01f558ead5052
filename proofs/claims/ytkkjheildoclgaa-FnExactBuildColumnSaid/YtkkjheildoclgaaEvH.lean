/- A text of the claim: an evaluator of Go functions, and why it answers as they do. -/
import Derived.Test.YtkkjheildoclgaaEvG
set_option linter.all false
set_option linter.unusedVariables false
set_option linter.unusedSimpArgs false
set_option autoImplicit false
namespace Go.Ev
variable {P : Program} {T : Tab} {C : Ctx} {s : St} {a : Act} {w : World} {R : Nat → Prop} {E : Env}

theorem write_new (s : St) (n : Nat) (e : Option Ent) : s.write [⟨n, e, true⟩] = { s with st := upd s.st n e, us := upd s.us n true } := by simp [St.write]
theorem write_old (s : St) (n : Nat) (e : Option Ent) : s.write [⟨n, e, false⟩] = { s with st := upd s.st n e } := by simp [St.write, upd_self]
theorem write_app (s : St) : ∀ (l k : List W), s.write (l ++ k) = (s.write l).write k := by
  intro l
  induction l generalizing s with
  | nil => intro k; rfl
  | cons x r ih => intro k; exact ih _ k
theorem fresh1 {us : Nat → Bool} {n : Nat} {e : Option Ent} (h : freshOk us [⟨n, e, true⟩] = true) : us n = false := by
  unfold freshOk at h
  cases hu : us n with
  | false => rfl
  | true => simp [hu] at h

theorem heap_alloc_lt (w : World) (o : Obj) (b : Nat) (h : b < w.heap.size) : (w.alloc o).heap[b]? = w.heap[b]? := Go.RowKit.Below.heap_alloc w o b h
theorem size_alloc' (w : World) (o : Obj) : (w.alloc o).heap.size = w.heap.size + 1 := by show (w.heap.push o).size = _; simp
theorem Sim.alloc (h : Sim C s a w R E) (o : Obj) : Sim C s a (w.alloc o) R E :=
  h.grow (fun b hb => heap_alloc_lt w o b hb) (by rw [size_alloc']; omega) (h.keep.grow (fun b hb => heap_alloc_lt w o b hb) (by rw [size_alloc']; omega) rfl rfl rfl)
theorem RC.grow {x : AV} {v : Value} (h : Sim C s a w R E) (o : Obj) (hx : RC w R s.st s.us E x v) : RC (w.alloc o) R s.st s.us E x v := by
  refine RC.move (m := s.st) (us := s.us) (E := E) ⟨fun _ h => h, fun _ _ => ⟨rfl, rfl, rfl, rfl⟩, fun b hb' => ⟨hb', heap_alloc_lt w o b (h.lt b hb')⟩, fun n q' _ hq => ⟨q', hq, Nat.le_refl _, fun _ b hb' => ⟨.inr hb', heap_alloc_lt w o b (h.own n b hb').2.1⟩⟩⟩ hx

theorem Sim.newBox (h : Sim C s a w R E) {dn : Nat} (hn : s.us dn = false) {cs : List AV} {arr : Array Value} (Ty : TypeId) (hrc : L2 (RC w R s.st s.us E) cs arr.toList) (d : Option Nat) :
    Sim C ((s.write [⟨dn, some (.box cs), true⟩]).put d (.pbox dn 0)) (a.put d (.pointer (some ⟨w.heap.size, 0, none⟩))) (w.alloc (.cells arr Ty)) R (E.add dn undef [w.heap.size] w.heap.size 0 0) := by
  have h1 := h.alloc (.cells arr Ty)
  have h2 := h1.add dn hn (.box cs) undef [w.heap.size] w.heap.size 0 0 (fun b hb => by
      simp only [List.mem_singleton] at hb
      subst hb
      exact ⟨fun hc => absurd (h.lt _ hc) (by omega), by rw [size_alloc']; omega, .inl h.keep.size⟩) (by simp) (fun k b hb hc => by
      simp only [List.mem_singleton] at hb
      subst hb
      exact absurd (h.own k _ hc).2.1 (by omega)) (fun m us E' mv hus hE hm => by
      subst hE; subst hm
      unfold SR
      rw [upd_at]
      refine ⟨by simp [Env.add, upd_at], arr, Ty, by simp only [Env.add, upd_at]; exact heap_alloc_new w _, hrc.imp fun x v hx => RC.move mv (RC.grow h _ hx)⟩)
  rw [write_new]
  exact h2.put d (And.intro (upd_at ..) (by simp [Env.add, upd_at]))

theorem RC.one {w : World} {R : Nat → Prop} {m : Mem} {us : Nat → Bool} {E : Env} {x : AV} {v : Value} (h : RC w R m us E x v) (hx : okCells [x] = true) : v.oneCell' = true ∧ v.cells = #[v] := by
  cases x with
  | int k n => rw [show v = _ from h]; exact ⟨rfl, rfl⟩
  | bool b => rw [show v = _ from h]; exact ⟨rfl, rfl⟩
  | str b => rw [show v = _ from h]; exact ⟨rfl, rfl⟩
  | nilsl => rw [show v = _ from h]; exact ⟨rfl, rfl⟩
  | fn f => rw [show v = _ from h]; exact ⟨rfl, rfl⟩
  | sl e t xs src => obtain ⟨_, ⟨A, n, c, e⟩, _⟩ := h; rw [e]; exact ⟨rfl, rfl⟩
  | ref n => obtain ⟨_, _, A, k, c, e⟩ := h; rw [e]; exact ⟨rfl, rfl⟩
  | pbox b off => rw [h.2]; exact ⟨rfl, rfl⟩
  | pel n i off => obtain ⟨_, _, _, g, _, e⟩ := h; rw [e]; exact ⟨rfl, rfl⟩
  | pro t y off src => obtain ⟨_, ⟨p, e⟩, _⟩ := h; rw [e]; exact ⟨rfl, rfl⟩
  | junk => simp [okCells] at hx
  | agg cs => exact absurd h (by simp [RC])
  | tup cs => exact absurd h (by simp [RC])
  | clo f cs => exact absurd h (by simp [RC])
  | ifc f cs => exact absurd h (by simp [RC])
  | mref n => rw [h.2]; exact ⟨rfl, rfl⟩
theorem flat_rc {w : World} {R : Nat → Prop} {m : Mem} {us : Nat → Bool} {E : Env} {x : AV} {v : Value} {l : List AV} (hf : flat x = some l) (h : RV w R m us E x v) : L2 (RC w R m us E) l v.cells.toList := by
  cases x with
  | agg cs =>
    simp only [flat, Option.some.injEq] at hf
    subst hf
    obtain ⟨vs, e, h1⟩ := h
    rw [e]
    exact h1
  | junk => simp [flat] at hf
  | tup cs => simp [flat] at hf
  | clo f cs => simp [flat] at hf
  | ifc f cs => simp [flat] at hf
  | _ =>
    simp only [flat, Option.some.injEq] at hf
    subst hf
    simp only [RV, RV1, RV0] at h
    rw [(RC.one h (by simp [okCells])).2]
    exact ⟨v, [], rfl, h, rfl⟩
theorem okCells_all {w : World} {R : Nat → Prop} {m : Mem} {us : Nat → Bool} {E : Env} : ∀ {l : List AV} {vs : List Value}, okCells l = true → L2 (RC w R m us E) l vs → ∀ v, v ∈ vs → v.oneCell' = true
  | [], _, _, e => by rw [show _ = [] from e]; simp
  | x :: r, _, hk, ⟨y, l', e, h1, h2⟩ => by
    intro v hv
    rw [e] at hv
    have hk2 : okCells [x] = true ∧ okCells r = true := by cases x <;> simp_all [okCells]
    rcases List.mem_cons.1 hv with rfl | hv
    · exact (RC.one h1 hk2.1).1
    · exact okCells_all hk2.2 h2 v hv

theorem zcells_rc {w : World} {R : Nat → Prop} {m : Mem} {us : Nat → Bool} {E : Env} : ∀ (t : CT), L2 (RC w R m us E) (zcells t) (zv t)
  | .int k => ⟨_, _, rfl, rfl, rfl⟩
  | .bool => ⟨_, _, rfl, rfl, rfl⟩
  | .str => ⟨_, _, rfl, rfl, rfl⟩
  | .sl e t => ⟨_, _, rfl, rfl, rfl⟩
  | .nil => rfl
  | .cons x y => (zcells_rc x).app (zcells_rc y)

theorem g_alloc (hT : TabOK P T) (h : Sim C s a w R E) {o : Oper} {e : TypeId} (ho : o.op = .alloc e) {z : Bool × CT} (hl : lookO e T.lay = some z) {dn : Nat} (hn : s.us dn = false) :
    Goal C P o s a w (.pbox dn 0) [⟨dn, some (.box (zcells z.2)), true⟩] := by
  obtain ⟨⟨i, zz, hi, hsz, hz, hzc⟩, _⟩ := hT.lay' hl
  refine ⟨_, _, _, _, .inl ?_, h.newBox hn (arr := zz.cells) e (by rw [hzc]; exact zcells_rc _) o.dst⟩
  simp [execOp, ho, Instr.alloc, zeroValue, typeInfo, hi, hz, newVar, newRow]
theorem g_box (h : Sim C s a w R E) {o : Oper} {e : TypeId} {x : Operand} (ho : o.op = .box e x) {l : List AV} (hl : flat (s.op x) = some l) {dn : Nat} (hn : s.us dn = false) :
    Goal C P o s a w (.pbox dn 0) [⟨dn, some (.box l), true⟩] := by
  refine ⟨_, _, _, _, .inl ?_, h.newBox hn (arr := (a.eval x).cells) e (flat_rc hl (h.op x)) o.dst⟩
  simp [execOp, ho, Instr.box, newVar, newRow]

theorem Sim.zb (h : Sim C s a w R E) {n : Nat} {e : TypeId} (hb : s.st n = some (.zb e)) : E.F n = [E.B n] ∧ w.heap[E.B n]? = some (.cells #[] e (0, 0)) := by
  have := h.st n
  unfold SR at this
  rw [hb] at this
  exact this
theorem g_zbox (h : Sim C s a w R E) {o : Oper} {e : TypeId} {x : Operand} (ho : o.op = .box e x) (hl : flat (s.op x) = some []) {dn : Nat} (hn : s.us dn = false) :
    Goal C P o s a w (.pbox dn 0) [⟨dn, some (.zb e), true⟩] := by
  have hc : (a.eval x).cells = #[] := by
    have := flat_rc hl (h.op x)
    exact Array.toList_eq_nil_iff.1 this
  have h1 := h.alloc (.cells #[] e)
  have h2 := h1.add dn hn (.zb e) undef [w.heap.size] w.heap.size 0 0 (fun b hb => by
      simp only [List.mem_singleton] at hb
      subst hb
      exact ⟨fun hc => absurd (h.lt _ hc) (by omega), by rw [size_alloc']; omega, .inl h.keep.size⟩) (by simp) (fun k b hb hc => by
      simp only [List.mem_singleton] at hb
      subst hb
      exact absurd (h.own k _ hc).2.1 (by omega)) (fun m us E' mv hus hE hm => by
      subst hE; subst hm
      unfold SR
      rw [upd_at]
      exact ⟨by simp [Env.add, upd_at], by simp only [Env.add, upd_at]; exact heap_alloc_new w _⟩)
  rw [← write_new] at h2
  exact ⟨.pointer (some ⟨w.heap.size, 0, none⟩), _, R, _, .inl (by simp [execOp, ho, Instr.box, newVar, newRow, hc]), h2.put o.dst (And.intro (by simp [write_new, upd_at]) (by simp [Env.add, upd_at]))⟩
theorem g_zfield (hT : TabOK P T) (h : Sim C s a w R E) {o : Oper} {S : TypeId} {x : Operand} {j : Nat} (ho : o.op = .fieldAddr S x j) {b : Nat} (hx : s.op x = .pbox b 0) {e : TypeId} (hb : s.st b = some (.zb e)) (hz : lookO S T.zf = some j) {z : Bool × CT} (hl : lookO e T.lay = some z) (h0 : z.2.sz = 0) :
    Goal C P o s a w (.pbox b 0) [] := by
  obtain ⟨hu, hv⟩ : RC w R s.st s.us E (.pbox b 0) (a.eval x) := by have := h.op x; rw [hx] at this; exact this
  obtain ⟨hF, hg⟩ := h.zb hb
  obtain ⟨⟨i, zz, hi, his, _, _⟩, _⟩ := hT.lay' hl
  have h1 := lookO_map _ _ S j T.zf hT.zf hz
  simp only at h1
  unfold zfOk at h1
  split at h1
  · rename_i fs hs
    split at h1
    · rename_i f hf
      split at h1
      · rename_i i2 hi2
        simp only [Bool.and_eq_true, beq_iff_eq] at h1
        obtain ⟨h2, h3, h4⟩ := h1
        have hc : P.cellsOf e = 0 := by unfold Program.cellsOf; rw [hi]; simp [his, h0]
        have hsh : w.shape? (E.B b) = some (e, 0) := by unfold World.shape?; rw [hg]; rfl
        have hby : (byteOf ⟨E.B b, 0, none⟩).run P w = .ok 0 w := by
          unfold byteOf
          have hnv : (noView ⟨E.B b, 0, none⟩).run P w = .ok () w := by
            unfold noView
            simp [viewAt, hsh]
          simp [hnv, hsh, hc]
        refine goal_pure h (u := .pointer (some ⟨E.B b, 0, none⟩)) ⟨hu, rfl⟩ ?_
        simp [execOp, ho, hv, Instr.fieldAt, run_underlying hs, hf, Instr.sureAddr, fieldPlace, sizeOf, typeInfo, hi2, h2, partAt, h3, h4, hby]
      · cases h1
    · cases h1
  · cases h1
theorem fieldAt_run (hT : TabOK P T) {S j : Nat} {x : Nat × Nat × Bool} (hf : ((lookO S T.fld).bind fun l => l[j]?) = some x) (h0 : x.2.1 ≠ 0) (ad : Addr) :
    (Instr.fieldAt S (.pointer (some ad)) j).run P w = .ok (.pointer (some (ad.add x.1))) w := by
  obtain ⟨fs, f, i, d, h1, h2, h3, h4, h5, _, _⟩ := hT.fld' hf
  have : i.size ≠ 0 := by rw [h5]; exact h0
  simp [Instr.fieldAt, run_underlying h1, h2, Instr.sureAddr, fieldPlace, sizeOf, typeInfo, h4, this, h3]
theorem g_fieldAddr (hT : TabOK P T) (h : Sim C s a w R E) {o : Oper} {S : TypeId} {x : Operand} {j : Nat} (ho : o.op = .fieldAddr S x j) {y : Nat × Nat × Bool} (hf : ((lookO S T.fld).bind fun l => l[j]?) = some y) (h0 : y.2.1 ≠ 0) :
    (∀ b q, s.op x = .pbox b q → Goal C P o s a w (.pbox b (q + y.1)) []) ∧ (∀ n i q, s.op x = .pel n i q → Goal C P o s a w (.pel n i (q + y.1)) []) ∧ (∀ t v q src, s.op x = .pro t v q src → Goal C P o s a w (.pro t v (q + y.1) src) []) := by
  have hx := h.op x
  refine ⟨fun b q e => ?_, fun n i q e => ?_, fun t v q src e => ?_⟩
  · rw [e] at hx
    obtain ⟨h1, h2⟩ : RC w R s.st s.us E (.pbox b q) (a.eval x) := hx
    refine goal_pure h (u := .pointer (some ((⟨E.B b, q, none⟩ : Addr).add y.1))) ⟨h1, ?_⟩ (by simp [execOp, ho, h2, fieldAt_run hT hf h0])
    unfold Addr.add; split <;> simp_all
  · rw [e] at hx
    obtain ⟨h1, h2, h3, g, h4, h5⟩ : RC w R s.st s.us E (.pel n i q) (a.eval x) := hx
    refine goal_pure h (u := .pointer (some ((⟨g, i.toNat * E.S n + q, none⟩ : Addr).add y.1))) ⟨h1, h2, h3, g, h4, ?_⟩ (by simp [execOp, ho, h5, fieldAt_run hT hf h0])
    unfold Addr.add; split <;> simp_all [Nat.add_assoc]
  · rw [e] at hx
    obtain ⟨h1, ⟨p, hp⟩, h2⟩ : RC w R s.st s.us E (.pro t v q src) (a.eval x) := hx
    refine goal_pure h (u := .pointer (some (p.add y.1))) ⟨h1, ⟨_, rfl⟩, fun hl => ?_⟩ (by simp [execOp, ho, hp, fieldAt_run hT hf h0])
    obtain ⟨ad, ds, e1, hr⟩ := h2 hl
    rw [hp] at e1
    simp only [Value.pointer.injEq, Option.some.injEq] at e1
    exact ⟨ad, ds, by rw [e1, add_add'], hr⟩
end Go.Ev
