/- A text of the claim: an evaluator of Go functions, and why it answers as they do. -/
import Derived.Test.YtkkjheildoclgaaEvH
set_option linter.all false
set_option linter.unusedVariables false
set_option linter.unusedSimpArgs false
set_option autoImplicit false
set_option linter.unusedVariables false
namespace Go.Ev
variable {P : Program} {T : Tab} {C : Ctx} {s : St} {a : Act} {w : World} {R : Nat → Prop} {E : Env}

theorem isAgg_run (hT : TabOK P T) {L : TypeId} {z : Bool × CT} (hl : lookO L T.lay = some z) : (isAgg L).run P w = .ok z.1 w := by
  obtain ⟨_, d, hd, hs⟩ := hT.lay' hl
  obtain ⟨b, t⟩ := z
  cases b
  · cases t <;> cases d <;> simp [shOf, shWant] at hs <;> simp [isAgg, run_underlying hd]
  · cases d <;> simp [shOf, shWant] at hs <;> simp [isAgg, run_underlying hd]
theorem sizeOf_run (hT : TabOK P T) {L : TypeId} {z : Bool × CT} (hl : lookO L T.lay = some z) : (sizeOf L).run P w = .ok z.2.sz w := by
  obtain ⟨⟨i, zz, hi, hsz, _⟩, _⟩ := hT.lay' hl
  simp [sizeOf, typeInfo, hi, hsz]
theorem loadVar_run (hT : TabOK P T) {L : TypeId} {z : Bool × CT} (hl : lookO L T.lay = some z) {ad : Addr} {cs : List Value} (hlen : cs.length = z.2.sz) (hc : Cells w ad cs) (h1 : (z.1 || Nat.beq z.2.sz 1) = true) :
    (loadVar L ad).run P w = .ok (if z.1 = true then .agg cs.toArray else cs.headD undef) w := by
  unfold loadVar
  simp only [Sem.run_bind, isAgg_run hT hl, Result.andThen_ok]
  cases hz : z.1 with
  | true =>
    have := run_loadCells_list (P := P) w ad cs hc
    simp [sizeOf_run hT hl, ← hlen, this]
  | false =>
    rw [hz] at h1
    simp only [Bool.false_or] at h1
    have hs := Nat.eq_of_beq_eq_true h1
    rw [hs] at hlen
    match cs, hlen with
    | [c], _ =>
      have := hc 0 c rfl
      simp only [Addr.add, if_true] at this
      simp [this]
theorem load_rv {m : Mem} {us : Nat → Bool} {b : Bool} {n : Nat} {l : List AV} {cs : List Value} (h : L2 (RC w R m us E) l cs) (hn : l.length = n) (h1 : (b || Nat.beq n 1) = true) :
    RV w R m us E (unflat b l) (if b = true then .agg cs.toArray else cs.headD undef) := by
  cases b with
  | true => exact ⟨cs, rfl, h⟩
  | false =>
    simp only [Bool.false_or] at h1
    have hs := Nat.eq_of_beq_eq_true h1
    rw [hs] at hn
    match l, hn with
    | [x], _ =>
      obtain ⟨y, l', e, hx, e2⟩ := h
      rw [e]
      simp only [unflat, cond_false, List.headD_cons, Bool.false_eq_true, if_false]
      cases x <;> simp only [RV, RV1, RV0] <;> first | exact hx | exact absurd hx (by simp [RC])
theorem Cells.drop {ad : Addr} {cs : List Value} (h : Cells w ad cs) (q n : Nat) : Cells w (ad.add q) ((cs.drop q).take n) := by
  intro j u hu
  rw [add_add']
  have : cs[q + j]? = some u := by
    rw [List.getElem?_take] at hu
    split at hu
    · rw [List.getElem?_drop] at hu; exact hu
    · cases hu
  exact h _ _ this
theorem cells_heap {g : Nat} {arr : Array Value} {Ty : TypeId} {fr : Nat × Nat} (hg : w.heap[g]? = some (.cells arr Ty fr)) (o : Nat) : Cells w ⟨g, o, none⟩ (arr.toList.drop o) := by
  intro j u hu
  have e : (⟨g, o, none⟩ : Addr).add j = ⟨g, o + j, none⟩ := by unfold Addr.add; split <;> simp_all
  rw [e]
  rw [List.getElem?_drop] at hu
  simp only [World.cell?, hg]
  simpa using hu
theorem cells_len : ∀ (t : CT) (x : Den t) (src : Nat → Src) (o : Nat), (cells t x src o).length = t.sz
  | .int k, _, _, _ => rfl
  | .bool, _, _, _ => rfl
  | .str, _, _, _ => rfl
  | .sl e t, _, _, _ => rfl
  | .nil, _, _, _ => rfl
  | .cons a b, x, src, o => by simp [cells, cells_len a, cells_len b, CT.sz]
/-- an element's cells, read where what it leads to lies in R' -/
theorem cells_rc {m : Mem} {us : Nat → Bool} {R' : Nat → Prop} : ∀ {t : CT} {x : Den t} {ds : List Value} (src : Nat → Src) (o : Nat), (∀ o, usedSrc m us (src o) ∧ ∀ b, R' b → RS R E (src o) b) → (∀ j u, ds[j]? = some u → AtPos w R E (src (o + j)) u) → Rp w R' false t x ds [] → L2 (RC w R m us E) (cells t x src o) ds
  | .int k, x, ds, _, _, _, _, h => ⟨_, [], h.1, rfl, rfl⟩
  | .bool, x, ds, _, _, _, _, h => ⟨_, [], h.1, rfl, rfl⟩
  | .str, x, ds, _, _, _, _, h => ⟨_, [], h.1, rfl, rfl⟩
  | .sl e t, x, ds, src, o, hs, hp, h => by
    have h' := h
    obtain ⟨A, c, cs, e1, _⟩ := h'
    refine ⟨_, [], e1, ⟨(hs o).1, ⟨_, _, _, rfl⟩, fun _ => ?_, fun _ => hp 0 _ (by rw [e1]; rfl)⟩, rfl⟩
    rw [← e1]
    exact h.keep (w' := w) (fun b hb => ⟨(hs o).2 b hb, rfl⟩) (fun _ _ => rfl)
  | .nil, x, ds, _, _, _, _, h => h.1
  | .cons a b, x, ds, src, o, hs, hp, ⟨c1, c2, F1, F2, e1, e2, h1, h2⟩ => by
    have f1 := h1.noF
    have f2 := h2.noF
    subst f1; subst f2
    rw [e1]
    have l1 := h1.len
    exact (cells_rc src o hs (fun j u hu => hp j u (by rw [e1, List.getElem?_append_left (List.getElem?_eq_some_iff.1 hu).1]; exact hu)) h1).app (cells_rc src (o + a.sz) hs (fun j u hu => by
      have := hp (a.sz + j) u (by rw [e1, List.getElem?_append_right (by omega), l1, Nat.add_sub_cancel_left]; exact hu)
      rw [Nat.add_assoc]
      exact this) h2)

theorem Sim.box (h : Sim C s a w R E) {b : Nat} {cs : List AV} (hb : s.st b = some (.box cs)) : E.F b = [E.B b] ∧ ∃ arr Ty, w.heap[E.B b]? = some (.cells arr Ty (0, 0)) ∧ L2 (RC w R s.st s.us E) cs arr.toList := by
  have := h.st b
  unfold SR at this
  rw [hb] at this
  exact this
theorem Sim.root (h : Sim C s a w R E) {n : Nat} {q : Root} (hq : s.st n = some (.root q)) : E.L n = q.xs.length ∧ E.S n = q.t.sz ∧ ∃ ds Fi, w.ownsRow 0 q.e q.t.sz (E.V n) q.xs.length ds ∧ E.F n = (E.V n).ownBlock.toList ++ Fi ∧ All (Rp w R q.deep q.t) q.xs ds Fi := by
  have := h.st n
  unfold SR at this
  rw [hq] at this
  exact this

theorem g_load_box (hT : TabOK P T) (h : Sim C s a w R E) {o : Oper} {L : TypeId} {x : Operand} (ho : o.op = .load L x) {z : Bool × CT} (hl : lookO L T.lay = some z) {b q : Nat} (hx : s.op x = .pbox b q) {cs : List AV} (hb : s.st b = some (.box cs))
    (h1 : (Nat.ble (q + z.2.sz) cs.length && (z.1 || Nat.beq z.2.sz 1)) = true) : Goal C P o s a w (unflat z.1 ((cs.drop q).take z.2.sz)) [] := by
  simp only [Bool.and_eq_true] at h1
  have hle := Nat.le_of_ble_eq_true h1.1
  obtain ⟨h2, h3⟩ : RC w R s.st s.us E (.pbox b q) (a.eval x) := by have := h.op x; rw [hx] at this; exact this
  obtain ⟨_, arr, Ty, hg, hrc⟩ := h.box hb
  have hl2 := (hrc.drop q).take z.2.sz
  have hlen : ((cs.drop q).take z.2.sz).length = z.2.sz := by simp; omega
  have hrun := loadVar_run (P := P) (w := w) hT hl (ad := ⟨E.B b, q, none⟩) (cs := (arr.toList.drop q).take z.2.sz) (by rw [hl2.len, hlen]) (by
    have := (cells_heap hg q).drop 0 z.2.sz
    simpa [Addr.add] using this) h1.2
  exact goal_pure h (load_rv hl2 hlen h1.2) (by simp [execOp, ho, h3, Instr.loadAt, Instr.sureAddr, hrun])
theorem g_load_zb (hT : TabOK P T) (h : Sim C s a w R E) {o : Oper} {L : TypeId} {x : Operand} (ho : o.op = .load L x) {z : Bool × CT} (hl : lookO L T.lay = some z) {b q : Nat} (hx : s.op x = .pbox b q) (h0 : z.2.sz = 0) (h1 : z.1 = true) : Goal C P o s a w (.agg []) [] := by
  obtain ⟨hu, hv⟩ : RC w R s.st s.us E (.pbox b q) (a.eval x) := by have := h.op x; rw [hx] at this; exact this
  have hrun := loadVar_run (P := P) (w := w) hT hl (ad := ⟨E.B b, q, none⟩) (cs := []) h0.symm (fun j u hj => by simp at hj) (by simp [h1])
  rw [h1] at hrun
  exact goal_pure h (u := .agg #[]) ⟨[], rfl, rfl⟩ (by simp only [execOp, ho, hv, Instr.loadAt, Instr.sureAddr, Sem.run_bind, Sem.run_pure, Result.andThen_ok, hrun]; rfl)
theorem g_load_pro (hT : TabOK P T) (h : Sim C s a w R E) {o : Oper} {L : TypeId} {x : Operand} (ho : o.op = .load L x) {z : Bool × CT} (hl : lookO L T.lay = some z) {u : CT} {v : Den u} {q : Nat} {src : Src} (hx : s.op x = .pro u v q src) (hlive : liveSrc s.st src = true)
    (h1 : (Nat.ble (q + z.2.sz) u.sz && (z.1 || Nat.beq z.2.sz 1)) = true) : Goal C P o s a w (unflat z.1 (((cells u v (fun _ => noPos src) 0).drop q).take z.2.sz)) [] := by
  simp only [Bool.and_eq_true] at h1
  have hle := Nat.le_of_ble_eq_true h1.1
  obtain ⟨h2, _, h3⟩ : RC w R s.st s.us E (.pro u v q src) (a.eval x) := by have := h.op x; rw [hx] at this; exact this
  obtain ⟨ad, ds, e, hr, hc, _⟩ := h3 hlive
  have hl2 := ((cells_rc (R := R) (E := E) (m := s.st) (us := s.us) (fun _ => noPos src) 0 (fun _ => ⟨by cases src <;> exact h2, fun b hb => by cases src <;> exact hb⟩) (fun _ _ _ => by cases src <;> trivial) hr).drop q).take z.2.sz
  have hlen : (((cells u v (fun _ => noPos src) 0).drop q).take z.2.sz).length = z.2.sz := by simp [cells_len]; omega
  have hrun := loadVar_run (P := P) (w := w) hT hl (ad := ad.add q) (cs := (ds.drop q).take z.2.sz) (by rw [hl2.len, hlen]) (hc.drop q z.2.sz) h1.2
  exact goal_pure h (load_rv hl2 hlen h1.2) (by simp [execOp, ho, e, Instr.loadAt, Instr.sureAddr, hrun])
theorem getD_lt {α : Type} (l : List α) (i : Nat) (d : α) (h : i < l.length) : l.getD i d = l[i] := by simp [List.getD, h]
/-- an element of an owned row -/
theorem Sim.elem (h : Sim C s a w R E) {n : Nat} {q : Root} (hq : s.st n = some (.root q)) (i : Nat) (hi : i < q.xs.length) :
    ∃ g cap cur c1 c c2 F1 G F2, E.V n = .slice (some ⟨g, 0, none⟩) q.xs.length cap ∧ w.heap[g]? = some (.cells cur q.e (0, 0)) ∧ cur.toList.take (q.xs.length * q.t.sz) = c1 ++ c ++ c2 ∧ c1.length = i * q.t.sz ∧ E.F n = g :: (F1 ++ G ++ F2) ∧
      q.xs.length ≤ cap ∧ cap ≤ maxLen ∧ cur.size = cap * q.t.sz ∧ Rp w R q.deep q.t q.xs[i] c G ∧
      (∀ (p : Den q.t → List Value → List Nat → Prop) y c' G', (∀ x c H, (∀ b, b ∈ H → b ∈ F1 ∨ b ∈ F2) → Rp w R q.deep q.t x c H → p x c H) → p y c' G' → All p (q.xs.set i y) (c1 ++ c' ++ c2) (F1 ++ G' ++ F2)) := by
  obtain ⟨_, _, ds, Fi, h1, h2, h3⟩ := h.root hq
  obtain ⟨c1, c, c2, F1, G, F2, e1, e2, e3, h4, h5⟩ := h3.focus (n := q.t.sz) (fun x c G hp => hp.len) i hi
  rcases h1.2 with ⟨_, h6⟩ | ⟨g, cap, cur, h6, _, h7, h8, h9, h10, h11⟩
  · omega
  · refine ⟨g, cap, cur, c1, c, c2, F1, G, F2, h6, h7, by rw [h11, e1], e3, ?_, h8, h9, h10, h4, h5⟩
    rw [h2, h6, e2]
    rfl
theorem g_load_pel (hT : TabOK P T) (h : Sim C s a w R E) {o : Oper} {L : TypeId} {x : Operand} (ho : o.op = .load L x) {z : Bool × CT} (hl : lookO L T.lay = some z) {n q : Nat} {i : Int} (hx : s.op x = .pel n i q) {r : Root} (hb : s.st n = some (.root r))
    (h1 : (Nat.ble (q + z.2.sz) r.t.sz && (z.1 || Nat.beq z.2.sz 1)) = true) : Goal C P o s a w (unflat z.1 (((cells r.t (r.xs.getD i.toNat r.t.z) (fun o => .inn n r.ver (some (i, o))) 0).drop q).take z.2.sz)) [] := by
  simp only [Bool.and_eq_true] at h1
  have hle := Nat.le_of_ble_eq_true h1.1
  obtain ⟨hu, h2, h3, g', h4, h5⟩ : RC w R s.st s.us E (.pel n i q) (a.eval x) := by have := h.op x; rw [hx] at this; exact this
  obtain ⟨hL, hS, _⟩ := h.root hb
  rw [hL] at h3
  obtain ⟨g, cap, cur, c1, c, c2, F1, G, F2, e1, e2, e3, e4, e5, e6, e7, e8, e9, _⟩ := h.elem hb i.toNat (by omega)
  rw [e1] at h4
  simp only [Value.ownBlock, Option.some.injEq] at h4
  subst h4
  have hr : Rp w (fun b => R b ∨ b ∈ E.F n) false r.t r.xs[i.toNat] c [] := e9.freeze (fun b hb => .inl hb) (fun b hb => .inr (by rw [e5]; simp [hb]))
  rw [getD_lt _ _ _ (by omega)]
  have hclen := e9.len
  have hc : Cells w ⟨g, i.toNat * r.t.sz, none⟩ c := by
    intro j u hu
    have hj : j < c.length := (List.getElem?_eq_some_iff.1 hu).1
    refine cells_heap e2 _ j u ?_
    rw [List.getElem?_drop]
    have h6 : (cur.toList.take (r.xs.length * r.t.sz))[i.toNat * r.t.sz + j]? = some u := by
      rw [e3, List.append_assoc, List.getElem?_append_right (by omega), e4, Nat.add_sub_cancel_left, List.getElem?_append_left hj]
      exact hu
    rw [List.getElem?_take] at h6
    split at h6
    · exact h6
    · cases h6
  have hpos : ∀ (j : Nat) (u : Value), c[j]? = some u → AtPos w R E (Src.inn n r.ver (some (i, 0 + j))) u := fun j u hj => by
    refine ⟨g, by rw [e1]; rfl, .inr (by rw [e5]; simp), h2, by rw [hL]; omega, ?_⟩
    have := hc j u hj
    have e : (⟨g, i.toNat * r.t.sz, none⟩ : Addr).add j = ⟨g, i.toNat * E.S n + (0 + j), none⟩ := by unfold Addr.add; split <;> simp_all
    rw [e] at this
    exact this
  have hl2 := ((cells_rc (R := R) (E := E) (m := s.st) (us := s.us) (fun o => .inn n r.ver (some (i, o))) 0 (fun _ => ⟨⟨hu, fun q' hq' => by rw [hb] at hq'; injection hq' with hq'; injection hq' with hq'; subst hq'; exact Nat.le_refl _⟩, fun b hb => hb⟩) hpos hr).drop q).take z.2.sz
  have hlen : (((cells r.t r.xs[i.toNat] (fun o => .inn n r.ver (some (i, o))) 0).drop q).take z.2.sz).length = z.2.sz := by simp [cells_len]; omega
  have hrun := loadVar_run (P := P) (w := w) hT hl (ad := ⟨g, i.toNat * E.S n + q, none⟩) (cs := (c.drop q).take z.2.sz) (by rw [hl2.len, hlen]) (by
    have := hc.drop q z.2.sz
    rw [hS]
    have e : (⟨g, i.toNat * r.t.sz, none⟩ : Addr).add q = ⟨g, i.toNat * r.t.sz + q, none⟩ := by unfold Addr.add; split <;> simp_all
    rwa [e] at this) h1.2
  exact goal_pure h (load_rv hl2 hlen h1.2) (by simp [execOp, ho, h5, Instr.loadAt, Instr.sureAddr, hrun])

theorem g_nilCheck (h : Sim C s a w R E) {o : Oper} {x : Operand} (ho : o.op = .nilCheck x) (hx : (∃ b q, s.op x = .pbox b q) ∨ (∃ n i q, s.op x = .pel n i q) ∨ (∃ t v q src, s.op x = .pro t v q src)) : Goal C P o s a w (s.op x) [] := by
  have hv := h.op x
  have hp : ∃ p : Addr, a.eval x = .pointer (some p) := by
    rcases hx with ⟨b, q, e⟩ | ⟨n, i, q, e⟩ | ⟨t, v, q, src, e⟩
    · rw [e] at hv; exact ⟨_, (show RC w R s.st s.us E (.pbox b q) (a.eval x) from hv).2⟩
    · rw [e] at hv; obtain ⟨_, _, _, g, _, h5⟩ : RC w R s.st s.us E (.pel n i q) (a.eval x) := hv; exact ⟨_, h5⟩
    · rw [e] at hv; obtain ⟨_, h5, _⟩ : RC w R s.st s.us E (.pro t v q src) (a.eval x) := hv; exact h5
  obtain ⟨p, hp⟩ := hp
  exact goal_pure h (u := a.eval x) (h.op x) (by simp [execOp, ho, hp])
theorem g_field (hT : TabOK P T) (h : Sim C s a w R E) {o : Oper} {S : TypeId} {x : Operand} {j : Nat} (ho : o.op = .field S x j) {y : Nat × Nat × Bool} (hf : ((lookO S T.fld).bind fun l => l[j]?) = some y) {l : List AV} (hx : s.op x = .agg l)
    (h1 : (Nat.ble (y.1 + y.2.1) l.length && (y.2.2 || Nat.beq y.2.1 1)) = true) : Goal C P o s a w (unflat y.2.2 ((l.drop y.1).take y.2.1)) [] := by
  simp only [Bool.and_eq_true] at h1
  have hle := Nat.le_of_ble_eq_true h1.1
  obtain ⟨vs, e, h2⟩ : RV1 w R s.st s.us E (.agg l) (a.eval x) := by have := h.op x; rw [hx] at this; exact this
  obtain ⟨fs, f, i, d, h3, h4, h5, h6, h7, h8, h9⟩ := hT.fld' hf
  have hl2 := (h2.drop y.1).take y.2.1
  have hlen : ((l.drop y.1).take y.2.1).length = y.2.1 := by simp; omega
  have hvl := h2.len
  refine goal_pure h (load_rv hl2 hlen h1.2) ?_
  have hagg : (isAgg f.type).run P w = .ok y.2.2 w := by
    rw [← h9]
    cases d <;> simp [isAgg, run_underlying h8, isAggD]
  have hex : (vs.toArray.extract y.1 (y.1 + y.2.1)) = ((vs.drop y.1).take y.2.1).toArray := by
    apply Array.ext'
    simp
  have hrun : (part f.type vs.toArray y.1).run P w = .ok (if y.2.2 = true then .agg ((vs.drop y.1).take y.2.1).toArray else ((vs.drop y.1).take y.2.1).headD undef) w := by
    unfold part
    simp only [Sem.run_bind, hagg, Result.andThen_ok]
    cases hy : y.2.2 with
    | true => simp [sizeOf, typeInfo, h6, h7]
    | false =>
      rw [hy] at h1
      simp only [Bool.false_or] at h1
      have hs := Nat.eq_of_beq_eq_true h1.2
      rw [hs] at hle
      have hlt : y.1 < vs.length := by omega
      rw [hs]
      simp [hlt]
      rw [List.drop_eq_getElem_cons hlt]
      rfl
  simp [execOp, ho, Instr.field, run_underlying h3, h4, h5, e, asAgg, hrun]
theorem g_extract (h : Sim C s a w R E) {o : Oper} {x : Operand} {i : Nat} (ho : o.op = .extract x i) {l : List AV} (hx : s.op x = .tup l) {y : AV} (hy : l[i]? = some y) : Goal C P o s a w y [] := by
  obtain ⟨vs, e, h2⟩ : RV w R s.st s.us E (.tup l) (a.eval x) := by have := h.op x; rw [hx] at this; exact this
  obtain ⟨v, hv, hr⟩ := h2.get i y hy
  refine goal_pure h (u := v) ?_ (by simp [execOp, ho, e, Instr.extract, hv])
  cases y <;> simp only [RV] <;> first | exact hr | exact absurd hr (by simp [RV1, RV0, RC])
end Go.Ev
