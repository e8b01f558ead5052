/- A text of the claim: an evaluator of Go functions, and why it answers as they do. -/
import Derived.Test.YtkkjheildoclgaaEvI
set_option linter.all false
set_option linter.unusedVariables false
set_option linter.unusedSimpArgs false
set_option autoImplicit false
set_option linter.unusedVariables false
namespace Go.Ev
variable {P : Program} {T : Tab} {C : Ctx} {s : St} {a : Act} {w : World} {R : Nat → Prop} {E : Env}

/-! ### rows: indexing, cutting, making -/
theorem szOk_run (hT : TabOK P T) {e : TypeId} {t : CT} (h : szOk T e t = true) : ∃ i z u, P.info? e = some i ∧ i.size = t.sz ∧ i.zero = some z ∧ z.cells.toList = zv u ∧ u.sz = t.sz := by
  unfold szOk at h
  cases hl : lookO e T.lay with
  | none => rw [hl] at h; simp at h
  | some z =>
    rw [hl] at h
    obtain ⟨⟨i, zz, hi, hsz, hz, hzc⟩, _⟩ := hT.lay' hl
    have := Nat.eq_of_beq_eq_true h
    exact ⟨i, zz, z.2, hi, by rw [hsz]; exact this, hz, hzc, this⟩
theorem elOk_run (hT : TabOK P T) {S : TypeId} {t : CT} (h : elOk T S t = true) : 0 < t.sz ∧ ∃ e i, P.underlying S = some (.slice e) ∧ P.info? e = some i ∧ i.size = t.sz := by
  unfold elOk at h
  cases he : lookO S T.elem with
  | none => rw [he] at h; simp at h
  | some e =>
    rw [he] at h
    simp only [Bool.and_eq_true] at h
    obtain ⟨i, _, _, h1, h2, _⟩ := szOk_run hT h.1
    exact ⟨by have := h.2; rw [Nat.blt_eq] at this; exact this, e, i, hT.elem' he, h1, h2⟩
theorem g_index_sl (hT : TabOK P T) (h : Sim C s a w R E) {o : Oper} {S : TypeId} {x j : Operand} (ho : o.op = .indexAddr S x j) {e : TypeId} {t : CT} {xs : List (Den t)} {src : Src} (hx : s.op x = .sl e t xs src) {k : IntKind} {i : Int} (hj : s.op j = .int k i)
    (hlive : liveSrc s.st src = true) (hel : elOk T S t = true) (h0 : 0 ≤ i) (h1 : i < (xs.length : Int)) : Goal C P o s a w (.pro t (xs.getD i.toNat t.z) 0 src) [] := by
  have hjv := h.op j
  rw [hj] at hjv
  obtain ⟨hu, _, hr, _⟩ : RC w R s.st s.us E (.sl e t xs src) (a.eval x) := by have := h.op x; rw [hx] at this; exact this
  obtain ⟨A, c, ds, hv, hc, hall, hd⟩ := rowAt_of (hr hlive)
  obtain ⟨h0s, e', ti, hS, hi, hsz⟩ := elOk_run hT hel
  have hlt : i.toNat < xs.length := by omega
  have hdl := hall.len (n := t.sz) (fun x c G hp => hp.len)
  have hdne : ds ≠ [] := by
    intro hn
    rw [hn] at hdl
    have := Nat.mul_pos (show 0 < xs.length by omega) h0s
    simp at hdl
    omega
  obtain ⟨ad, rfl, hb, hcs⟩ := hd hdne
  obtain ⟨c1, c0, c2, F1, G, F2, e1, e2, e3, h4, _⟩ := hall.focus (n := t.sz) (fun x c G hp => hp.len) i.toNat hlt
  have hG := h4.noF
  subst hG
  rw [getD_lt _ _ _ hlt]
  refine goal_pure h (u := .pointer (some (ad.add (i.toNat * t.sz)))) ⟨hu, ⟨_, rfl⟩, fun hl => ?_⟩ ?_
  · refine ⟨ad.add (i.toNat * t.sz), c0, by rw [add_add', Nat.add_zero], h4, ?_, fun _ => ?_⟩
    · have := hcs.drop (i.toNat * t.sz) t.sz
      rw [e1, List.append_assoc, ← e3, List.drop_left] at this
      rw [← e3]
      have hl := h4.len
      rwa [← hl, List.take_left] at this
    · have : (ad.add (i.toNat * t.sz)).block = ad.block := by unfold Addr.add; split <;> rfl
      rw [this]
      exact hb
  · simp [execOp, ho, hv, rv_int hjv, Instr.indexAt, asIntOf, run_underlying hS, h0, h1, sizeOf, typeInfo, hi, hsz]
theorem g_index_ref (hT : TabOK P T) (h : Sim C s a w R E) {o : Oper} {S : TypeId} {x j : Operand} (ho : o.op = .indexAddr S x j) {n : Nat} {r : Root} (hx : s.op x = .ref n) (hr : s.st n = some (.root r)) {k : IntKind} {i : Int} (hj : s.op j = .int k i)
    (hel : elOk T S r.t = true) (h0 : 0 ≤ i) (h1 : i < (r.xs.length : Int)) : Goal C P o s a w (.pel n i 0) [] := by
  have hjv := h.op j
  rw [hj] at hjv
  obtain ⟨hu, hv, _⟩ : RC w R s.st s.us E (.ref n) (a.eval x) := by have := h.op x; rw [hx] at this; exact this
  obtain ⟨h0s, e', ti, hS, hi, hsz⟩ := elOk_run hT hel
  obtain ⟨hL, hSz, _⟩ := h.root hr
  obtain ⟨g, cap, cur, c1, c, c2, F1, G, F2, e1, _⟩ := h.elem hr i.toNat (by omega)
  rw [e1] at hv
  refine goal_pure h (u := .pointer (some ⟨g, i.toNat * r.t.sz, none⟩)) ⟨hu, h0, by rw [hL]; exact h1, g, by rw [e1]; rfl, by rw [hSz, Nat.add_zero]⟩ ?_
  have e : (⟨g, 0, none⟩ : Addr).add (i.toNat * r.t.sz) = ⟨g, i.toNat * r.t.sz, none⟩ := by unfold Addr.add; split <;> simp_all
  simp [execOp, ho, hv, rv_int hjv, Instr.indexAt, asIntOf, run_underlying hS, h0, h1, sizeOf, typeInfo, hi, hsz, e]

/-- a cut of a row -/
theorem slice_run {S e : TypeId} {ti : TypeInfo} (hS : P.underlying S = some (.slice e)) (hi : P.info? e = some ti) {A : Option Addr} {n c : Nat} (hnc : n ≤ c) {lo hi' : Option Value} {l m : Nat} (hlo : (lo = none ∧ l = 0) ∨ ∃ k, lo = some (.int k (l : Int))) (hhi : (hi' = none ∧ m = n) ∨ ∃ k, hi' = some (.int k (m : Int))) (hlm : l ≤ m) (hmn : m ≤ n) :
    (Instr.sliceAt S (.slice A n c) lo hi' none).run P w = .ok (.slice (if c = l then A else A.map (·.add (l * ti.size))) (m - l) (c - l)) w := by
  have hb : (Instr.sliceBounds true n c lo hi' none).run P w = .ok (l, m, c) w := by
    rcases hlo with ⟨rfl, rfl⟩ | ⟨k, rfl⟩ <;> rcases hhi with ⟨rfl, rfl⟩ | ⟨k', rfl⟩
    · simp [Instr.sliceBounds]
    · simp [Instr.sliceBounds, Instr.sliceBound, asIntOf, show m ≤ c by omega]
    · simp [Instr.sliceBounds, Instr.sliceBound, asIntOf, hlm]
    · simp [Instr.sliceBounds, Instr.sliceBound, asIntOf, hlm, show m ≤ c by omega]
  simp [Instr.sliceAt, run_underlying hS, Instr.slice, hb, sizeOf, typeInfo, hi]
theorem All.cut {w : World} {R : Nat → Prop} {t : CT} : ∀ {xs : List (Den t)} {ds : List Value} (l m : Nat), All (Rp w R false t) xs ds [] → All (Rp w R false t) ((xs.take m).drop l) ((ds.take (m * t.sz)).drop (l * t.sz)) []
  | [], ds, l, m, h => by rw [h.1]; simp [All]
  | x :: r, ds, l, 0, h => by simp [All]
  | x :: r, ds, 0, m + 1, ⟨c1, c2, F1, F2, e1, e2, h1, h2⟩ => by
    have f1 := h1.noF
    subst f1
    have f2 : F2 = [] := by simpa using e2.symm
    subst f2
    have hl := h1.len
    have ih := All.cut 0 m h2
    refine ⟨c1, (c2.take (m * t.sz)), [], [], ?_, rfl, h1, by simpa using ih⟩
    rw [e1, Nat.zero_mul, List.drop_zero, List.take_append, hl, Nat.succ_mul, Nat.add_sub_cancel, List.take_of_length_le (by rw [hl]; omega)]
  | x :: r, ds, l + 1, m + 1, ⟨c1, c2, F1, F2, e1, e2, h1, h2⟩ => by
    have f1 := h1.noF
    subst f1
    have f2 : F2 = [] := by simpa using e2.symm
    subst f2
    have hl := h1.len
    have ih := All.cut l m h2
    have e : (ds.take ((m + 1) * t.sz)).drop ((l + 1) * t.sz) = (c2.take (m * t.sz)).drop (l * t.sz) := by
      rw [e1, Nat.succ_mul m, Nat.succ_mul l, List.take_append, hl, Nat.add_sub_cancel, List.take_of_length_le (by rw [hl]; omega), List.drop_append, hl, Nat.add_sub_cancel, List.drop_of_length_le (by rw [hl]; omega)]
      rfl
    rw [e]
    simpa using ih
theorem rowAt_cut {R' : Nat → Prop} {t : CT} {xs : List (Den t)} {A : Option Addr} {c : Nat} (h : RowAt w R' t xs (.slice A xs.length c)) (e : TypeId) (l m : Nat) (hlm : l ≤ m) (hmn : m ≤ xs.length) :
    Rp w R' false (.sl e t) ((xs.take m).drop l) [.slice (if c = l then A else A.map (·.add (l * t.sz))) (m - l) (c - l)] [] := by
  obtain ⟨A', c', ds, hv, hc, hall, hd⟩ := h
  simp only [Value.slice.injEq, true_and] at hv
  obtain ⟨rfl, rfl⟩ := hv
  have hlen : ((xs.take m).drop l).length = m - l := by simp; omega
  refine ⟨_, _, _, by rw [hlen], rfl, by rw [hlen]; omega, hall.cut l m, fun hne => ?_⟩
  have hdl := hall.len (n := t.sz) (fun x c G hp => hp.len)
  obtain ⟨ad, rfl, hb, hcs⟩ := hd (fun hn => hne (by rw [hn]; simp))
  have hcl : c ≠ l := by
    intro hcl
    have h1 : l = m := by omega
    subst h1
    exact hne (by rw [List.drop_of_length_le (by simp; omega)])
  refine ⟨ad.add (l * t.sz), by simp [hcl], ?_, ?_⟩
  · have : (ad.add (l * t.sz)).block = ad.block := by unfold Addr.add; split <;> rfl
    rw [this]; exact hb
  · have := hcs.drop (l * t.sz) (m * t.sz - l * t.sz)
    rwa [List.drop_take]
/-- the source that a cut of x has -/
theorem g_slice (hT : TabOK P T) (h : Sim C s a w R E) {m : Mem} (hm : Sub m s.st) {o : Oper} {S : TypeId} {x : Operand} {lo hi : Option Operand} (ho : o.op = .slice S x lo hi none) {r : Row} (hr : rowOf m (s.op x) = some r) (hel : elOk T S r.t = true) {l u : Int}
    (hlo : (lo = none ∧ l = 0) ∨ ∃ z k, lo = some z ∧ s.op z = .int k l) (hhi : (hi = none ∧ u = (r.xs.length : Int)) ∨ ∃ z k, hi = some z ∧ s.op z = .int k u) (h0 : 0 ≤ l) (hlu : l ≤ u) (hu : u ≤ (r.xs.length : Int)) :
    Goal C P o s a w (.sl r.e r.t ((r.xs.take u.toNat).drop l.toNat) (cutSrc m (s.op x))) [] := by
  obtain ⟨_, e', ti, hS, hi', hsz⟩ := elOk_run hT hel
  have hv := h.op x
  have key : ∃ A c, a.eval x = .slice A r.xs.length c ∧ r.xs.length ≤ c ∧ usedSrc s.st s.us (cutSrc m (s.op x)) ∧ RowAt w (RS R E (cutSrc m (s.op x))) r.t r.xs (.slice A r.xs.length c) := by
    cases hx : s.op x with
    | sl e t xs src =>
      rw [hx] at hv hr
      obtain ⟨h1, _, h2⟩ : RC w R s.st s.us E (.sl e t xs src) (a.eval x) := hv
      cases src with
      | imm =>
        simp only [Ev.rowOf, Option.some.injEq] at hr
        subst hr
        obtain ⟨A, c, ds, e1, e2, e3, e4⟩ := rowAt_of (h2.1 rfl)
        exact ⟨A, c, e1, e2, trivial, A, c, ds, rfl, e2, e3, e4⟩
      | inn n ver pos =>
        simp only [Ev.rowOf] at hr
        cases hmn : m n with
        | none => rw [hmn] at hr; simp at hr
        | some en =>
          rw [hmn] at hr
          cases en with
          | box cs | mp es | zb ze => simp at hr
          | root q =>
            simp only at hr
            by_cases hver : Nat.beq q.ver ver = true
            · rw [hver] at hr
              simp only [cond_true, Option.some.injEq] at hr
              subst hr
              have hl : liveSrc m (.inn n ver pos) = true := by
                show (match m n with | some (.root q) => Nat.beq q.ver ver | _ => false) = true
                rw [hmn]; exact hver
              obtain ⟨A, c, ds, e1, e2, e3, e4⟩ := rowAt_of (h2.1 (hm.live hl))
              exact ⟨A, c, e1, e2, h1, A, c, ds, rfl, e2, e3, e4⟩
            · simp only [Bool.not_eq_true] at hver
              rw [hver] at hr
              simp at hr
    | ref n =>
      rw [hx] at hv hr
      obtain ⟨h1, h2, _⟩ : RC w R s.st s.us E (.ref n) (a.eval x) := hv
      simp only [Ev.rowOf] at hr
      cases hmn : m n with
      | none => rw [hmn] at hr; simp at hr
      | some en =>
        rw [hmn] at hr
        cases en with
        | box cs | mp es | zb ze => simp at hr
        | root q =>
          simp only [Option.some.injEq] at hr
          subst hr
          have hq := hm n _ hmn
          obtain ⟨A, c, ds, e1, e2, e3, e4⟩ := h.rootRow hq
          rw [h2]
          refine ⟨A, c, e1, e2, ?_, A, c, ds, rfl, e2, ?_, ?_⟩
          · simp only [cutSrc, hmn]
            exact ⟨h1, fun q' hq' => by rw [hq] at hq'; injection hq' with hq'; injection hq' with hq'; subst hq'; exact Nat.le_refl _⟩
          · simp only [cutSrc, hmn]
            exact e3
          · simp only [cutSrc, hmn]
            exact e4
    | _ => rw [hx] at hr; simp [Ev.rowOf] at hr
  obtain ⟨A, c, e1, e2, e3, e4⟩ := key
  have hlo' : (lo.map a.eval = none ∧ l.toNat = 0) ∨ ∃ k, lo.map a.eval = some (.int k (l.toNat : Int)) := by
    rcases hlo with ⟨rfl, rfl⟩ | ⟨z, k, rfl, hz⟩
    · exact .inl ⟨rfl, rfl⟩
    · have := h.op z
      rw [hz] at this
      exact .inr ⟨k, by simp [rv_int this, Int.toNat_of_nonneg h0]⟩
  have hhi' : (hi.map a.eval = none ∧ u.toNat = r.xs.length) ∨ ∃ k, hi.map a.eval = some (.int k (u.toNat : Int)) := by
    rcases hhi with ⟨rfl, rfl⟩ | ⟨z, k, rfl, hz⟩
    · exact .inl ⟨rfl, by simp⟩
    · have := h.op z
      rw [hz] at this
      exact .inr ⟨k, by simp [rv_int this, Int.toNat_of_nonneg (show 0 ≤ u by omega)]⟩
  have hrun := slice_run (P := P) (w := w) hS hi' (A := A) e2 hlo' hhi' (show l.toNat ≤ u.toNat by omega) (show u.toNat ≤ r.xs.length by omega)
  refine goal_pure h (u := .slice (if c = l.toNat then A else A.map (·.add (l.toNat * ti.size))) (u.toNat - l.toNat) (c - l.toNat)) (And.intro e3 (And.intro ⟨_, _, _, rfl⟩ (And.intro (fun _ => ?_) (fun _ => ?_)))) (by simp [execOp, ho, e1, hrun])
  · rw [hsz]
    exact rowAt_cut e4 r.e l.toNat u.toNat (by omega) (by omega)
  · cases hx : s.op x with
    | sl e t xs src => cases src <;> trivial
    | ref n =>
      unfold cutSrc
      dsimp only
      split <;> trivial
    | _ => trivial
end Go.Ev
