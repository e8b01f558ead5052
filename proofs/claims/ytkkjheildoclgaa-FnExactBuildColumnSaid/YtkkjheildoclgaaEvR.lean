/- A text of the claim: an evaluator of Go functions, and why it answers as they do. -/
import Derived.Test.YtkkjheildoclgaaEvQ
set_option linter.all false
set_option linter.unusedVariables false
set_option linter.unusedSimpArgs false
set_option autoImplicit false
set_option linter.unusedVariables false
namespace Go.Ev
variable {P : Program} {T : Tab} {C : Ctx} {s : St} {a : Act} {w : World} {R : Nat → Prop} {E : Env}

/-! struct literals -/
theorem TabOK.fldAll (h : TabOK P T) {S : Nat} {l : List (Nat × Nat × Bool)} (he : lookO S T.fld = some l) :
    ∃ fs : Array Field, P.underlying S = some (.struct fs) ∧ fs.toList.mapM (fun f => (P.info? f.type).map fun i => (f.offset, i.size)) = some (l.map fun y => (y.1, y.2.1)) := by
  have h1 := lookO_map _ _ S l T.fld h.fld he
  simp only at h1
  cases hu : P.underlying S with
  | none => rw [hu] at h1; simp at h1
  | some d =>
    rw [hu] at h1
    simp only [Option.bind_some] at h1
    cases d with
    | struct fs =>
      simp only [Option.some.injEq] at h1
      refine ⟨fs, rfl, ?_⟩
      generalize fs.toList = k at h1
      clear hu he
      induction k generalizing l with
      | nil =>
        cases l with
        | nil => rfl
        | cons y r => simp at h1
      | cons f k ih =>
        cases l with
        | nil => simp at h1
        | cons y r =>
          simp only [List.map_cons, List.cons.injEq, Prod.mk.injEq] at h1
          obtain ⟨⟨a1, a2, a3⟩, h2⟩ := h1
          rw [List.mapM_cons, ih h2]
          cases hi : P.info? f.type with
          | none => rw [hi] at a2; simp at a2
          | some i =>
            rw [hi] at a2
            simp only [Option.map_some, Option.some.injEq] at a2
            simp [a1, a2]
    | _ => simp at h1

theorem fillC_ok {m : Mem} {us : Nat → Bool} {fs : List (Nat × Nat × Bool)} : ∀ {ps : List (Nat × AV)} {cs cs' : List AV} {acc : Array Value} {vs : List (Nat × Value)}, fillC fs cs ps = some cs' → L2 (RC w R m us E) cs acc.toList → L2 (fun p q => p.1 = q.1 ∧ RV w R m us E p.2 q.2) ps vs →
    ∃ arr, Instr.fill (fun x => (fs.map fun y => (y.1, y.2.1)).toArray[x]?) acc vs = some arr ∧ L2 (RC w R m us E) cs' arr.toList
  | [], cs, cs', acc, vs, he, hl, hv => by
    rw [show vs = [] from hv]
    simp only [fillC, Option.some.injEq] at he
    subst he
    exact ⟨acc, rfl, hl⟩
  | (i, x) :: r, cs, cs', acc, vs, he, hl, ⟨⟨i', v⟩, vs', e, ⟨h1, h2⟩, h3⟩ => by
    subst e
    simp only at h1 h2
    subst h1
    unfold fillC at he
    cases hf : fs[i]? with
    | none => rw [hf] at he; simp at he
    | some y =>
      obtain ⟨off, n, b⟩ := y
      rw [hf] at he
      cases hfl : flat x with
      | none => rw [hfl] at he; simp at he
      | some l =>
        rw [hfl] at he
        simp only at he
        cases hc : (Nat.beq l.length n && Nat.ble (off + n) cs.length) with
        | false => rw [hc] at he; simp at he
        | true =>
          rw [hc] at he
          simp only [cond_true] at he
          simp only [Bool.and_eq_true] at hc
          have e1 := Nat.eq_of_beq_eq_true hc.1
          have e2 := Nat.le_of_ble_eq_true hc.2
          have hrc := flat_rc hfl h2
          have hlen := hrc.len
          have hl2 := hl.len
          rw [Array.length_toList] at hlen hl2
          have h4 := fill_one acc v off (by omega)
          obtain ⟨arr, h5, h6⟩ := fillC_ok (acc := v.cells.zipIdx.foldl (fun cs (x : Value × Nat) => cs.setIfInBounds (off + x.2) x.1) acc) he (by
            rw [h4]
            have := hl.splice hrc off
            unfold splice
            rw [← Array.length_toList (xs := v.cells)]
            exact this) h3
          refine ⟨arr, ?_, h6⟩
          unfold Instr.fill
          have : ¬ (v.cells.size ≠ n || off + v.cells.size > acc.size) = true := by
            simp
            omega
          have hpl : (fs.map fun y => (y.1, y.2.1)).toArray[i]? = some (off, n) := by simp [hf]
          simp only [hpl, this]
          exact h5

theorem zip_l2 {α β γ : Type} {p : α → β → Prop} : ∀ (is : List γ) {xs : List α} {vs : List β}, L2 p xs vs → L2 (fun (u : γ × α) (v : γ × β) => u.1 = v.1 ∧ p u.2 v.2) (is.zip xs) (is.zip vs)
  | [], _, _, _ => by simp [L2]
  | _ :: _, [], _, e => by rw [show _ = [] from e]; simp [L2]
  | i :: is, x :: r, _, ⟨y, l', e, h1, h2⟩ => by rw [e]; exact ⟨_, _, rfl, ⟨rfl, h1⟩, zip_l2 is h2⟩

theorem g_build (hT : TabOK P T) (h : Sim C s a w R E) {o : Oper} {S : TypeId} {ps : Array (Nat × Operand)} (ho : o.op = .build S ps) {z : Bool × CT} (hl : lookO S T.lay = some z) {fs : List (Nat × Nat × Bool)} (hf : lookO S T.fld = some fs)
    {cs : List AV} (hc : fillC fs (zcells z.2) ((ps.toList.map (·.1)).zip ((ps.toList.map (·.2)).map s.op)) = some cs) : Goal C P o s a w (.agg cs) [] := by
  obtain ⟨⟨i, zz, hi, his, hz, hzc⟩, _⟩ := hT.lay' hl
  obtain ⟨fs', hu, hp⟩ := hT.fldAll hf
  have hev := zip_l2 (ps.toList.map (·.1)) (evals_rv h (ps.toList.map (·.2)))
  obtain ⟨arr, h1, h2⟩ := fillC_ok (acc := zz.cells) hc (by rw [hzc]; exact zcells_rc _) hev
  have hz2 : (ps.toList.map (·.1)).zip ((ps.toList.map (·.2)).map a.eval) = (ps.map fun (i, x) => (i, a.eval x)).toList := by
    rw [Array.toList_map]
    have : ∀ l : List (Nat × Operand), (l.map (·.1)).zip ((l.map (·.2)).map a.eval) = l.map (fun (i, x) => (i, a.eval x)) := by
      intro l
      induction l with
      | nil => rfl
      | cons x r ih => simp only [List.map_cons, List.zip_cons_cons, ih]
    exact this _
  rw [hz2] at h1
  have hrun := run_build (P := P) w S (ps.map fun (i, x) => (i, a.eval x)) arr (by
    unfold Program.built
    simp only [hi, hu, hz, hp]
    exact h1)
  refine goal_pure h (u := .agg arr) ⟨arr.toList, by simp, h2⟩ (by simp [execOp, ho, hrun])
end Go.Ev
