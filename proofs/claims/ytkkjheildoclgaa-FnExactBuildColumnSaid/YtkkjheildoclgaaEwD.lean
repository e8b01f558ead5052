/- A text of the claim: an evaluator of Go functions, and why it answers as they do. -/
import Derived.Test.YtkkjheildoclgaaEwC
set_option linter.all false
set_option linter.unusedVariables false
set_option linter.unusedSimpArgs false
set_option autoImplicit false
set_option linter.unusedVariables false
namespace Go.Ev
variable {P : Program} {T : Tab} {O : Orc} {C : Ctx} {s : St} {a : Act} {w : World} {R : Nat → Prop} {E : Env} {Q : Exit → Act → World → Prop}

theorem resV_ok (hT : TabOK P T) (h : Sim C s a w R E) {x : ResultVar} {v : AV} (he : resV T s x = some v) :
    ∃ u, (match x with
      | ResultVar.tmp t => pure (a.tmps.getD t undef)
      | ResultVar.cell p t => do loadVar t (← asAddr (a.tmps.getD p undef)) : Sem Value).run P w = .ok u w ∧ RV w R s.st s.us E v u := by
  cases x with
  | tmp t =>
    simp only [resV, Option.some.injEq] at he
    subst he
    exact ⟨_, rfl, h.tm t⟩
  | cell p L =>
    simp only [resV] at he
    split at he
    · rename_i isAgg t b hl hp
      split at he
      · rename_i cs hb
        obtain ⟨hc, he⟩ := bif_some he
        simp only [Option.some.injEq] at he
        subst he
        rw [Bool.and_eq_true] at hc
        have hv := h.tm p
        rw [hp] at hv
        obtain ⟨h2, h3⟩ : RC w R s.st s.us E (.pbox b 0) (a.tmps.getD p undef) := hv
        obtain ⟨_, arr, Ty, hg, hrc⟩ := h.box hb
        have hlen := Nat.eq_of_beq_eq_true hc.1
        have hrun := loadVar_run (P := P) (w := w) hT hl (ad := ⟨E.B b, 0, none⟩) (cs := arr.toList) (by rw [hrc.len]; exact hlen.symm) (by simpa using cells_heap hg 0) hc.2
        exact ⟨_, by dsimp only; rw [h3]; simp only [asAddr, Sem.run_bind, Sem.run_pure, Result.andThen_ok]; exact hrun, load_rv hrc hlen.symm hc.2⟩
      · cases he
    · cases he
theorem resVs_ok (hT : TabOK P T) (h : Sim C s a w R E) : ∀ {l : List ResultVar} {vs : List AV}, resVs T s l = some vs → ∃ us, (l.mapM (fun x => (match x with
      | ResultVar.tmp t => pure (a.tmps.getD t undef)
      | ResultVar.cell p t => do loadVar t (← asAddr (a.tmps.getD p undef)) : Sem Value))).run P w = .ok us w ∧ L2 (RV w R s.st s.us E) vs us
  | [], vs, he => by
    simp only [resVs, Option.some.injEq] at he
    subst he
    exact ⟨[], rfl, rfl⟩
  | x :: r, vs, he => by
    simp only [resVs] at he
    cases hx : resV T s x with
    | none => rw [hx] at he; simp at he
    | some v =>
      rw [hx] at he
      simp only at he
      cases hr : resVs T s r with
      | none => rw [hr] at he; simp at he
      | some l =>
        rw [hr] at he
        simp only [Option.some.injEq] at he
        subst he
        obtain ⟨u, h1, h2⟩ := resV_ok hT h hx
        obtain ⟨us, h3, h4⟩ := resVs_ok hT h hr
        refine ⟨u :: us, ?_, u, us, rfl, h2, h4⟩
        rw [List.mapM_cons]
        simp only [Sem.run_bind, h1, h3, Result.andThen_ok, Sem.run_pure]
theorem results_run (hT : TabOK P T) (h : Sim C s a w R E) {f : Func} {vs : List AV} (he : resVs T s f.results.toList = some vs) :
    ∃ us : List Value, (results f a.tmps).run P w = .ok (if h : us.toArray.size = 1 then us.toArray[0] else .tuple us.toArray) w ∧ L2 (RV w R s.st s.us E) vs us := by
  obtain ⟨us, h1, h2⟩ := resVs_ok hT h he
  refine ⟨us, ?_, h2⟩
  unfold results
  rw [Array.mapM_eq_mapM_toList]
  simp only [Sem.run_bind, Sem.run_map, Sem.run_pure]
  exact congrArg (fun r => (Result.andThen (Result.andThen r fun a w' => Result.ok a.toArray w') fun (a : Array Value) w' => Result.ok (if h : a.size = 1 then a[0] else Value.tuple a) w')) h1

theorem slots_l2 (h : Sim C s a w R E) (sl : List Nat) : L2 (RV w R s.st s.us E) (sl.map s.tm) (sl.map fun t => a.tmps.getD t undef) := by
  induction sl with
  | nil => rfl
  | cons n r ih => exact ⟨_, _, rfl, h.tm n, ih⟩
theorem exR_ok (h : Sim C s a w R E) {f : Fm} {ys : List AV} {us : List Value} (hu : L2 (RV w R s.st s.us E) ys us) {x : DenF f} {l : List Nat} (he : exR s.st f ys = some (x, l)) (hd : l.Nodup) :
    ∃ F, Took w R s.us E l F fun R' => RepR w R' f x (if h : us.toArray.size = 1 then us.toArray[0] else .tuple us.toArray) F := by
  have one : ∀ {f : Fm} {x : DenF f}, (∀ g, f ≠ .tup g) → exR s.st f ys = some (x, l) → ∃ n, ys = [n] ∧ exV s.st f n = some (x, l) := by
    intro f x hf he
    match ys, he with
    | [], he => cases f <;> first | exact absurd rfl (hf _) | (simp [exR] at he)
    | [n], he => cases f <;> first | exact absurd rfl (hf _) | exact ⟨n, rfl, he⟩
    | _ :: _ :: _, he => cases f <;> first | exact absurd rfl (hf _) | (simp [exR] at he)
  cases f with
  | tup f =>
    simp only [exR] at he
    cases hc : Nat.beq ys.length 1 with
    | true => rw [hc] at he; cases he
    | false =>
      rw [hc] at he
      have hne : ¬ us.toArray.size = 1 := fun hc' => by
        have := hu.len
        simp only [List.size_toArray] at hc'
        rw [this] at hc'
        rw [hc'] at hc
        cases hc
      rw [dif_neg hne]
      obtain ⟨F, u, a1, a2, a3⟩ := exVs_ok h hu he hd
      exact ⟨F, u, a1, a2, fun R' hR hF => ⟨_, rfl, a3 R' hR hF⟩⟩
  | _ =>
    obtain ⟨n, rfl, hv⟩ := one (by simp) he
    obtain ⟨v, r, e, h1, h2⟩ := hu
    have h2' : r = [] := h2
    subst h2'
    subst e
    obtain ⟨F, u, a1, a2, a3⟩ := exV_ok h (RV.v1 (exV_v1 hv) h1) hv hd
    exact ⟨F, u, a1, a2, fun R' hR hF => a3 R' hR hF⟩

def Fm.len : Fm → Nat
  | .cons _ b => b.len + 1
  | _ => 0
theorem RepVs.len : ∀ {f : Fm} {x : DenF f} {vs : List Value} {F : List Nat}, RepVs w R f x vs F → vs.length = f.len
  | .nil, _, _, _, h => by rw [h.1]; rfl
  | .cons _ _, _, _, _, ⟨v, r, F1, F2, e1, e2, h1, h2⟩ => by rw [e1, List.length_cons, h2.len]; rfl
  | .int _, _, _, _, h | .bool, _, _, _, h | .str, _, _, _, h | .sl _ _, _, _, _, h | .own _ _ _, _, _, _, h | .pin _ _ _ _, _, _, _, h | .box _, _, _, _, h | .agg _, _, _, _, h | .tup _, _, _, _, h => h.elim
theorem inVs_len : ∀ {sl : List Nat} {f : Fm} {s s' : St} {x : DenF f}, inVs s sl f x = some s' → sl.length = f.len := by
  intro sl
  induction sl with
  | nil => intro f s s' x h; cases f <;> simp [inVs] at h; rfl
  | cons n r ih =>
    intro f s s' x h
    cases f with
    | cons f1 f2 =>
      simp only [inVs] at h
      obtain ⟨_, h⟩ := bif_some h
      rw [List.length_cons, ih h]
      rfl
    | _ => simp [inVs] at h

theorem exBC_ok (h : Sim C s a w R E) {f : Fm} {y : AV} {v : Value} (hv : (∃ k e t d, f = .pin k e t d) → RC w R s.st s.us E y v) {x : DenB f} {l : List Nat} (he : exBC s.st f y = some (x, l)) :
    ∃ F, Took w R s.us E l F fun R' => RepBC w R' f x v F := by
  have pl : ∀ {f : Fm} {x : DenB f}, (∀ k e t d, f ≠ .pin k e t d) → exBC s.st f y = some (x, l) → l = [] := by
    intro f x hf he
    cases f <;> first
      | exact absurd rfl (hf _ _ _ _)
      | (simp only [exBC] at he
         split at he
         · simp only [Option.some.injEq, Prod.mk.injEq] at he; exact he.2.symm
         · cases he)
  cases f with
  | pin k e t d =>
    have he' : exCell s.st (.own e t d) y = some (x, l) := he
    obtain ⟨F, t⟩ := exCell_ok h (hv ⟨k, e, t, d, rfl⟩).rv1 he'
    exact ⟨F, t⟩
  | _ =>
    have := pl (by simp) he
    subst this
    exact ⟨[], Took.none fun R' _ => rfl⟩
theorem exBCs_ok (h : Sim C s a w R E) : ∀ {f : Fm} {ys : List AV} {vs : List Value}, L2 (RC w R s.st s.us E) ys vs → ∀ {x : DenB f} {l : List Nat}, exBCs s.st f ys = some (x, l) → l.Nodup →
    ∃ F, Took w R s.us E l F fun R' => RepBCs w R' f x vs F := by
  intro f
  induction f with
  | nil =>
    intro ys vs hl x l he hd
    cases ys with
    | nil =>
      simp only [exBCs, Option.some.injEq, Prod.mk.injEq] at he
      obtain ⟨_, rfl⟩ := he
      rw [show vs = [] from hl]
      exact ⟨[], Took.none fun R' _ => ⟨rfl, rfl⟩⟩
    | cons y r => simp [exBCs] at he
  | cons f1 f2 _ ih =>
    intro ys vs hl x l he hd
    cases ys with
    | nil => simp [exBCs] at he
    | cons y r =>
      obtain ⟨v, vs', e, h1, h2⟩ := hl
      simp only [exBCs] at he
      cases hp : exBC s.st f1 y with
      | none => rw [hp] at he; simp at he
      | some q =>
        obtain ⟨x1, l1⟩ := q
        rw [hp] at he
        simp only at he
        cases hq : exBCs s.st f2 r with
        | none => rw [hq] at he; simp at he
        | some q2 =>
          obtain ⟨x2, l2⟩ := q2
          rw [hq] at he
          simp only [Option.some.injEq, Prod.mk.injEq] at he
          obtain ⟨rfl, rfl⟩ := he
          obtain ⟨F1, t1⟩ := exBC_ok h (fun _ => h1) hp
          obtain ⟨F2, t2⟩ := ih h2 hq (List.nodup_append.1 hd).2.1
          exact ⟨F1 ++ F2, t1.app h t2 hd fun R' a1 a2 => ⟨v, vs', F1, F2, e, rfl, a1, a2⟩⟩
  | _ => intro ys vs hl x l he; cases ys <;> simp [exBCs] at he
theorem RV.rc_of {w : World} {R : Nat → Prop} {m : Mem} {us : Nat → Bool} {E : Env} {y : AV} {v : Value} (h : RV w R m us E y v) (hy : ∀ l, y ≠ .agg l) (hy2 : okV0 y = true) : RC w R m us E y v := by
  cases y with
  | agg cs => exact absurd rfl (hy cs)
  | tup l => simp [okV0] at hy2
  | clo f l => simp [okV0] at hy2
  | ifc f l => simp [okV0] at hy2
  | _ => exact h
theorem exBV_ok (h : Sim C s a w R E) {f : Fm} {y : AV} {v : Value} (hv : RV w R s.st s.us E y v) {x : DenB f} {l : List Nat} (he : exBV s.st f y = some (x, l)) (hd : l.Nodup) :
    ∃ F, Took w R s.us E l F fun R' => RepBV w R' f x v F := by
  cases f with
  | agg f =>
    simp only [exBV] at he
    cases hp : f.hasPin with
    | true =>
      rw [hp] at he
      simp only [cond_true] at he
      cases y with
      | agg cs =>
        obtain ⟨vs, e, h1⟩ := hv
        obtain ⟨F, u, a1, a2, a3⟩ := exBCs_ok h h1 he hd
        exact ⟨F, u, a1, a2, fun R' hR hF => by simp only [RepBV, hp, if_true]; exact ⟨vs, e, a3 R' hR hF⟩⟩
      | _ => simp at he
    | false =>
      rw [hp] at he
      simp only [cond_false] at he
      split at he
      · simp only [Option.some.injEq, Prod.mk.injEq] at he
        obtain ⟨_, rfl⟩ := he
        exact ⟨[], Took.none fun R' _ => by simp [RepBV, hp]⟩
      · cases he
  | pin k e t d =>
    have he2 : exCell s.st (.own e t d) y = some (x, l) := he
    have hy : RC w R s.st s.us E y v := by
      refine hv.rc_of (fun l' e' => ?_) ?_
      · subst e'; simp [exCell] at he2
      · cases y <;> first | rfl | simp [exCell] at he2
    have he3 : exBC s.st (.pin k e t d) y = some (x, l) := he
    obtain ⟨F, u, a1, a2, a3⟩ := exBC_ok h (fun _ => hy) he3
    exact ⟨F, u, a1, a2, fun R' hR hF => a3 R' hR hF⟩
  | bx f =>
    have he2 : exV0 s.st (.box f) y = some (x, l) := he
    obtain ⟨F, u, a1, a2, a3⟩ := exV0_ok h ((RV.v0 (exV0_v0 he2) hv)) he2 hd
    exact ⟨F, u, a1, a2, fun R' hR hF => a3 R' hR hF⟩
  | _ =>
    simp only [exBV] at he
    obtain ⟨F, u, a1, a2, a3⟩ := exBC_ok (v := v) h (fun ⟨k, e, t, d, hc⟩ => by cases hc) he
    exact ⟨F, u, a1, a2, fun R' hR hF => by simp only [RepBV]; exact a3 R' hR hF⟩
theorem exBVs_ok (h : Sim C s a w R E) : ∀ {f : Fm} {ys : List AV} {vs : List Value}, L2 (RV w R s.st s.us E) ys vs → ∀ {x : DenB f} {l : List Nat}, exBVs s.st f ys = some (x, l) → l.Nodup →
    ∃ F, Took w R s.us E l F fun R' => RepBVs w R' f x vs F := by
  intro f
  induction f with
  | nil =>
    intro ys vs hl x l he hd
    cases ys with
    | nil =>
      simp only [exBVs, Option.some.injEq, Prod.mk.injEq] at he
      obtain ⟨_, rfl⟩ := he
      rw [show vs = [] from hl]
      exact ⟨[], Took.none fun R' _ => ⟨rfl, rfl⟩⟩
    | cons y r => simp [exBVs] at he
  | cons f1 f2 _ ih =>
    intro ys vs hl x l he hd
    cases ys with
    | nil => simp [exBVs] at he
    | cons y r =>
      obtain ⟨v, vs', e, h1, h2⟩ := hl
      simp only [exBVs] at he
      cases hp : exBV s.st f1 y with
      | none => rw [hp] at he; simp at he
      | some q =>
        obtain ⟨x1, l1⟩ := q
        rw [hp] at he
        simp only at he
        cases hq : exBVs s.st f2 r with
        | none => rw [hq] at he; simp at he
        | some q2 =>
          obtain ⟨x2, l2⟩ := q2
          rw [hq] at he
          simp only [Option.some.injEq, Prod.mk.injEq] at he
          obtain ⟨rfl, rfl⟩ := he
          obtain ⟨F1, t1⟩ := exBV_ok h h1 hp (List.nodup_append.1 hd).1
          obtain ⟨F2, t2⟩ := ih h2 hq (List.nodup_append.1 hd).2.1
          exact ⟨F1 ++ F2, t1.app h t2 hd fun R' a1 a2 => ⟨v, vs', F1, F2, e, rfl, a1, a2⟩⟩
  | _ => intro ys vs hl x l he; cases ys <;> simp [exBVs] at he

theorem RepBV.any {f : Fm} {x : DenB f} {v v' : Value} {F : List Nat} (hp : f.hasPin = false) (h : RepBV w R f x v F) : RepBV w R f x v' F := by
  cases f with
  | agg f => simp only [Fm.hasPin] at hp; simp only [RepBV, hp] at h ⊢; exact h
  | pin k e t d => simp [Fm.hasPin] at hp
  | bx f => simp [Fm.hasPin] at hp
  | _ => exact h
theorem fxOf_pos : ∀ {f : Fm} {x : DenB f} {vs : List Value} {F : List Nat} (i : Nat), RepBVs w R f x vs F → f.hasPin = true → i < fxOf f i
  | .nil, _, _, _, _, _, hp => by simp [Fm.hasPin] at hp
  | .cons a b, _, _, _, i, ⟨v, r, F1, F2, e1, e2, h1, h2⟩, hp => by
    simp only [fxOf]
    cases hb : b.hasPin with
    | true => simp only [cond_true]; have := fxOf_pos (i + 1) h2 hb; omega
    | false =>
      simp only [Fm.hasPin, hb, Bool.or_false] at hp
      simp [hp]
  | .int _, _, _, _, _, h, _ | .bool, _, _, _, _, h, _ | .str, _, _, _, _, h, _ | .sl _ _, _, _, _, _, h, _ | .own _ _ _, _, _, _, _, h, _ | .pin _ _ _ _, _, _, _, _, h, _ | .box _, _, _, _, _, h, _ | .agg _, _, _, _, _, h, _ | .tup _, _, _, _, _, h, _ => h.elim
theorem RepBVs.swap : ∀ {f : Fm} {x : DenB f} {vs vs' : List Value} {F : List Nat} (i : Nat), RepBVs w R f x vs F → vs'.length = vs.length → (∀ j, i + j < fxOf f i → vs'[j]? = vs[j]?) → RepBVs w R f x vs' F
  | .nil, _, _, vs', _, _, ⟨h1, h2⟩, hl, _ => by subst h1; exact ⟨List.eq_nil_of_length_eq_zero hl, h2⟩
  | .cons a b, _, _, vs', _, i, ⟨v, r, F1, F2, e1, e2, h1, h2⟩, hl, hj => by
    subst e1
    cases vs' with
    | nil => simp at hl
    | cons v' r' =>
      have hb2 : RepBVs w R b _ r' F2 := RepBVs.swap (i + 1) h2 (by simpa using hl) fun j hj' => by
        have := hj (j + 1) (by
          simp only [fxOf]
          cases hb : b.hasPin with
          | true => simp only [cond_true]; omega
          | false =>
            exfalso
            have : fxOf b (i + 1) = 0 := by
              clear hj' h2 h1 hj
              generalize i + 1 = k
              induction b generalizing k with
              | cons a b _ ih =>
                simp only [Fm.hasPin, Bool.or_eq_false_iff] at hb
                simp [fxOf, hb.1, hb.2]
              | _ => rfl
            omega)
        simpa using this
      refine ⟨v', r', F1, F2, rfl, e2, ?_, hb2⟩
      cases ha : a.hasPin with
      | false => exact h1.any ha
      | true =>
        have := hj 0 (by
          have := fxOf_pos (f := .cons a b) (x := (_, _)) i ⟨v, r, F1, F2, rfl, e2, h1, h2⟩ (by simp [Fm.hasPin, ha])
          simpa using this)
        simp only [List.getElem?_cons_zero, Option.some.injEq] at this
        subst this
        exact h1
  | .int _, _, _, _, _, _, h, _, _ | .bool, _, _, _, _, _, h, _, _ | .str, _, _, _, _, _, h, _, _ | .sl _ _, _, _, _, _, _, h, _, _ | .own _ _ _, _, _, _, _, _, h, _, _ | .pin _ _ _ _, _, _, _, _, _, h, _, _ | .box _, _, _, _, _, _, h, _, _ | .agg _, _, _, _, _, _, h, _, _ | .tup _, _, _, _, _, _, h, _, _ => h.elim
/-- A FUNCTION -/
theorem func_ok (hm : P.follows .mixedOrders = true) (hT : TabOK P T) (hO : OrcOK P O) {g : FuncId} {f : Func} (hf : P.funcs[g]? = some f) (hname : (f.name == "runtime.NumGoroutine") = false) (hb : f.body.isSome = true) {fa fr : Fm} {np : Nat} (hfx : Nat.ble (fxOf fa 0) np = true) {L : List (Nat × LoopO (DenF fr × DenB fa))}
    (hL : LoopsOK (fxOf fa 0) P (max np f.ntmps) (fin T f fa fr np) L (bodyOf f)) {spec : DenF fa → Option (DenF fr × DenB fa)} (hspec : ∀ x, evalF T f fa fr np O L x = spec x) : SpecOK P g ⟨fa, fr, spec⟩ := by
  intro w R F0 vals x r hr hrep hnd hF0 hR
  dsimp only at hr hrep
  obtain ⟨c, hc⟩ := Option.isSome_iff_exists.1 hb
  rw [← hspec] at hr
  unfold evalF at hr
  split at hr
  · rename_i s hs
    have hlen : vals.length = np := by
      have h1 := hrep.len
      have h2 := inVs_len hs
      simp at h2
      omega
    have hcall : (callFunc g vals.toArray).run P w = .ok (.enter g vals.toArray) w := by
      have hname' : ¬ f.name = "runtime.NumGoroutine" := by simpa using hname
      simp [callFunc, hf, hname', hc]
    unfold UponCall
    rw [hcall]
    have hbo : bodyOf f = c := by unfold bodyOf; rw [hc]; rfl
    rw [hbo] at hL hr
    let a0 : Act := { tmps := vals.toArray ++ Array.replicate (f.ntmps - vals.toArray.size) undef, defers := [] }
    have ha0 : ∀ t, t < np → a0.tmps.getD t undef = vals.getD t undef := fun t ht => by
      simp [a0, Array.getD_eq_getD_getElem?, Array.getElem?_append, show t < vals.length by omega]
    have hsize : max np f.ntmps = a0.tmps.size := by simp [a0, hlen]; omega
    have h0 := base_sim (a := a0) (w := w) (R := R) rfl (C := ⟨w, R, F0, fun t => vals.getD t undef⟩) (nt := max np f.ntmps) hsize (fun b hb => hb) hR (Keep.refl w F0) (fun b hb => .inl hb)
    obtain ⟨E, hE⟩ := inVs_ok h0 hrep ⟨hnd, fun b hb => ⟨(hF0 b hb).1, .inr hb, (hF0 b hb).2, fun k => by simp⟩⟩ (by
      apply List.ext_getElem?
      intro i
      rw [List.getElem?_map]
      by_cases hi : i < np
      · simp [List.getElem?_range hi, a0, Array.getD_eq_getD_getElem?, Array.getElem?_append, show i < vals.length by omega]
      · simp [show vals.length ≤ i by omega, show np ≤ i by omega]) hs
    have hnt : s.nt = max np f.ntmps := (inVs_nt hs).trans rfl
    have hfx0 := Nat.le_of_ble_eq_true hfx
    have hfx : Fxd (fxOf fa 0) ⟨w, R, F0, fun t => vals.getD t undef⟩ a0 := fun t ht => ha0 t (Nat.lt_of_lt_of_le ht hfx0)
    refine calls_of_wp hf hc (code_wp hm hT hO c hL hnt ⟨hfx, R, E, hE⟩ hr (fun _ _ _ _ h => by cases h) (fun _ _ _ _ _ h => by cases h) (fun s' a' w' hn' hfin hs' => ?_))
    obtain ⟨hfx', R', E', hs'⟩ := hs'
    unfold fin at hfin
    split at hfin
    · rename_i ts hts
      split at hfin
      · rename_i x' l he
        split at hfin
        · rename_i y k hy
          obtain ⟨hd, hfin⟩ := bif_some hfin
          injection hfin with hfin
          subst hfin
          have hd := nodupN_iff hd
          obtain ⟨us, hrun, hus⟩ := results_run (P := P) hT hs' hts
          obtain ⟨F, t⟩ := exR_ok hs' hus he (List.nodup_append.1 hd).1
          obtain ⟨G, t2⟩ := exBVs_ok hs' (slots_l2 hs' (List.range np)) hy (List.nodup_append.1 hd).2.1
          have t3 := t.app hs' t2 hd (p := fun R'' => RepR w' R'' fr x' _ F ∧ RepBVs w' R'' fa y _ G) fun R'' a1 a2 => ⟨a1, a2⟩
          have hrep' := t3.get
          have hbv := hrep'.2.swap (vs' := vals) 0 (by simp [hlen]) fun j hj => by
            have h1 := hfx' j (by omega)
            have h2 : j < np := by omega
            rw [List.getElem?_map, List.getElem?_range h2, List.getElem?_eq_getElem (by omega)]
            simp only [Option.map_some]
            rw [h1]
            simp [show j < vals.length by omega]
          obtain ⟨u, a1, a2, _⟩ := t3
          refine ⟨hs'.df, _, hrun, _, rfl, hs'.keep, tookR E' R' (l ++ k) (F ++ G), F, G, fun b hb => .inl (hs'.sub b hb), fun b hb => ?_, hrep'.1, hbv, a2, fun b hb => ?_⟩
          · rcases hb with hb | ⟨n, hn, hb, _⟩
            · exact ⟨hs'.lt b hb, hs'.nw b hb⟩
            · exact ⟨(hs'.own n b hb).2.1, .inr (hs'.own n b hb).2.2⟩
          · obtain ⟨n, hn, hbn⟩ := a1 b hb
            refine ⟨?_, (hs'.own n b hbn).2.1, (hs'.own n b hbn).2.2⟩
            rintro (hc | ⟨k, hk, hc, hcF⟩)
            · exact (hs'.own n b hbn).1 hc
            · exact hcF hb
        · cases hfin
      · cases hfin
    · cases hfin
  · cases hr
end Go.Ev
