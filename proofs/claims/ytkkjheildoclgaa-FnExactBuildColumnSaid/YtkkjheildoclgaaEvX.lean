/- A text of the claim: an evaluator of Go functions, and why it answers as they do. -/
import Derived.Test.YtkkjheildoclgaaEvW
import Derived.Laws.Small
set_option linter.all false
set_option linter.unusedVariables false
set_option linter.unusedSimpArgs false
set_option autoImplicit false
set_option linter.unusedVariables false
namespace Go.Ev
variable {P : Program} {T : Tab} {O : Orc} {C : Ctx} {s : St} {a : Act} {w : World} {R : Nat → Prop} {E : Env}

theorem RV.v1 {w : World} {R : Nat → Prop} {m : Mem} {us : Nat → Bool} {E : Env} {x : AV} {v : Value} (hx : okV1 x = true) (h : RV w R m us E x v) : RV1 w R m us E x v := by
  cases x with
  | tup l => cases hx
  | _ => exact h
theorem RV.v0 {w : World} {R : Nat → Prop} {m : Mem} {us : Nat → Bool} {E : Env} {x : AV} {v : Value} (hx : okV0 x = true) (h : RV w R m us E x v) : RV0 w R m us E x v := by
  cases x with
  | tup l => cases hx
  | clo f l => cases hx
  | ifc f l => cases hx
  | _ => exact h
theorem okV0s_l2 {w : World} {R : Nat → Prop} {m : Mem} {us : Nat → Bool} {E : Env} : ∀ {l : List AV} {vs : List Value}, okV0s l = true → L2 (RV w R m us E) l vs → L2 (RV0 w R m us E) l vs
  | [], _, _, h => h
  | x :: r, _, hk, ⟨y, l', e, h1, h2⟩ => by
    unfold okV0s at hk
    cases hx : okV0 x with
    | false => rw [hx] at hk; cases hk
    | true => rw [hx] at hk; exact ⟨y, l', e, RV.v0 hx h1, okV0s_l2 hk h2⟩
theorem okV1s_l2 {w : World} {R : Nat → Prop} {m : Mem} {us : Nat → Bool} {E : Env} : ∀ {l : List AV} {vs : List Value}, okV1s l = true → L2 (RV w R m us E) l vs → L2 (RV1 w R m us E) l vs
  | [], _, _, h => h
  | x :: r, _, hk, ⟨y, l', e, h1, h2⟩ => by
    unfold okV1s at hk
    cases hx : okV1 x with
    | false => rw [hx] at hk; cases hk
    | true => rw [hx] at hk; exact ⟨y, l', e, RV.v1 hx h1, okV1s_l2 hk h2⟩
theorem lendV_v1 {m : Mem} {f : Fm} {y : AV} {q : DenF f × List Nat × List Nat} (he : lendV m f y = some q) : okV1 y = true := by
  cases y with
  | tup l => cases f <;> simp [lendV, lendV0, lendCell] at he
  | _ => rfl
theorem lendVs_v1 {m : Mem} : ∀ {f : Fm} {ys : List AV} {q : DenF f × List Nat × List Nat}, lendVs m f ys = some q → okV1s ys = true := by
  intro f
  induction f with
  | nil => intro ys q he; cases ys with | nil => rfl | cons y r => simp [lendVs] at he
  | cons f1 f2 _ ih =>
    intro ys q he
    cases ys with
    | nil => rfl
    | cons y r =>
      simp only [lendVs] at he
      cases hp : lendV m f1 y with
      | none => rw [hp] at he; simp at he
      | some q1 =>
        rw [hp] at he
        simp only at he
        cases hq : lendVs m f2 r with
        | none => rw [hq] at he; simp at he
        | some q2 =>
          unfold okV1s
          rw [lendV_v1 hp, ih hq]
          rfl
  | _ => intro ys q he; cases ys <;> simp [lendVs] at he
theorem okV1s_app : ∀ (l k : List AV), okV1s (l ++ k) = true → okV1s l = true
  | [], _, _ => rfl
  | x :: r, k, h => by
    simp only [List.cons_append] at h
    unfold okV1s at h ⊢
    cases hx : okV1 x with
    | false => rw [hx] at h; cases h
    | true => rw [hx] at h; exact okV1s_app r k h

theorem s_makeFunc (h : Sim C s a w R E) {m : Mem} {o : Oper} {f : Fn} {first cap : Array Operand} (hop : o.op = .makeFunc f first cap) : Sound C P T O s a w m o (.makeFunc f first cap) := by
  intro ρ dn K r hK
  cases f with
  | func f =>
    unfold core at hK
    dsimp only [Op.operands] at hK
    obtain ⟨h1, hK⟩ := bif_some hK
    simp only [Bool.and_eq_true] at h1
    have hf : first = #[] := Array.eq_empty_of_size_eq_zero (Nat.eq_of_beq_eq_true h1.1)
    subst hf
    have hev := okV0s_l2 h1.2 (evals_rv h ((#[] ++ cap : Array Operand).toList))
    have hrv : RV w R s.st s.us E (.clo f ((#[] ++ cap : Array Operand).toList.map s.op)) (.func (.func f) #[] (cap.map a.eval)) := ⟨(#[] ++ cap : Array Operand).toList.map a.eval, by rw [Array.empty_append, ← Array.toList_map, Array.toArray_toList], hev⟩
    refine ⟨_, _, hK, fun _ => (goal_pure h hrv ?_).gw⟩
    simp [execOp, hop, Instr.makeFunc]
  | _ => unfold core at hK; exact nomatch (show (none : Option ρ) = some r from hK)

theorem args1 {c : Call} {vx : AV} (h : c.args.toList.map s.op = [vx]) : ∃ x, c.args = #[x] ∧ s.op x = vx := by
  obtain ⟨c1, ⟨l⟩, c2⟩ := c
  simp only at h
  match l, h with
  | [x], h => exact ⟨x, rfl, by simpa using h⟩
theorem args2 {c : Call} {vx vy : AV} (h : c.args.toList.map s.op = [vx, vy]) : ∃ x y, c.args = #[x, y] ∧ s.op x = vx ∧ s.op y = vy := by
  obtain ⟨c1, ⟨l⟩, c2⟩ := c
  simp only at h
  match l, h with
  | [x, y], h => exact ⟨x, y, rfl, by simpa using h⟩
theorem s_len (hT : TabOK P T) (h : Sim C s a w R E) {m : Mem} (hm : Sub m s.st) {o : Oper} {c : Call} (hop : o.op = .call c) (hc : c.callee = .builtin .len) : Sound C P T O s a w m o (.call c) := by
  intro ρ dn K r hK
  have ho : (Op.call c).operands.toList.map s.op = c.args.toList.map s.op := by simp [Op.operands, Call.operands, hc]
  rw [ho] at hK
  obtain ⟨vs, hvs⟩ : ∃ vs, c.args.toList.map s.op = vs := ⟨_, rfl⟩
  rw [hvs] at hK
  unfold core at hK
  dsimp only at hK
  rw [hc] at hK
  cases vs with
  | nil => exact nomatch (show (none : Option ρ) = some r from hK)
  | cons vx l =>
    cases l with
    | cons _ _ => exact nomatch (show (none : Option ρ) = some r from hK)
    | nil =>
      obtain ⟨x, hx, hvx⟩ := args1 hvs
      dsimp only at hK
      split at hK
      · cases hK
      · rename_i S hS
        split at hK
        · split at hK
          · rename_i e he
            exact ⟨_, _, hK, fun _ => (g_len_nil h hop hc hx hS (hT.elem' he) hvx).gw⟩
          · cases hK
        · split at hK
          · rename_i u es hu hes
            exact ⟨_, _, hK, fun _ => (g_len_map hT h hop hc hx hS hu hvx (hm _ _ hes)).gw⟩
          · cases hK
        · split at hK
          · rename_i b _ hl
            obtain ⟨_, d, hd, hs⟩ := hT.lay' hl
            have hd' : P.underlying S = some .string := by
              rw [hd]
              cases d <;> simp [shOf, shWant] at hs ⊢
            exact ⟨_, _, hK, fun _ => (g_len_str h hop hc hx hS hd' hvx).gw⟩
          · cases hK
        · split at hK
          · rename_i e r' he hr
            rw [← hvx] at hr
            exact ⟨_, _, hK, fun _ => (g_len h hm hop hc hx hS (hT.elem' he) hr).gw⟩
          · cases hK
theorem s_min (h : Sim C s a w R E) {m : Mem} {o : Oper} {c : Call} (hop : o.op = .call c) (hc : c.callee = .builtin .min) : Sound C P T O s a w m o (.call c) := by
  intro ρ dn K r hK
  have ho : (Op.call c).operands.toList.map s.op = c.args.toList.map s.op := by simp [Op.operands, Call.operands, hc]
  rw [ho] at hK
  obtain ⟨vs, hvs⟩ : ∃ vs, c.args.toList.map s.op = vs := ⟨_, rfl⟩
  rw [hvs] at hK
  unfold core at hK
  dsimp only at hK
  rw [hc] at hK
  have none' : ∀ {p : Prop}, (none : Option ρ) = some r → p := fun h => nomatch h
  cases vs with
  | nil => exact none' hK
  | cons vx l =>
    cases vx with
    | int k x =>
      cases l with
      | nil => exact none' hK
      | cons vy l =>
        cases vy with
        | int k' y =>
          cases l with
          | nil =>
            obtain ⟨ox, oy, hx, hvx, hvy⟩ := args2 hvs
            have h1 := h.op ox
            rw [hvx] at h1
            have h1 := rv_int h1
            have h2 := h.op oy
            rw [hvy] at h2
            have h2 := rv_int h2
            refine ⟨_, _, hK, fun _ => (goal_pure h (u := .int k (if y < x then y else x)) ?_ ?_).gw⟩
            · by_cases hc : y < x <;> simp [RV, RV1, RV0, RC, hc]
            · simp [execOp, hop, resolve, hc, hx, invoke, builtin, h1, h2, run_min_int2]
          | cons _ _ => exact none' hK
        | _ => exact none' hK
    | _ => exact none' hK
theorem s_append (hT : TabOK P T) (h : Sim C s a w R E) {m : Mem} (hm : Sub m s.st) {o : Oper} {c : Call} (hop : o.op = .call c) (hc : c.callee = .builtin .append) : Sound C P T O s a w m o (.call c) := by
  intro ρ dn K r hK
  have ho : (Op.call c).operands.toList.map s.op = c.args.toList.map s.op := by simp [Op.operands, Call.operands, hc]
  rw [ho] at hK
  obtain ⟨vs, hvs⟩ : ∃ vs, c.args.toList.map s.op = vs := ⟨_, rfl⟩
  rw [hvs] at hK
  unfold core at hK
  dsimp only at hK
  rw [hc] at hK
  cases vs with
  | nil => exact nomatch (show (none : Option ρ) = some r from hK)
  | cons vx l =>
    cases l with
    | nil => exact nomatch (show (none : Option ρ) = some r from hK)
    | cons vy l =>
      cases l with
      | cons _ _ => exact nomatch (show (none : Option ρ) = some r from hK)
      | nil =>
        obtain ⟨x, y, hx, hvx, hvy⟩ := args2 hvs
        dsimp only at hK
        split at hK
        · rename_i S S' hS
          obtain ⟨h1, hK2⟩ := bif_some hK
          clear hK
          have hK := hK2
          clear hK2
          obtain rfl := Nat.eq_of_beq_eq_true h1
          have hS' : c.argTypes = #[S, S] := by
            apply Array.ext'
            exact hS
          unfold evAppend at hK
          split at hK
          · cases hK
          · rename_i q g hax
            split at hK
            · cases hK
            · rename_i ys ow g2 hay
              split at hK
              · rename_i e by_ he hby
                obtain ⟨h2, hK3⟩ := bif_some hK
                simp only [Bool.and_eq_true, Nat.blt_eq] at h2
                obtain ⟨⟨h3, h4, h5, h6⟩, h7⟩ := h2
                replace h7 := Nat.le_of_ble_eq_true h7
                replace h7 : ((q.xs.length : Int) + (ys.length : Int)) * (by_ : Int) ≤ 140737488355328 := by
                  have h8 : (((q.xs.length + ys.length) * by_ : Nat) : Int) = ((q.xs.length : Int) + (ys.length : Int)) * (by_ : Int) := by rw [Int.natCast_mul, Int.natCast_add]
                  omega
                obtain rfl := Nat.eq_of_beq_eq_true h3
                rw [← hvx] at hax
                rw [← hvy] at hay
                refine ⟨_, _, hK3, fun hf => (g_append hT h hm hop hc hx hS' hax hay he hby h4 h5 h6 h7 ?_).gw⟩
                rw [freshOk_app, freshOk_app, Bool.and_eq_true, Bool.and_eq_true, (gone_us g2 _).1, (gone_us g s).1] at hf
                exact fresh1 hf.2.2
              · cases hK
        · cases hK
theorem evCall_v1 {ρ : Type} {dn : Nat} {g : FuncId} {args : List AV} {m : Mem} {K : AV → List W → Option ρ} {r : ρ} (he : evCall O dn g args m K = some r) : okV1s args = true := by
  unfold evCall at he
  split at he
  · split at he
    · rename_i hl
      exact lendVs_v1 hl
    · cases he
  · cases he
theorem s_callv (hT : TabOK P T) (hO : OrcOK P O) (h : Sim C s a w R E) {m : Mem} (hm : Sub m s.st) {o : Oper} {c : Call} (hop : o.op = .call c) {fo : Operand} (hc : c.callee = .value fo) : Sound C P T O s a w m o (.call c) := by
  intro ρ dn K r hK
  have ho : (Op.call c).operands.toList.map s.op = s.op fo :: c.args.toList.map s.op := by simp [Op.operands, Call.operands, hc]
  rw [ho] at hK
  have hargs := evals_rv h c.args.toList
  have hfo := h.op fo
  generalize c.args.toList.map s.op = args at hK hargs
  have key : ∀ (g : FuncId) (caps : List AV) (cv : List Value), a.eval fo = .func (.func g) #[] cv.toArray → L2 (RV1 w R s.st s.us E) caps cv → evCall O dn g (args ++ caps) m K = some r → ∃ v ws, K v ws = some r ∧ (freshOk s.us ws = true → GoalW C P o s a w v ws) := by
    intro g caps cv e1 e2 hK
    exact g_callX hO h hm (exec_callv hop hc e1) ((okV1s_l2 (okV1s_app _ _ (evCall_v1 hK)) hargs).app e2) hK
  unfold core at hK
  dsimp only at hK
  rw [hc] at hK
  cases hfv : s.op fo with
  | fn g =>
    rw [hfv] at hK hfo
    have hv : a.eval fo = .func (.func g) #[] #[] := hfo
    exact key g [] [] hv rfl (by rw [List.append_nil]; exact hK)
  | clo g caps =>
    rw [hfv] at hK hfo
    obtain ⟨vs, e, h1⟩ := hfo
    exact key g caps vs e (h1.imp fun _ _ => RV0.rv1) hK
  | _ => rw [hfv] at hK; exact nomatch (show (none : Option ρ) = some r from hK)
theorem s_invoke (hT : TabOK P T) (hO : OrcOK P O) (h : Sim C s a w R E) {m : Mem} (hm : Sub m s.st) {o : Oper} {c : Call} (hop : o.op = .call c) {fo : Operand} {nm : String} (hc : c.callee = .invoke fo nm) : Sound C P T O s a w m o (.call c) := by
  intro ρ dn K r hK
  have ho : (Op.call c).operands.toList.map s.op = s.op fo :: c.args.toList.map s.op := by simp [Op.operands, Call.operands, hc]
  rw [ho] at hK
  have hargs := evals_rv h c.args.toList
  have hfo := h.op fo
  generalize c.args.toList.map s.op = args at hK hargs
  unfold core at hK
  dsimp only at hK
  rw [hc] at hK
  cases hfv : s.op fo with
  | ifc X cs =>
    rw [hfv] at hK hfo
    obtain ⟨vs, e, h1⟩ := hfo
    dsimp only at hK
    split at hK
    · rename_i ms hms
      split at hK
      · rename_i g hg
        have hv1 := evCall_v1 hK
        have hargs2 : L2 (RV1 w R s.st s.us E) (.agg cs :: args) (.agg vs.toArray :: c.args.toList.map a.eval) := ⟨_, _, rfl, ⟨vs, rfl, h1⟩, okV1s_l2 (by unfold okV1s at hv1; exact hv1) hargs⟩
        exact g_callX hO h hm (exec_invoke hT hop hc e hms hg) hargs2 hK
      · cases hK
    · cases hK
  | _ => rw [hfv] at hK; exact nomatch (show (none : Option ρ) = some r from hK)
theorem s_makeInterface (hT : TabOK P T) (h : Sim C s a w R E) {m : Mem} {o : Oper} {X : TypeId} {x : Operand} (hop : o.op = .makeInterface X x) : Sound C P T O s a w m o (.makeInterface X x) := by
  intro ρ dn K r hK
  replace hK : core T O dn (.makeInterface X x) [s.op x] m K = some r := hK
  unfold core at hK
  dsimp only at hK
  split at hK
  · rename_i t cs hl hx
    exact ⟨_, _, hK, fun _ => (g_makeInterface hT h hop hx hl).gw⟩
  · cases hK
theorem s_makeMap (h : Sim C s a w R E) {m : Mem} {o : Oper} {S : TypeId} {x : Option Operand} (hop : o.op = .makeMap S x) : Sound C P T O s a w m o (.makeMap S x) := by
  intro ρ dn K r hK
  cases x with
  | some x => exact nomatch (show (none : Option ρ) = some r from hK)
  | none =>
    replace hK : K (.mref dn) [⟨dn, some (.mp []), true⟩] = some r := hK
    exact ⟨_, _, hK, fun hf => (g_makeMap h hop (fresh1 hf)).gw⟩
theorem s_lookup (hT : TabOK P T) (h : Sim C s a w R E) {m : Mem} (hm : Sub m s.st) {o : Oper} {S : TypeId} {x y : Operand} {ok : Bool} (hop : o.op = .lookup S x y ok) : Sound C P T O s a w m o (.lookup S x y ok) := by
  intro ρ dn K r hK
  replace hK : core T O dn (.lookup S x y ok) [s.op x, s.op y] m K = some r := hK
  cases hx : s.op x with
  | mref n =>
    cases hy : s.op y with
    | str k =>
      rw [hx, hy] at hK
      replace hK : (match lookO S T.maps, m n with
        | some _, some (.mp es) => K (bif ok then .tup [.int .i64 (mget k es), .bool (mhas k es)] else .int .i64 (mget k es)) []
        | _, _ => none) = some r := hK
      split at hK
      · rename_i u es hu hes
        exact ⟨_, _, hK, fun _ => (g_lookup hT h hop hx hy hu (hm _ _ hes)).gw⟩
      · cases hK
    | _ => rw [hx, hy] at hK; exact nomatch (show (none : Option ρ) = some r from hK)
  | _ => rw [hx] at hK; generalize s.op y = vy at hK; cases vy <;> exact nomatch (show (none : Option ρ) = some r from hK)
theorem s_mapEntry (hT : TabOK P T) (h : Sim C s a w R E) {m : Mem} (hm : Sub m s.st) {o : Oper} {S : TypeId} {x y : Operand} (hop : o.op = .mapEntry S x y) : Sound C P T O s a w m o (.mapEntry S x y) := by
  intro ρ dn K r hK
  replace hK : core T O dn (.mapEntry S x y) [s.op x, s.op y] m K = some r := hK
  cases hx : s.op x with
  | mref n =>
    cases hy : s.op y with
    | str k =>
      rw [hx, hy] at hK
      replace hK : (match lookO S T.maps, m n with
        | some _, some (.mp es) => K (.tup [.int .i64 (mget k es), .int .i64 (midx k es : Int)]) [⟨n, some (.mp (mput k (mget k es) es)), false⟩]
        | _, _ => none) = some r := hK
      split at hK
      · rename_i u es hu hes
        exact ⟨_, _, hK, fun _ => (g_mapEntry hT h hop hx hy hu (hm _ _ hes)).gw⟩
      · cases hK
    | _ => rw [hx, hy] at hK; exact nomatch (show (none : Option ρ) = some r from hK)
  | _ => rw [hx] at hK; generalize s.op y = vy at hK; cases vy <;> exact nomatch (show (none : Option ρ) = some r from hK)
theorem s_mapUpdate (hT : TabOK P T) (h : Sim C s a w R E) {m : Mem} (hm : Sub m s.st) {o : Oper} {S : TypeId} {x y z : Operand} (hop : o.op = .mapUpdate S x y z) : Sound C P T O s a w m o (.mapUpdate S x y z) := by
  intro ρ dn K r hK
  replace hK : core T O dn (.mapUpdate S x y z) [s.op x, s.op y, s.op z] m K = some r := hK
  cases hx : s.op x with
  | mref n =>
    cases hy : s.op y with
    | str k =>
      cases hz : s.op z with
      | int kk v =>
        rw [hx, hy, hz] at hK
        cases kk with
        | i64 =>
          replace hK : (match lookO S T.maps, m n with
            | some _, some (.mp es) => K .junk [⟨n, some (.mp (mput k v es)), false⟩]
            | _, _ => none) = some r := hK
          split at hK
          · rename_i u es hu hes
            exact ⟨_, _, hK, fun _ => (g_mapUpdate hT h hop hx hy hz hu (hm _ _ hes)).gw⟩
          · cases hK
        | _ => exact nomatch (show (none : Option ρ) = some r from hK)
      | _ => rw [hx, hy, hz] at hK; exact nomatch (show (none : Option ρ) = some r from hK)
    | _ => rw [hx, hy] at hK; generalize s.op z = vz at hK; cases vz <;> exact nomatch (show (none : Option ρ) = some r from hK)
  | _ => rw [hx] at hK; generalize s.op y = vy at hK; generalize s.op z = vz at hK; cases vy <;> cases vz <;> exact nomatch (show (none : Option ρ) = some r from hK)
theorem s_entryStore (h : Sim C s a w R E) {m : Mem} (hm : Sub m s.st) {o : Oper} {S : TypeId} {x y z : Operand} (hop : o.op = .entryStore S x y z) : Sound C P T O s a w m o (.entryStore S x y z) := by
  intro ρ dn K r hK
  replace hK : core T O dn (.entryStore S x y z) [s.op x, s.op y, s.op z] m K = some r := hK
  cases hx : s.op x with
  | mref n =>
    cases hy : s.op y with
    | int ki i =>
      cases hz : s.op z with
      | int kk v =>
        rw [hx, hy, hz] at hK
        cases ki with
        | i64 =>
          cases kk with
          | i64 =>
            replace hK : (match m n with
              | some (.mp es) => bif decide (0 ≤ i) && decide (i < (es.length : Int)) then K .junk [⟨n, some (.mp (es.modify i.toNat fun e => (e.1, v))), false⟩] else none
              | _ => none) = some r := hK
            split at hK
            · rename_i es hes
              obtain ⟨h1, hK⟩ := bif_some hK
              simp only [Bool.and_eq_true, decide_eq_true_eq] at h1
              exact ⟨_, _, hK, fun _ => (g_entryStore h hop hx hy hz (hm _ _ hes) h1.1 h1.2).gw⟩
            · cases hK
          | _ => exact nomatch (show (none : Option ρ) = some r from hK)
        | _ => cases kk <;> exact nomatch (show (none : Option ρ) = some r from hK)
      | _ => rw [hx, hy, hz] at hK; cases ki <;> exact nomatch (show (none : Option ρ) = some r from hK)
    | _ => rw [hx, hy] at hK; generalize s.op z = vz at hK; cases vz <;> exact nomatch (show (none : Option ρ) = some r from hK)
  | _ => rw [hx] at hK; generalize s.op y = vy at hK; generalize s.op z = vz at hK; cases vy <;> cases vz <;> exact nomatch (show (none : Option ρ) = some r from hK)
/-- ANY OPERATION -/
theorem core_sound (hT : TabOK P T) (hO : OrcOK P O) (h : Sim C s a w R E) {m : Mem} (hm : Sub m s.st) {o : Oper} {op : Op} (hop : o.op = op) : Sound C P T O s a w m o op := by
  have no : (∀ (ρ : Type) (dn : Nat) (K : AV → List W → Option ρ) vs, core T O dn op vs m K = none) → Sound C P T O s a w m o op := fun hn ρ dn K r hK => by rw [hn] at hK; cases hK
  cases op with
  | move x => exact s_move h hop
  | assign x => exact s_assign h hop
  | pick c x y => exact s_pick h hop
  | binOp op tx x y ty => exact s_bin hT h hop
  | unOp op tx x => exact s_un h hop
  | convert src dst x => exact s_convert (ty := 0) hT h hm hop
  | alloc e => exact s_alloc hT h hop
  | box e x => exact s_box h hop
  | build S ps => exact s_build hT h hop
  | buildSlice S n ps => exact s_buildSlice hT h hm hop
  | fieldAddr S x j => exact s_fieldAddr hT h hm hop
  | nilCheck x => exact s_nilCheck h hop
  | load L x => exact s_load hT h hm hop
  | store L x y => exact s_store hT h hm hop
  | field S x j => exact s_field hT h hop
  | indexAddr S x j => exact s_indexAddr hT h hm hop
  | makeSlice S x y => exact s_makeSlice hT h hop
  | extract x i => exact s_extract h hop
  | slice S x lo hi mx => exact s_slice hT h hm hop
  | makeFunc f first cap => exact s_makeFunc h hop
  | makeInterface X x => exact s_makeInterface hT h hop
  | makeMap S x => exact s_makeMap h hop
  | lookup S x y ok => exact s_lookup hT h hm hop
  | mapEntry S x y => exact s_mapEntry hT h hm hop
  | mapUpdate S x y z => exact s_mapUpdate hT h hm hop
  | entryStore S x y z => exact s_entryStore h hm hop
  | call c =>
    cases hc : c.callee with
    | value fo => exact s_callv hT hO h hm hop hc
    | invoke r n => exact s_invoke hT hO h hm hop hc
    | builtin b =>
      cases b with
      | len => exact s_len hT h hm hop hc
      | append => exact s_append hT h hm hop hc
      | min => exact s_min h hop hc
      | _ => exact no fun ρ dn K vs => by unfold core; dsimp only; rw [hc]
  | _ => exact no fun ρ dn K vs => by unfold core; rfl
end Go.Ev
