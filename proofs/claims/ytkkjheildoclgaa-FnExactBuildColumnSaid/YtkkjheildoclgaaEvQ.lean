/- A text of the claim: an evaluator of Go functions, and why it answers as they do. -/
import Derived.Test.YtkkjheildoclgaaEvP
set_option linter.all false
set_option linter.unusedVariables false
set_option linter.unusedSimpArgs false
set_option autoImplicit false
set_option linter.unusedVariables false
namespace Go.Ev
variable {P : Program} {T : Tab} {C : Ctx} {s : St} {a : Act} {w : World} {R : Nat → Prop} {E : Env}

theorem Rp.flatAny {w w' : World} {R R' : Nat → Prop} {d d' : Bool} : ∀ {t : CT} {x : Den t} {cs : List Value} {F : List Nat}, t.hasSl = false → Rp w R d t x cs F → Rp w' R' d' t x cs []
  | .int _, _, _, _, _, h => ⟨h.1, rfl⟩
  | .bool, _, _, _, _, h => ⟨h.1, rfl⟩
  | .str, _, _, _, _, h => ⟨h.1, rfl⟩
  | .sl e t, _, _, _, ht, _ => by simp [CT.hasSl] at ht
  | .nil, _, _, _, _, h => ⟨h.1, rfl⟩
  | .cons a b, x, cs, F, ht, ⟨c1, c2, F1, F2, e1, e2, h1, h2⟩ => by
    simp only [CT.hasSl, Bool.or_eq_false_iff] at ht
    exact ⟨c1, c2, [], [], e1, rfl, h1.flatAny ht.1, h2.flatAny ht.2⟩
theorem All.flatAny {w w' : World} {R R' : Nat → Prop} {d d' : Bool} {t : CT} (ht : t.hasSl = false) : ∀ {l : List (Den t)} {cs : List Value} {F : List Nat}, All (Rp w R d t) l cs F → All (Rp w' R' d' t) l cs []
  | [], _, _, h => ⟨h.1, rfl⟩
  | x :: r, cs, F, ⟨c1, c2, F1, F2, e1, e2, h1, h2⟩ => ⟨c1, c2, [], [], e1, rfl, h1.flatAny ht, All.flatAny ht h2⟩
theorem All.own {w : World} {R : Nat → Prop} {d : Bool} {t : CT} : ∀ {l : List (Den t)} {cs : List Value} {F : List Nat}, All (Rp w R d t) l cs F → ∀ R', (∀ b, R b → R' b) → (∀ b, b ∈ F → R' b) → All (Rp w R' false t) l cs [] :=
  fun h R' h1 h2 => h.freeze h1 h2

theorem appX_ok (hT : TabOK P T) (h : Sim C s a w R E) {m : Mem} (hm : Sub m s.st) {S : TypeId} {x : AV} {v : Value} (hv : RV w R s.st s.us E x v) {q : Root} {g : List Nat} (he : appX T S m x = some (q, g)) :
    (∃ ds Fi, w.ownsRow 0 q.e q.t.sz v q.xs.length ds ∧ All (Rp w R q.deep q.t) q.xs ds Fi ∧ dropsF E g = v.ownBlock.toList ++ Fi) ∧ g.Nodup ∧ (g = [] ∧ v = .slice none 0 0 ∧ q.xs = [] ∨ ∃ n, g = [n] ∧ s.st n = some (.root q) ∧ v = E.V n ∧ s.us n = true) := by
  cases x with
  | nilsl =>
    simp only [appX] at he
    cases hS : lookO S T.elem with
    | none => rw [hS] at he; simp at he
    | some e =>
      rw [hS] at he
      simp only at he
      cases hl : lookO e T.lay with
      | none => rw [hl] at he; simp at he
      | some z =>
        rw [hl] at he
        simp only [Option.some.injEq, Prod.mk.injEq] at he
        obtain ⟨rfl, rfl⟩ := he
        have hv' : v = .slice none 0 0 := hv
        subst hv'
        exact ⟨⟨[], [], World.ownsRow_nil w 0 e _, ⟨rfl, rfl⟩, rfl⟩, by simp, .inl ⟨rfl, rfl, rfl⟩⟩
  | ref n =>
    simp only [appX] at he
    cases hmn : m n with
    | none => rw [hmn] at he; simp at he
    | some en =>
      rw [hmn] at he
      cases en with
      | box cs | mp es | zb ze => simp at he
      | root q' =>
        simp only at he
        cases hp : q'.pin with
        | true => rw [hp] at he; simp at he
        | false =>
          rw [hp] at he
          simp only [cond_false, Option.some.injEq, Prod.mk.injEq] at he
          obtain ⟨rfl, rfl⟩ := he
          have hq := hm n _ hmn
          obtain ⟨hu, hv', _⟩ : RC w R s.st s.us E (.ref n) v := hv
          obtain ⟨_, _, ds, Fi, h1, h2, h3⟩ := h.root hq
          exact ⟨⟨ds, Fi, by rw [hv']; exact h1, h3, by simp [dropsF, h2, hv']⟩, by simp, .inr ⟨n, rfl, hq, hv', hu⟩⟩
  | _ => simp [appX] at he

theorem appY_ok (h : Sim C s a w R E) {m : Mem} (hm : Sub m s.st) {t : CT} {g : List Nat} {y : AV} {u : Value} (hu : RV w R s.st s.us E y u) {ys : List (Den t)} {ow : Bool} {g2 : List Nat} (he : appY m t g y = some (ys, ow, g2)) :
    ∃ ds R', RowC w R' t ys u ds ∧ (ow = true → ∃ Fi, All (Rp w R true t) ys ds Fi ∧ Fi.Nodup ∧ ∀ b, b ∈ Fi → b ∈ dropsF E g2) ∧ All (Rp w (fun b => R b ∨ ∃ n, n ∈ g2 ∧ b ∈ E.F n) false t) ys ds [] ∧ g2.Nodup ∧ (∀ n, n ∈ g2 → n ∉ g ∧ s.us n = true) := by
  have elem_iff : ∀ (x : Nat) (l : List Nat), elemN x l = true ↔ x ∈ l := by
    intro x l
    induction l with
    | nil => simp [elemN]
    | cons y r ih =>
      unfold elemN
      by_cases hy : y = x
      · subst hy; simp
      · rw [beq_ne hy]; simp [ih, Ne.symm hy]
  cases y with
  | nilsl =>
    simp only [appY, Option.some.injEq, Prod.mk.injEq] at he
    obtain ⟨rfl, rfl, rfl⟩ := he
    have hu' : u = .slice none 0 0 := hu
    subst hu'
    exact ⟨[], R, ⟨none, 0, rfl, Nat.le_refl _, ⟨rfl, rfl⟩, fun h => absurd rfl h⟩, fun _ => ⟨[], ⟨rfl, rfl⟩, by simp, by simp⟩, ⟨rfl, rfl⟩, by simp, by simp⟩
  | ref n =>
    simp only [appY] at he
    cases hmn : m n with
    | none => rw [hmn] at he; simp at he
    | some en =>
      rw [hmn] at he
      cases en with
      | box cs | mp es | zb ze => simp at he
      | root q =>
        obtain ⟨qe, qt, qxs, qd, qp, qv⟩ := q
        simp only at he
        by_cases ht : qt = t
        · subst ht
          simp only [dite_true] at he
          cases hg : elemN n g with
          | true => rw [hg] at he; simp at he
          | false =>
            rw [hg] at he
            simp only [cond_false] at he
            have hng : n ∉ g := fun hc => by rw [(elem_iff n g).2 hc] at hg; cases hg
            have hq := hm n _ hmn
            obtain ⟨hus, hv', _⟩ : RC w R s.st s.us E (.ref n) u := hu
            obtain ⟨ds, Fi, h1, h2, h3, h4⟩ := h.rootRowC hq
            cases hs : qt.hasSl with
            | true =>
              rw [hs] at he
              cases hp : qp with
              | true => rw [hp] at he; simp at he
              | false =>
                rw [hp] at he
                simp only [cond_true, cond_false, Option.some.injEq, Prod.mk.injEq] at he
                obtain ⟨rfl, rfl, rfl⟩ := he
                rw [hv']
                have hnd := h.nd n
                rw [h2] at hnd
                refine ⟨ds, _, h4, fun hd => ⟨Fi, ?_, (List.nodup_append.1 hnd).2.1, fun b hb => by simp [dropsF, h2, hb]⟩, h3.own _ (fun b hb => .inl hb) (fun b hb => .inr ⟨n, by simp, by rw [h2]; simp [hb]⟩), by simp, by simp [hng, hus]⟩
                simp only at hd h3
                rw [hd] at h3
                exact h3
            | false =>
              rw [hs] at he
              simp only [cond_false, Option.some.injEq, Prod.mk.injEq] at he
              obtain ⟨rfl, rfl, rfl⟩ := he
              rw [hv']
              exact ⟨ds, _, h4, fun _ => ⟨[], h3.flatAny hs, by simp, by simp⟩, h3.flatAny hs, by simp, by simp⟩
        · simp [ht] at he
  | sl e t' xs src =>
    have hu' : RC w R s.st s.us E (.sl e t' xs src) u := hu
    cases src with
    | imm =>
      simp only [appY] at he
      by_cases ht : t' = t
      · subst ht
        simp only [dite_true, Option.some.injEq, Prod.mk.injEq] at he
        obtain ⟨rfl, rfl, rfl⟩ := he
        obtain ⟨ds, h1⟩ := (rowAt_of (hu'.2.2.1 rfl)).c
        obtain ⟨A, c, e1, e2, h2, h3⟩ := h1
        exact ⟨ds, R, ⟨A, c, e1, e2, h2, h3⟩, fun hf => ⟨[], h2.flatAny (by simpa using hf), by simp, by simp⟩, h2.own _ (fun b hb => .inl hb) (by simp), by simp, by simp⟩
      · simp [ht] at he
    | inn n ver p =>
      simp only [appY] at he
      by_cases ht : t' = t
      · subst ht
        simp only [dite_true] at he
        cases hc : (liveSrc m (.inn n ver p) && !t'.hasSl) with
        | false => rw [hc] at he; simp at he
        | true =>
          rw [hc] at he
          simp only [cond_true, Option.some.injEq, Prod.mk.injEq] at he
          obtain ⟨rfl, rfl, rfl⟩ := he
          simp only [Bool.and_eq_true, Bool.not_eq_true'] at hc
          obtain ⟨ds, h1⟩ := (rowAt_of (hu'.2.2.1 (hm.live hc.1))).c
          obtain ⟨A, c, e1, e2, h2, h3⟩ := h1
          exact ⟨ds, _, ⟨A, c, e1, e2, h2, h3⟩, fun hf => ⟨[], h2.flatAny hc.2, by simp, by simp⟩, h2.flatAny hc.2, by simp, by simp⟩
      · simp [ht] at he
  | _ => simp [appY] at he

theorem dropsF_dj (h : Sim C s a w R E) {g g2 : List Nat} (hd : ∀ n, n ∈ g2 → n ∉ g) {b : Nat} (hb : b ∈ dropsF E g) (hb2 : b ∈ dropsF E g2) : False := by
  obtain ⟨n, hn, h1⟩ := List.mem_flatMap.1 hb
  obtain ⟨k, hk, h2⟩ := List.mem_flatMap.1 hb2
  exact h.dj n k b (fun e => hd k hk (e ▸ hn)) h1 h2
theorem dropL_both (g g2 : List Nat) (E : Env) (k : Nat) {b : Nat} (hb : b ∈ ((E.dropL g).dropL g2).F k) : b ∈ E.F k ∧ k ∉ g ∧ k ∉ g2 := by
  obtain ⟨h1, h2⟩ := dropL_F_le g2 _ k b hb
  obtain ⟨h3, h4⟩ := dropL_F_le g _ k b h1
  exact ⟨h3, h4, h2⟩
theorem goal_append (hT : TabOK P T) {o : Oper} {c : Call} (ho : o.op = .call c) (hc : c.callee = .builtin .append) {x y : Operand} (hx : c.args = #[x, y]) {S : TypeId} (hS : c.argTypes = #[S, S]) {s' : St} {dn : Nat} {w' : World} {v' : Value} {R' : Nat → Prop} {ws : List W}
    (hr : (Builtin.append_ #[S, S] o.type #[a.eval x, a.eval y]).run P w = .ok v' w') (hs : ∃ E', Sim C (s'.put o.dst (.ref dn)) (a.put o.dst v') w' R' E') (he : s.write ws = s') : Goal C P o s a w (.ref dn) ws := by
  obtain ⟨E', hs⟩ := hs
  subst he
  exact ⟨v', w', R', E', .inl (by simp [execOp, ho, resolve, hc, hx, hS, invoke, builtin, hr]), hs⟩

theorem g_append (hT : TabOK P T) (h : Sim C s a w R E) {m : Mem} (hm : Sub m s.st) {o : Oper} {c : Call} (ho : o.op = .call c) (hc : c.callee = .builtin .append) {x y : Operand} (hx : c.args = #[x, y]) {S : TypeId} (hS : c.argTypes = #[S, S])
    {q : Root} {g : List Nat} (hax : appX T S m (s.op x) = some (q, g)) {ys : List (Den q.t)} {ow : Bool} {g2 : List Nat} (hay : appY m q.t g (s.op y) = some (ys, ow, g2)) {by_ : Nat} (he : lookO S T.elem = some q.e) (hby : lookO q.e T.byt = some by_) (hb0 : 0 < by_) (h0 : 0 < q.t.sz) (hsz : szOk T q.e q.t = true)
    (hb : ((q.xs.length : Int) + (ys.length : Int)) * (by_ : Int) ≤ 140737488355328) {dn : Nat} (hdn : s.us dn = false) :
    Goal C P o s a w (.ref dn) (gone g ++ (gone g2 ++ [⟨dn, some (.root ⟨q.e, q.t, q.xs ++ ys, q.deep && ow, false, 0⟩), true⟩])) := by
  obtain ⟨⟨ds, Fi, x1, x2, x3⟩, x4, x5⟩ := appX_ok hT h hm (h.op x) hax
  obtain ⟨ds2, R2, y1, y2, y3, y4, y5⟩ := appY_ok h hm (h.op y) hay
  obtain ⟨v', w', hr, r1, r2, r3⟩ := append_run (ty := o.type) hT he hsz h0 hby hb0 x1 y1 hb
  rw [← List.length_append] at r1
  obtain ⟨f1, _, _, _, _⟩ := gone_us g s
  obtain ⟨f2, _, _, _, _⟩ := gone_us g2 (s.write (gone g))
  have hxF : ∀ b, b ∈ (a.eval x).ownBlock.toList ++ Fi → b ∈ dropsF E g := fun b hb => by rw [x3]; exact hb
  by_cases hd : (q.deep && ow) = true
  · rw [hd]
    simp only [Bool.and_eq_true] at hd
    obtain ⟨Fi2, z1, z2, z3⟩ := y2 hd.2
    rw [hd.1] at x2
    have hA := (h.goneDrop g).goneDrop g2
    have hnd := dropsF_nodup h x4
    rw [x3] at hnd
    refine goal_append hT ho hc hx hS hr (hA.appended (dn := dn) (q := ⟨q.e, q.t, q.xs ++ ys, true, false, 0⟩) (v := a.eval x) (Fi := Fi ++ Fi2) (by rw [f2, f1]; exact hdn) r2 r3 r1 (x2.app z1) (fun b hb => ?_) ?_ o.dst) (by rw [write_app, write_app])
    · have hb' : b ∈ dropsF E g ∨ b ∈ dropsF E g2 := by
        rw [← List.append_assoc] at hb
        rcases List.mem_append.1 hb with hb | hb
        · exact .inl (hxF b hb)
        · exact .inr (z3 b hb)
      have hno : ∀ k, b ∉ ((E.dropL g).dropL g2).F k := fun k hk => by
        obtain ⟨k1, k2, k3⟩ := dropL_both g g2 E k hk
        rcases hb' with hb' | hb' <;> obtain ⟨n, hn, hbn⟩ := List.mem_flatMap.1 hb'
        · exact h.dj n k b (fun e => k2 (e ▸ hn)) hbn k1
        · exact h.dj n k b (fun e => k3 (e ▸ hn)) hbn k1
      rcases hb' with hb' | hb'
      · have := dropsF_own h hb'
        exact ⟨this.1, this.2.2.1, this.2.1, hno⟩
      · have := dropsF_own h hb'
        exact ⟨this.1, this.2.2.1, this.2.1, hno⟩
    · rw [← List.append_assoc]
      refine List.nodup_append.2 ⟨hnd, z2, fun b hb b' hb' e => ?_⟩
      subst e
      exact dropsF_dj h (fun n hn => (y5 n hn).1) (hxF b hb) (z3 b hb')
  · have hd' : (q.deep && ow) = false := by simpa using hd
    rw [hd']
    rcases x5 with ⟨rfl, e1, e2⟩ | ⟨n, rfl, e1, e2, e3⟩
    · have hA := h.goneFreeze g2
      have hFi : ds = [] := by
        have := x1.1
        rw [e2] at this
        simpa using this
      subst hFi
      obtain ⟨qe, qt, qxs, qd, qp, qv⟩ := q
      simp only at e2
      subst e2
      refine goal_append hT ho hc hx hS hr (hA.appended (dn := dn) (q := ⟨qe, qt, [] ++ ys, false, false, 0⟩) (v := a.eval x) (Fi := []) (by rw [(gone_us g2 s).1]; exact hdn) r2 r3 r1 (by simpa using y3) (fun b hb => ?_) ?_ o.dst) (by rw [write_app, write_app]; rfl)
      · rw [e1] at hb; simp [Value.ownBlock] at hb
      · rw [e1]; simp [Value.ownBlock]
    · obtain ⟨qe, qt, qxs, qd, qp, qv⟩ := q
      simp only [dropsF, List.flatMap_cons, List.flatMap_nil, List.append_nil] at x3
      have hn2 : n ∉ g2 := fun hc => (y5 n hc).1 (by simp)
      have hfin : ((s.write (gone [n])).write (gone g2)).write [⟨dn, some (.root ⟨qe, qt, qxs ++ ys, false, false, 0⟩), true⟩] = s.write (gone [n] ++ (gone g2 ++ [⟨dn, some (.root ⟨qe, qt, qxs ++ ys, false, false, 0⟩), true⟩])) := by rw [write_app, write_app]
      have hB := h.soften e1 e3
      have hC := hB.goneDrop [n]
      have hst : ({ s with st := upd s.st n (some (.root { (⟨qe, qt, qxs, qd, qp, qv⟩ : Root) with deep := false })) } : St).write (gone [n]) = s.write (gone [n]) := by
        rw [gone_cons, gone_cons]
        simp only [upd_upd]
      rw [hst] at hC
      have hD := hC.goneFreeze g2
      have hblk : ∀ b, b ∈ (a.eval x).ownBlock.toList → b ∈ E.F n := fun b hb => by rw [x3]; simp [hb]
      have hR2 : ∀ b, (R b ∨ ∃ k, k ∈ g2 ∧ b ∈ E.F k) → ((R b ∨ (b ∈ E.F n ∧ b ∉ (E.V n).ownBlock.toList)) ∨ ∃ k, k ∈ g2 ∧ b ∈ (({ E with F := upd E.F n (E.V n).ownBlock.toList } : Env).dropL [n]).F k) := by
        rintro b (hb | ⟨k, hk, hb⟩)
        · exact .inl (.inl hb)
        · refine .inr ⟨k, hk, ?_⟩
          have hkn : k ≠ n := fun e => hn2 (e ▸ hk)
          rw [dropL_out [n] _ k (by simpa using hkn)]
          simp only
          rw [upd_ne _ _ hkn]
          exact hb
      refine goal_append hT ho hc hx hS hr (hD.appended (dn := dn) (q := ⟨qe, qt, qxs ++ ys, false, false, 0⟩) (v := a.eval x) (Fi := []) (by rw [(gone_us g2 _).1, (gone_us [n] s).1]; exact hdn) r2 r3 r1 ?_ (fun b hb => ?_) ?_ o.dst) hfin.symm
      · have q1 := y3.own _ (fun b hb => hR2 b hb) (by simp)
        have q2 := x2.own (fun b => (R b ∨ (b ∈ E.F n ∧ b ∉ (E.V n).ownBlock.toList)) ∨ ∃ k, k ∈ g2 ∧ b ∈ (({ E with F := upd E.F n (E.V n).ownBlock.toList } : Env).dropL [n]).F k) (fun b hb => .inl (.inl hb)) (fun b hb => .inl (.inr ⟨by rw [x3]; simp [hb], fun hc => by
          have := h.nd n
          rw [x3] at this
          rw [e2] at this
          exact (List.nodup_append.1 this).2.2 b hc b hb rfl⟩))
        exact q2.app q1
      · simp only [List.append_nil] at hb
        have hbn := hblk b hb
        obtain ⟨o1, o2, o3⟩ := h.own n b hbn
        refine ⟨?_, o3, o2, fun k hk => ?_⟩
        · rintro ((hc | ⟨_, hc⟩) | ⟨k, hk, hc⟩)
          · exact o1 hc
          · rw [← e2] at hc; exact hc hb
          · have hkn : k ≠ n := fun e => hn2 (e ▸ hk)
            rw [dropL_out [n] _ k (by simpa using hkn)] at hc
            simp only at hc
            rw [upd_ne _ _ hkn] at hc
            exact h.dj k n b hkn hc hbn
        · obtain ⟨k1, k2, k3⟩ := dropL_both [n] g2 _ k hk
          have hkn : k ≠ n := by simpa using k2
          simp only at k1
          rw [upd_ne _ _ hkn] at k1
          exact h.dj k n b hkn k1 hbn
      · rw [List.append_nil]
        cases (a.eval x).ownBlock <;> simp
end Go.Ev
