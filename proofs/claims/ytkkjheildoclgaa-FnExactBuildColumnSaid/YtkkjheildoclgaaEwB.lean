/- A text of the claim: an evaluator of Go functions, and why it answers as they do. -/
import Derived.Test.YtkkjheildoclgaaEwA
set_option linter.all false
set_option linter.unusedVariables false
set_option linter.unusedSimpArgs false
set_option autoImplicit false
set_option linter.unusedVariables false
namespace Go.Ev
variable {P : Program} {T : Tab} {O : Orc} {C : Ctx} {s : St} {a : Act} {w : World} {R : Nat → Prop} {E : Env}

/-- what is taken out of a state: what it owns (F), the names that give it up (l) -/
def Took (w : World) (R : Nat → Prop) (us : Nat → Bool) (E : Env) (l F : List Nat) (p : (Nat → Prop) → Prop) : Prop :=
  (∀ n, n ∈ l → us n = true) ∧ (∀ b, b ∈ F → ∃ n, n ∈ l ∧ b ∈ E.F n) ∧ F.Nodup ∧ ∀ R' : Nat → Prop, (∀ b, R b → R' b) → (∀ n b, n ∈ l → b ∈ E.F n → b ∉ F → R' b) → p R'
theorem Took.app (h : Sim C s a w R E) {l1 l2 F1 F2 : List Nat} {p1 p2 : (Nat → Prop) → Prop} (h1 : Took w R s.us E l1 F1 p1) (h2 : Took w R s.us E l2 F2 p2) (hd : (l1 ++ l2).Nodup) {p : (Nat → Prop) → Prop} (hp : ∀ R', p1 R' → p2 R' → p R') : Took w R s.us E (l1 ++ l2) (F1 ++ F2) p := by
  obtain ⟨u1, a1, n1, k1⟩ := h1
  obtain ⟨u2, a2, n2, k2⟩ := h2
  have hdj := (List.nodup_append.1 hd).2.2
  refine ⟨fun n hn => (List.mem_append.1 hn).elim (u1 n) (u2 n), fun b hb => ?_, ?_, fun R' hR hF => hp R' (k1 R' hR fun n b hn hb hnb => ?_) (k2 R' hR fun n b hn hb hnb => ?_)⟩
  · rcases List.mem_append.1 hb with hb | hb
    · obtain ⟨n, h3, h4⟩ := a1 b hb; exact ⟨n, by simp [h3], h4⟩
    · obtain ⟨n, h3, h4⟩ := a2 b hb; exact ⟨n, by simp [h3], h4⟩
  · refine List.nodup_append.2 ⟨n1, n2, fun b hb b' hb' e => ?_⟩
    subst e
    obtain ⟨n, h3, h4⟩ := a1 b hb
    obtain ⟨k, h5, h6⟩ := a2 b hb'
    exact h.dj n k b (fun e => hdj n h3 k h5 e) h4 h6
  · refine hF n b (by simp [hn]) hb fun hc => ?_
    rcases List.mem_append.1 hc with hc | hc
    · exact hnb hc
    · obtain ⟨k, h5, h6⟩ := a2 b hc
      exact h.dj n k b (fun e => hdj n hn k h5 e) hb h6
  · refine hF n b (by simp [hn]) hb fun hc => ?_
    rcases List.mem_append.1 hc with hc | hc
    · obtain ⟨k, h5, h6⟩ := a1 b hc
      exact h.dj k n b (fun e => hdj k h5 n hn e) h6 hb
    · exact hnb hc
theorem Took.none {p : (Nat → Prop) → Prop} {us : Nat → Bool} (hp : ∀ R', (∀ b, R b → R' b) → p R') : Took w R us E [] [] p := ⟨by simp, by simp, by simp, fun R' hR _ => hp R' hR⟩

theorem exCell_ok (h : Sim C s a w R E) {f : Fm} {y : AV} {v : Value} (hv : RV1 w R s.st s.us E y v) {x : DenF f} {l : List Nat} (he : exCell s.st f y = some (x, l)) :
    ∃ F, Took w R s.us E l F fun R' => RepC w R' f x v F := by
  cases f with
  | int k =>
    cases y with
    | int k' n =>
      simp only [exCell] at he
      by_cases hk : k' = k
      · subst hk
        simp only [decide_true, cond_true, Option.some.injEq, Prod.mk.injEq] at he
        obtain ⟨rfl, rfl⟩ := he
        exact ⟨[], Took.none fun R' _ => ⟨hv, rfl⟩⟩
      · simp [hk] at he
    | _ => simp [exCell] at he
  | bool =>
    cases y with
    | bool b =>
      simp only [exCell, Option.some.injEq, Prod.mk.injEq] at he
      obtain ⟨rfl, rfl⟩ := he
      exact ⟨[], Took.none fun R' _ => ⟨hv, rfl⟩⟩
    | _ => simp [exCell] at he
  | str =>
    cases y with
    | str b =>
      simp only [exCell, Option.some.injEq, Prod.mk.injEq] at he
      obtain ⟨rfl, rfl⟩ := he
      exact ⟨[], Took.none fun R' _ => ⟨hv, rfl⟩⟩
    | _ => simp [exCell] at he
  | sl e t =>
    cases y with
    | nilsl =>
      simp only [exCell, Option.some.injEq, Prod.mk.injEq] at he
      obtain ⟨rfl, rfl⟩ := he
      exact ⟨[], Took.none fun R' _ => ⟨⟨none, 0, [], hv, Nat.le_refl _, ⟨rfl, rfl⟩, fun h => absurd rfl h⟩, rfl⟩⟩
    | sl e' t' xs src =>
      have hv' : RC w R s.st s.us E (.sl e' t' xs src) v := hv
      cases src with
      | imm =>
        simp only [exCell] at he
        by_cases ht : t' = t
        · subst ht
          simp only [dite_true, Option.some.injEq, Prod.mk.injEq] at he
          obtain ⟨rfl, rfl⟩ := he
          exact ⟨[], Took.none fun R' hR => ⟨(rowAt_of (hv'.2.2.1 rfl)).mono hR, rfl⟩⟩
        · simp [ht] at he
      | inn n ver p =>
        simp only [exCell] at he
        by_cases ht : t' = t
        · subst ht
          simp only [dite_true] at he
          cases hc : liveSrc s.st (.inn n ver p) with
          | false => rw [hc] at he; simp at he
          | true =>
            rw [hc] at he
            simp only [cond_true, Option.some.injEq, Prod.mk.injEq] at he
            obtain ⟨rfl, rfl⟩ := he
            exact ⟨[], by simp [hv'.1.1], by simp, by simp, fun R' hR hF => ⟨(rowAt_of (hv'.2.2.1 hc)).mono (fun b hb => hb.elim (hR b) (fun hb => hF n b (by simp) hb (by simp))), rfl⟩⟩
        · simp [ht] at he
    | ref n =>
      simp only [exCell] at he
      cases hmn : s.st n with
      | none => rw [hmn] at he; simp at he
      | some en =>
        rw [hmn] at he
        cases en with
        | box cs | mp es | zb ze => simp at he
        | root q =>
          obtain ⟨qe, qt, qxs, qd, qp, qv⟩ := q
          simp only at he
          by_cases ht : qt = t
          · subst ht
            simp only [dite_true, Option.some.injEq, Prod.mk.injEq] at he
            obtain ⟨rfl, rfl⟩ := he
            obtain ⟨hu, hv', _⟩ : RC w R s.st s.us E (.ref n) v := hv
            rw [hv']
            exact ⟨[], by simp [hu], by simp, by simp, fun R' hR hF => ⟨(h.rootRow hmn).mono (fun b hb => hb.elim (hR b) (fun hb => hF n b (by simp) hb (by simp))), rfl⟩⟩
          · simp [ht] at he
    | _ => simp [exCell] at he
  | own e t d =>
    cases y with
    | nilsl =>
      simp only [exCell, Option.some.injEq, Prod.mk.injEq] at he
      obtain ⟨rfl, rfl⟩ := he
      have hv' : v = .slice none 0 0 := hv
      subst hv'
      exact ⟨[], Took.none fun R' _ => ⟨[], [], World.ownsRow_nil w 0 e _, rfl, ⟨rfl, rfl⟩⟩⟩
    | ref n =>
      simp only [exCell] at he
      cases hmn : s.st n with
      | none => rw [hmn] at he; simp at he
      | some en =>
        rw [hmn] at he
        cases en with
        | box cs | mp es | zb ze => simp at he
        | root q =>
          obtain ⟨qe, qt, qxs, qd, qp, qv⟩ := q
          simp only at he
          by_cases ht : qt = t
          · subst ht
            simp only [dite_true] at he
            cases hc : (Nat.beq qe e && ((qd || !d) && !qp)) with
            | false => rw [hc] at he; simp at he
            | true =>
              rw [hc] at he
              simp only [cond_true, Option.some.injEq, Prod.mk.injEq] at he
              obtain ⟨rfl, rfl⟩ := he
              simp only [Bool.and_eq_true, Bool.or_eq_true, Bool.not_eq_true'] at hc
              obtain rfl := Nat.eq_of_beq_eq_true hc.1
              obtain ⟨hu, hv', _⟩ : RC w R s.st s.us E (.ref n) v := hv
              obtain ⟨_, _, ds, Fi, h1, h2, h3⟩ := h.root hmn
              rw [hv']
              have hnd := h.nd n
              cases d with
              | true =>
                have hd : qd = true := by simpa using hc.2.1
                simp only at h3
                rw [hd] at h3
                exact ⟨E.F n, by simp [hu], fun b hb => ⟨n, by simp, hb⟩, hnd, fun R' hR hF => ⟨ds, Fi, h1, h2, h3.imp fun x c G _ _ hp => hp.anyR⟩⟩
              | false =>
                rw [h2] at hnd
                refine ⟨(E.V n).ownBlock.toList, by simp [hu], fun b hb => ⟨n, by simp, by rw [h2]; exact List.mem_append.2 (.inl hb)⟩, (List.nodup_append.1 hnd).1, fun R' hR hF => ⟨ds, [], h1, by simp, h3.own R' hR (fun b hb => hF n b (by simp) (by rw [h2]; simp [hb]) (fun hc => (List.nodup_append.1 hnd).2.2 b hc b hb rfl))⟩⟩
          · simp [ht] at he
    | _ => simp [exCell] at he
  | mp =>
    cases y with
    | mref n =>
      simp only [exCell] at he
      cases hmn : s.st n with
      | none => rw [hmn] at he; simp at he
      | some en =>
        rw [hmn] at he
        cases en with
        | box cs => simp at he
        | root q => simp at he
        | zb e => simp at he
        | mp es =>
          simp only [Option.some.injEq, Prod.mk.injEq] at he
          obtain ⟨rfl, rfl⟩ := he
          obtain ⟨hu, hv'⟩ : RC w R s.st s.us E (.mref n) v := hv
          obtain ⟨hF, arr, hg, ha⟩ := h.mp hmn
          exact ⟨[E.B n], by simp [hu], fun b hb => ⟨n, by simp, by rw [hF]; exact hb⟩, by simp, fun R' _ _ => ⟨E.B n, arr, hv', hg, ha, rfl⟩⟩
    | _ => simp [exCell] at he
  | ptr t =>
    cases y with
    | pro t' x' o src =>
      have hv' : RC w R s.st s.us E (.pro t' x' o src) v := hv
      cases o with
      | succ o => cases src <;> simp [exCell] at he
      | zero =>
        cases src with
        | inn => simp [exCell] at he
        | imm =>
          simp only [exCell] at he
          by_cases ht : t' = t
          · subst ht
            simp only [dite_true, Option.some.injEq, Prod.mk.injEq] at he
            obtain ⟨rfl, rfl⟩ := he
            obtain ⟨ad, ds, e1, h1, h2, h3⟩ := hv'.2.2 rfl
            exact ⟨[], Took.none fun R' hR => ⟨⟨ad, ds, e1, h1.keep (w' := w) (fun b hb => ⟨hR b hb, rfl⟩) (fun _ _ => rfl), h2, fun hd => hR _ (h3 hd)⟩, rfl⟩⟩
          · simp [ht] at he
    | _ => simp [exCell] at he
  | _ => simp [exCell] at he
theorem exCells_ok (h : Sim C s a w R E) : ∀ {f : Fm} {ys : List AV} {vs : List Value}, L2 (RC w R s.st s.us E) ys vs → ∀ {x : DenF f} {l : List Nat}, exCells s.st f ys = some (x, l) → l.Nodup →
    ∃ F, Took w R s.us E l F fun R' => RepCs w R' f x vs F := by
  intro f
  induction f with
  | nil =>
    intro ys vs hl x l he hd
    cases ys with
    | nil =>
      simp only [exCells, Option.some.injEq, Prod.mk.injEq] at he
      obtain ⟨_, rfl⟩ := he
      rw [show vs = [] from hl]
      exact ⟨[], Took.none fun R' _ => ⟨rfl, rfl⟩⟩
    | cons y r => simp [exCells] at he
  | cons f1 f2 _ ih =>
    intro ys vs hl x l he hd
    cases ys with
    | nil => simp [exCells] at he
    | cons y r =>
      obtain ⟨v, vs', e, h1, h2⟩ := hl
      simp only [exCells] at he
      cases hp : exCell s.st f1 y with
      | none => rw [hp] at he; simp at he
      | some q =>
        obtain ⟨x1, l1⟩ := q
        rw [hp] at he
        simp only at he
        cases hq : exCells s.st f2 r with
        | none => rw [hq] at he; simp at he
        | some q2 =>
          obtain ⟨x2, l2⟩ := q2
          rw [hq] at he
          simp only [Option.some.injEq, Prod.mk.injEq] at he
          obtain ⟨rfl, rfl⟩ := he
          obtain ⟨F1, t1⟩ := exCell_ok h h1.rv1 hp
          obtain ⟨F2, t2⟩ := ih h2 hq (List.nodup_append.1 hd).2.1
          exact ⟨F1 ++ F2, t1.app h t2 hd fun R' a1 a2 => ⟨v, vs', F1, F2, e, rfl, a1, a2⟩⟩
  | _ => intro ys vs hl x l he; cases ys <;> simp [exCells] at he
theorem exV0_ok (h : Sim C s a w R E) {f : Fm} {y : AV} {v : Value} (hv : RV0 w R s.st s.us E y v) {x : DenF f} {l : List Nat} (he : exV0 s.st f y = some (x, l)) (hd : l.Nodup) :
    ∃ F, Took w R s.us E l F fun R' => RepV0 w R' f x v F := by
  cases f with
  | agg f =>
    cases y with
    | agg cs =>
      simp only [exV0] at he
      obtain ⟨vs, e, h1⟩ := hv
      obtain ⟨F, u, a1, a2, a3⟩ := exCells_ok h h1 he hd
      exact ⟨F, u, a1, a2, fun R' hR hF => ⟨vs, e, a3 R' hR hF⟩⟩
    | _ => simp [exV0, exCell] at he
  | box f =>
    cases y with
    | pbox b off =>
      cases off with
      | succ o => simp [exV0, exCell] at he
      | zero =>
        simp only [exV0] at he
        cases hmb : s.st b with
        | none => rw [hmb] at he; simp at he
        | some en =>
          rw [hmb] at he
          cases en with
          | root q => simp at he
          | mp es => simp at he
          | zb e => simp at he
          | box cs =>
            simp only at he
            cases hc : exCells s.st f cs with
            | none => rw [hc] at he; simp at he
            | some q =>
              obtain ⟨x1, l1⟩ := q
              rw [hc] at he
              simp only [Option.some.injEq, Prod.mk.injEq] at he
              obtain ⟨rfl, rfl⟩ := he
              obtain ⟨hu, hv'⟩ : RC w R s.st s.us E (.pbox b 0) v := hv
              obtain ⟨hF, arr, Ty, hg, hrc⟩ := h.box hmb
              obtain ⟨F1, t1⟩ := exCells_ok h hrc hc (List.nodup_append.1 hd).1
              have t2 : Took w R s.us E [b] [E.B b] fun _ => True := ⟨by simp [hu], fun c hc => ⟨b, by simp, by rw [hF]; exact hc⟩, by simp, fun _ _ _ => trivial⟩
              exact ⟨F1 ++ [E.B b], t1.app h t2 hd fun R' a1 _ => ⟨E.B b, arr, Ty, F1, hv', hg, rfl, a1⟩⟩
    | _ => simp [exV0, exCell] at he
  | bx f => simp [exV0, exCell] at he
  | _ =>
    simp only [exV0] at he
    obtain ⟨F, t⟩ := exCell_ok h hv.rv1 he
    exact ⟨F, t.1, t.2.1, t.2.2.1, fun R' hR hF => by simp only [RepV0]; exact t.2.2.2 R' hR hF⟩
theorem exV0_v0 {m : Mem} {f : Fm} {y : AV} {q : DenF f × List Nat} (he : exV0 m f y = some q) : okV0 y = true := by
  cases y with
  | tup l => cases f <;> simp [exV0, exCell] at he
  | clo g l => cases f <;> simp [exV0, exCell] at he
  | ifc g l => cases f <;> simp [exV0, exCell] at he
  | _ => rfl
theorem RV1.v0 {w : World} {R : Nat → Prop} {m : Mem} {us : Nat → Bool} {E : Env} {x : AV} {v : Value} (hx : okV0 x = true) (h : RV1 w R m us E x v) : RV0 w R m us E x v := RV.v0 hx h.rv
theorem exVs0_ok (h : Sim C s a w R E) : ∀ {f : Fm} {ys : List AV} {vs : List Value}, L2 (RV0 w R s.st s.us E) ys vs → ∀ {x : DenF f} {l : List Nat}, exVs0 s.st f ys = some (x, l) → l.Nodup →
    ∃ F, Took w R s.us E l F fun R' => RepVs0 w R' f x vs F := by
  intro f
  induction f with
  | nil =>
    intro ys vs hl x l he hd
    cases ys with
    | nil =>
      simp only [exVs0, Option.some.injEq, Prod.mk.injEq] at he
      obtain ⟨_, rfl⟩ := he
      rw [show vs = [] from hl]
      exact ⟨[], Took.none fun R' _ => ⟨rfl, rfl⟩⟩
    | cons y r => simp [exVs0] at he
  | cons f1 f2 _ ih =>
    intro ys vs hl x l he hd
    cases ys with
    | nil => simp [exVs0] at he
    | cons y r =>
      obtain ⟨v, vs', e, h1, h2⟩ := hl
      simp only [exVs0] at he
      cases hp : exV0 s.st f1 y with
      | none => rw [hp] at he; simp at he
      | some q =>
        obtain ⟨x1, l1⟩ := q
        rw [hp] at he
        simp only at he
        cases hq : exVs0 s.st f2 r with
        | none => rw [hq] at he; simp at he
        | some q2 =>
          obtain ⟨x2, l2⟩ := q2
          rw [hq] at he
          simp only [Option.some.injEq, Prod.mk.injEq] at he
          obtain ⟨rfl, rfl⟩ := he
          obtain ⟨F1, t1⟩ := exV0_ok h h1 hp (List.nodup_append.1 hd).1
          obtain ⟨F2, t2⟩ := ih h2 hq (List.nodup_append.1 hd).2.1
          exact ⟨F1 ++ F2, t1.app h t2 hd fun R' a1 a2 => ⟨v, vs', F1, F2, e, rfl, a1, a2⟩⟩
  | _ => intro ys vs hl x l he; cases ys <;> simp [exVs0] at he
theorem exV_ok (h : Sim C s a w R E) {f : Fm} {y : AV} {v : Value} (hv : RV1 w R s.st s.us E y v) : ∀ {x : DenF f} {l : List Nat} (he : exV s.st f y = some (x, l)) (hd : l.Nodup),
    ∃ F, Took w R s.us E l F fun R' => RepV w R' f x v F := by
  induction f with
  | clo f c _ =>
    intro x l he hd
    cases y with
    | clo f' cs =>
      simp only [exV] at he
      obtain ⟨hb, he⟩ := bif_some he
      obtain rfl := Nat.eq_of_beq_eq_true hb
      obtain ⟨vs, e, h1⟩ := hv
      obtain ⟨F, u, a1, a2, a3⟩ := exVs0_ok h h1 he hd
      exact ⟨F, u, a1, a2, fun R' hR hF => ⟨vs, e, a3 R' hR hF⟩⟩
    | _ => simp [exV, exV0, exCell] at he
  | ifc X f _ =>
    intro x l he hd
    cases y with
    | ifc X' cs =>
      simp only [exV] at he
      obtain ⟨hb, he⟩ := bif_some he
      obtain rfl := Nat.eq_of_beq_eq_true hb
      obtain ⟨vs, e, h1⟩ := hv
      obtain ⟨F, u, a1, a2, a3⟩ := exCells_ok h h1 he hd
      exact ⟨F, u, a1, a2, fun R' hR hF => ⟨vs, e, a3 R' hR hF⟩⟩
    | _ => simp [exV, exV0, exCell] at he
  | alt a b iha ihb =>
    intro x l he hd
    simp only [exV] at he
    split at he
    · rename_i y1 l1 h1
      simp only [Option.some.injEq, Prod.mk.injEq] at he
      obtain ⟨rfl, rfl⟩ := he
      exact iha h1 hd
    · split at he
      · rename_i y1 l1 h1
        simp only [Option.some.injEq, Prod.mk.injEq] at he
        obtain ⟨rfl, rfl⟩ := he
        exact ihb h1 hd
      · cases he
  | _ =>
    intro x l he hd
    simp only [exV] at he
    obtain ⟨F, t⟩ := exV0_ok h (hv.v0 (exV0_v0 he)) he hd
    exact ⟨F, t.1, t.2.1, t.2.2.1, fun R' hR hF => by simp only [RepV]; exact t.2.2.2 R' hR hF⟩
theorem exV_v1 {m : Mem} {f : Fm} : ∀ {y : AV} {q : DenF f × List Nat} (he : exV m f y = some q), okV1 y = true := by
  induction f with
  | alt a b iha ihb =>
    intro y q he
    simp only [exV] at he
    split at he
    · rename_i h1; exact iha h1
    · split at he
      · rename_i h1; exact ihb h1
      · cases he
  | _ =>
    intro y q he
    cases y with
    | tup l => simp [exV, exV0, exCell] at he
    | _ => rfl
theorem exVs_ok (h : Sim C s a w R E) : ∀ {f : Fm} {ys : List AV} {vs : List Value}, L2 (RV w R s.st s.us E) ys vs → ∀ {x : DenF f} {l : List Nat}, exVs s.st f ys = some (x, l) → l.Nodup →
    ∃ F, Took w R s.us E l F fun R' => RepVs w R' f x vs F := by
  intro f
  induction f with
  | nil =>
    intro ys vs hl x l he hd
    cases ys with
    | nil =>
      simp only [exVs, Option.some.injEq, Prod.mk.injEq] at he
      obtain ⟨_, rfl⟩ := he
      rw [show vs = [] from hl]
      exact ⟨[], Took.none fun R' _ => ⟨rfl, rfl⟩⟩
    | cons y r => simp [exVs] at he
  | cons f1 f2 _ ih =>
    intro ys vs hl x l he hd
    cases ys with
    | nil => simp [exVs] at he
    | cons y r =>
      obtain ⟨v, vs', e, h1, h2⟩ := hl
      simp only [exVs] at he
      cases hp : exV s.st f1 y with
      | none => rw [hp] at he; simp at he
      | some q =>
        obtain ⟨x1, l1⟩ := q
        rw [hp] at he
        simp only at he
        cases hq : exVs s.st f2 r with
        | none => rw [hq] at he; simp at he
        | some q2 =>
          obtain ⟨x2, l2⟩ := q2
          rw [hq] at he
          simp only [Option.some.injEq, Prod.mk.injEq] at he
          obtain ⟨rfl, rfl⟩ := he
          obtain ⟨F1, t1⟩ := exV_ok h (RV.v1 (exV_v1 hp) h1) hp (List.nodup_append.1 hd).1
          obtain ⟨F2, t2⟩ := ih h2 hq (List.nodup_append.1 hd).2.1
          exact ⟨F1 ++ F2, t1.app h t2 hd fun R' a1 a2 => ⟨v, vs', F1, F2, e, rfl, a1, a2⟩⟩
  | _ => intro ys vs hl x l he; cases ys <;> simp [exVs] at he

/-- the readable world behind a taking -/
def tookR (E : Env) (R : Nat → Prop) (l F : List Nat) : Nat → Prop := fun b => R b ∨ ∃ n, n ∈ l ∧ b ∈ E.F n ∧ b ∉ F
theorem Took.get {l F : List Nat} {p : (Nat → Prop) → Prop} {us : Nat → Bool} (h : Took w R us E l F p) : p (tookR E R l F) := h.2.2.2 _ (fun b hb => .inl hb) fun n b h1 h2 h3 => .inr ⟨n, h1, h2, h3⟩

theorem put_id (a : Act) (d : Nat) : a.put (some d) (a.tmps.getD d undef) = a := by
  unfold Act.put
  by_cases hd : d < a.tmps.size
  · have : a.tmps.setIfInBounds d (a.tmps.getD d undef) = a.tmps := by
      apply Array.ext_getElem?
      intro i
      by_cases hi : i = d
      · subst hi; simp [hd]
      · rw [Array.getElem?_setIfInBounds_ne (by omega)]
    show ({ a with tmps := a.tmps.setIfInBounds d (a.tmps.getD d undef) } : Act) = a
    rw [this]
  · simp [Array.setIfInBounds, hd]
theorem inVs_ok : ∀ {sl : List Nat} {f : Fm} {s s' : St} {E : Env}, Sim C s a w R E → ∀ {x : DenF f} {vs : List Value} {F : List Nat}, RepVs w R f x vs F → Own C w R E F → vs = sl.map (fun t => a.tmps.getD t undef) → inVs s sl f x = some s' → ∃ E', Sim C s' a w R E' := by
  intro sl
  induction sl with
  | nil =>
    intro f s s' E h x vs F hr ho hv he
    cases f with
    | nil => simp only [inVs, Option.some.injEq] at he; subst he; exact ⟨E, h⟩
    | _ => simp [inVs] at he
  | cons n sl ih =>
    intro f s s' E h x vs F hr ho hv he
    cases f with
    | cons f1 f2 =>
      obtain ⟨v, r, F1, F2, e1, rfl, h1, h2⟩ := hr
      rw [e1] at hv
      simp only [List.map_cons, List.cons.injEq] at hv
      obtain ⟨hv1, hv2⟩ := hv
      simp only [inVs] at he
      obtain ⟨hf, he⟩ := bif_some he
      obtain ⟨E1, s1, m1, k1, q1⟩ := outV_ok h h1 ho.l (n * 64) hf
      have s2 := s1.put (some n) q1.rv
      rw [hv1, put_id] at s2
      exact ih s2 h2 (ho.r k1) hv2 he
    | _ => simp [inVs] at he
theorem base_sim (hdf : a.defers = []) {C : Ctx} {nt : Nat} (hnt : nt = a.tmps.size) (hsub : ∀ b, C.R0 b → R b) (hlt : ∀ b, R b → b < w.heap.size) (hk : Keep C.w0 w C.F0) (hnw : ∀ b, R b → C.R0 b ∨ C.w0.heap.size ≤ b ∨ b ∈ C.F0) :
    Sim C (st0 nt) a w R ⟨fun _ => undef, fun _ => [], fun _ => 0, fun _ => 0, fun _ => 0⟩ :=
  ⟨fun t => trivial, hnt, hdf, fun n => rfl, fun _ _ => rfl, hsub, hlt, fun n b hb => by simp at hb, fun n => by simp, fun n k b _ hb => by simp at hb, hk, hnw⟩
/-- a state is forgotten but for some slots -/
theorem exinj (h : Sim C s a w R E) {sl : List Nat} {f : Fm} {x : DenF f} (hx : ex sl f s = some x) {s' : St} (hs : inj s.nt sl f x = some s') : ∃ R' E', Sim C s' a w R' E' := by
  unfold ex at hx
  have hl : L2 (RV w R s.st s.us E) (sl.map s.tm) (sl.map fun t => a.tmps.getD t undef) := by
    induction sl with
    | nil => rfl
    | cons n r ih =>
      have : ∀ r : List Nat, L2 (RV w R s.st s.us E) (r.map s.tm) (r.map fun t => a.tmps.getD t undef) := by
        intro r
        induction r with
        | nil => rfl
        | cons n r ih => exact ⟨_, _, rfl, h.tm n, ih⟩
      exact this (n :: r)
  split at hx
  · rename_i x' l he
    obtain ⟨hd, hx⟩ := bif_some hx
    injection hx with hx
    subst hx
    obtain ⟨F, t⟩ := exVs_ok h hl he (nodupN_iff hd)
    have hr := t.get
    obtain ⟨u, a1, a2, _⟩ := t
    have hlt : ∀ b, tookR E R l F b → b < w.heap.size := fun b hb => hb.elim (h.lt b) (fun ⟨n, _, hb, _⟩ => (h.own n b hb).2.1)
    obtain ⟨E', hs'⟩ := inVs_ok (base_sim (R := tookR E R l F) h.df h.nt (fun b hb => .inl (h.sub b hb)) hlt h.keep (fun b hb => hb.elim (h.nw b) (fun ⟨n, _, hb, _⟩ => .inr (h.own n b hb).2.2))) hr ⟨a2, fun b hb => by
        obtain ⟨n, hn, hbn⟩ := a1 b hb
        refine ⟨?_, (h.own n b hbn).2.2, (h.own n b hbn).2.1, fun k => by simp⟩
        rintro (hc | ⟨k, hk, hc, hcF⟩)
        · exact (h.own n b hbn).1 hc
        · exact hcF hb⟩ rfl hs
    exact ⟨_, E', hs'⟩
  · cases hx
end Go.Ev
