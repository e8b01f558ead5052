/- A text of the claim: an evaluator of Go functions, and why it answers as they do. -/
import Derived.Test.YtkkjheildoclgaaEvK
set_option linter.all false
set_option linter.unusedVariables false
set_option linter.unusedSimpArgs false
set_option autoImplicit false
set_option linter.unusedVariables false
namespace Go.Ev
variable {P : Program} {T : Tab} {C : Ctx} {s : St} {a : Act} {w : World} {R : Nat → Prop} {E : Env}

/-! stores into a variable -/
theorem L2.splice {α β : Type} {p : α → β → Prop} {l : List α} {l' : List β} {k : List α} {k' : List β} (h : L2 p l l') (hk : L2 p k k') (q : Nat) : L2 p (l.take q ++ k ++ l.drop (q + k.length)) (l'.take q ++ k' ++ l'.drop (q + k'.length)) := by
  rw [hk.len]
  exact ((h.take q).app hk).app (h.drop _)
theorem storeVar_run (hT : TabOK P T) {L : TypeId} {z : Bool × CT} (hl : lookO L T.lay = some z) {g q : Nat} {cur : Array Value} {Ty : TypeId} (hg : w.heap[g]? = some (.cells cur Ty (0, 0))) {v : Value} (hlen : v.cells.size = z.2.sz) (hfit : q + v.cells.size ≤ cur.size) (h1 : ∀ u, u ∈ v.cells.toList → u.oneCell' = true) :
    (storeVar L ⟨g, q, none⟩ v).run P w = .ok () (w.setRow g (cur.toList.take q ++ v.cells.toList ++ cur.toList.drop (q + v.cells.toList.length)).toArray) := by
  have hst := run_storeCells_at P g q Ty v.cells.toList 0 cur w hg (by simpa using hfit) h1
  simp only [Nat.add_zero] at hst
  simp [storeVar, sizeOf_run hT hl, hlen, hst]
theorem setRow_at (w : World) {g : Nat} {cur : Array Value} {Ty : TypeId} {fr : Nat × Nat} (hg : w.heap[g]? = some (.cells cur Ty fr)) (cs : Array Value) : (w.setRow g cs).heap[g]? = some (.cells cs Ty fr) := setRow_heap w g cur cs Ty fr hg
theorem setRow_ne (w : World) {g k : Nat} (cs : Array Value) (h : k ≠ g) : (w.setRow g cs).heap[k]? = w.heap[k]? := setRow_other w g k cs h
theorem g_store_box (hT : TabOK P T) (h : Sim C s a w R E) {o : Oper} {L : TypeId} {x y : Operand} (ho : o.op = .store L x y) {z : Bool × CT} (hl : lookO L T.lay = some z) {b q : Nat} (hx : s.op x = .pbox b q) {cs : List AV} (hb : s.st b = some (.box cs)) {l : List AV} (hf : flat (s.op y) = some l)
    (hok : okCells l = true) (h1 : l.length = z.2.sz) (h2 : q + l.length ≤ cs.length) : Goal C P o s a w .junk [⟨b, some (.box (splice cs q l)), false⟩] := by
  obtain ⟨hu, hv⟩ : RC w R s.st s.us E (.pbox b q) (a.eval x) := by have := h.op x; rw [hx] at this; exact this
  obtain ⟨hF, arr, Ty, hg, hrc⟩ := h.box hb
  have hfl := flat_rc hf (h.op y)
  have hlv := hfl.len
  have hla := hrc.len
  rw [Array.length_toList] at hlv hla
  have hrun := storeVar_run (P := P) (w := w) hT hl hg (q := q) (v := a.eval y) (by rw [hlv, h1]) (by omega) (okCells_all hok hfl)
  have hne : ∀ k, k ≠ E.B b → (w.setRow (E.B b) (arr.toList.take q ++ (a.eval y).cells.toList ++ arr.toList.drop (q + (a.eval y).cells.toList.length)).toArray).heap[k]? = w.heap[k]? := fun k hk => setRow_ne w _ hk
  have hs := h.set b hu (.box cs) (.box (splice cs q l)) hb (w' := w.setRow (E.B b) (arr.toList.take q ++ (a.eval y).cells.toList ++ arr.toList.drop (q + (a.eval y).cells.toList.length)).toArray) [E.B b] (fun q' e => by cases e)
    (fun k hk hn => hne k (by rw [hF] at hn; simpa using hn)) (by simp) rfl rfl rfl (fun k hk => by
      simp only [List.mem_singleton] at hk
      subst hk
      have := h.own b (E.B b) (by rw [hF]; simp)
      exact ⟨this.1, by simpa using this.2.1, this.2.2⟩) (by simp) (fun k c hk hc hc' => by
      simp only [List.mem_singleton] at hc
      subst hc
      exact h.dj k b _ hk hc' (by rw [hF]; simp)) (fun m E' mv hE hm => by
      subst hE; subst hm
      unfold SR
      rw [upd_at]
      refine ⟨by simp [upd_at], _, Ty, setRow_at w hg _, ?_⟩
      have := (hrc.splice hfl q).imp fun x v hx => RC.move mv hx
      simpa [splice] using this)
  have hp := hs.put o.dst (v := .junk) (u := undef) trivial
  rw [← write_old] at hp
  exact ⟨undef, _, R, _, .inr ⟨rfl, by simp only [execOp, ho, hv, Instr.storeAt, Instr.sureAddr, Sem.run_bind, Sem.run_pure, Result.andThen_ok, hrun]⟩, hp⟩

/-! values as data -/
def dropsF (E : Env) (l : List Nat) : List Nat := l.flatMap E.F
theorem dropsF_app (l k : List Nat) : dropsF E (l ++ k) = dropsF E l ++ dropsF E k := by simp [dropsF]
theorem toDen_ok (h : Sim C s a w R E) {m : Mem} (hm : Sub m s.st) : ∀ {t : CT} {l : List AV} {x : Den t} {o : Bool} {c : List Nat} {rest : List AV} {vs : List Value}, toDen m t l = some (x, o, c, rest) → L2 (RC w R s.st s.us E) l vs →
    ∃ v1 v2, vs = v1 ++ v2 ∧ L2 (RC w R s.st s.us E) rest v2 ∧ (∀ n, n ∈ c → s.us n = true) ∧ (o = true → Rp w R true t x v1 (dropsF E c)) ∧ Rp w (fun b => R b ∨ ∃ n, n ∈ c ∧ b ∈ E.F n) false t x v1 []
  | .int k, l, x, o, c, rest, vs, he, hl => by
    cases l with
    | nil => simp [toDen] at he
    | cons y r =>
      cases y with
      | int k' n =>
        simp only [toDen] at he
        by_cases hk : k' = k
        · subst hk
          simp only [decide_true, cond_true, Option.some.injEq, Prod.mk.injEq] at he
          obtain ⟨rfl, rfl, rfl, rfl⟩ := he
          obtain ⟨v, vs', e, h1, h2⟩ := hl
          exact ⟨[v], vs', e, h2, by simp, fun _ => ⟨by rw [show v = _ from h1], rfl⟩, by rw [show v = _ from h1], rfl⟩
        · simp [hk] at he
      | _ => simp [toDen] at he
  | .bool, l, x, o, c, rest, vs, he, hl => by
    cases l with
    | nil => simp [toDen] at he
    | cons y r =>
      cases y with
      | bool b =>
        simp only [toDen, Option.some.injEq, Prod.mk.injEq] at he
        obtain ⟨rfl, rfl, rfl, rfl⟩ := he
        obtain ⟨v, vs', e, h1, h2⟩ := hl
        exact ⟨[v], vs', e, h2, by simp, fun _ => ⟨by rw [show v = _ from h1], rfl⟩, by rw [show v = _ from h1], rfl⟩
      | _ => simp [toDen] at he
  | .str, l, x, o, c, rest, vs, he, hl => by
    cases l with
    | nil => simp [toDen] at he
    | cons y r =>
      cases y with
      | str b =>
        simp only [toDen, Option.some.injEq, Prod.mk.injEq] at he
        obtain ⟨rfl, rfl, rfl, rfl⟩ := he
        obtain ⟨v, vs', e, h1, h2⟩ := hl
        exact ⟨[v], vs', e, h2, by simp, fun _ => ⟨by rw [show v = _ from h1], rfl⟩, by rw [show v = _ from h1], rfl⟩
      | _ => simp [toDen] at he
  | .sl e t, l, x, o, c, rest, vs, he, hl => by
    cases l with
    | nil => simp [toDen] at he
    | cons y r =>
      obtain ⟨v, vs', ev, h1, h2⟩ := hl
      cases y with
      | nilsl =>
        simp only [toDen, Option.some.injEq, Prod.mk.injEq] at he
        obtain ⟨rfl, rfl, rfl, rfl⟩ := he
        have e1 : v = .slice none 0 0 := h1
        subst e1
        exact ⟨[_], vs', ev, h2, by simp, fun _ => zv_rp true (.sl e t), zv_rp false (.sl e t)⟩
      | sl e' t' xs src =>
        cases src with
        | inn n ver pos => simp [toDen] at he
        | imm =>
          simp only [toDen] at he
          by_cases ht : t' = t
          · subst ht
            simp only [dite_true] at he
            by_cases hee : Nat.beq e' e = true
            · rw [hee] at he
              simp only [cond_true, Option.some.injEq, Prod.mk.injEq] at he
              obtain ⟨rfl, rfl, rfl, rfl⟩ := he
              obtain rfl := Nat.eq_of_beq_eq_true hee
              refine ⟨[v], vs', ev, h2, by simp, fun hc => by simp at hc, (h1.2.2.1 rfl).keep (w' := w) (fun b hb => ⟨.inl hb, rfl⟩) (fun _ _ => rfl)⟩
            · simp only [Bool.not_eq_true] at hee
              rw [hee] at he
              simp at he
          · simp [ht] at he
      | ref n =>
        simp only [toDen] at he
        cases hmn : m n with
        | none => rw [hmn] at he; simp at he
        | some en =>
          rw [hmn] at he
          cases en with
          | box cs | mp es | zb ze => simp at he
          | root q =>
            obtain ⟨qe, qt, qxs, qd, qp, qv⟩ := q
            simp only at he
            by_cases ht : qt = t
            · subst ht
              simp only [dite_true] at he
              by_cases hee : (Nat.beq qe e && !qp) = true
              · rw [hee] at he
                simp only [cond_true, Option.some.injEq, Prod.mk.injEq] at he
                obtain ⟨rfl, rfl, rfl, rfl⟩ := he
                simp only [Bool.and_eq_true] at hee
                obtain rfl := Nat.eq_of_beq_eq_true hee.1
                have hq := hm n _ hmn
                obtain ⟨hu, hv, _⟩ : RC w R s.st s.us E (.ref n) v := h1
                obtain ⟨_, _, ds, Fi, g1, g2, g3⟩ := h.root hq
                refine ⟨[v], vs', ev, h2, by simpa using hu, fun hd => ?_, ?_⟩
                · subst hd
                  refine ⟨E.V n, ds, Fi, by rw [hv], g1, by simp [dropsF, g2], g3⟩
                · obtain ⟨A, cc, ds', e1, e2, e3, e4⟩ := h.rootRow hq
                  rw [hv]
                  exact ⟨A, cc, ds', by rw [e1], rfl, e2, e3.imp fun x cs G _ hG hp => hp.keep (w' := w) (fun b hb => ⟨by rcases hb with hb | hb; exact .inl hb; exact .inr ⟨n, by simp, hb⟩, rfl⟩) (fun _ _ => rfl), fun hd => by
                    obtain ⟨ad, ea, hb, hc⟩ := e4 hd
                    exact ⟨ad, ea, by rcases hb with hb | hb; exact .inl hb; exact .inr ⟨n, by simp, hb⟩, hc⟩⟩
              · simp only [Bool.not_eq_true] at hee
                rw [hee] at he
                simp at he
            · simp [ht] at he
      | _ => simp [toDen] at he
  | .nil, l, x, o, c, rest, vs, he, hl => by
    simp only [toDen, Option.some.injEq, Prod.mk.injEq] at he
    obtain ⟨_, rfl, rfl, rfl⟩ := he
    exact ⟨[], vs, rfl, hl, by simp, fun _ => ⟨rfl, rfl⟩, rfl, rfl⟩
  | .cons t1 t2, l, x, o, c, rest, vs, he, hl => by
    simp only [toDen] at he
    cases h1 : toDen m t1 l with
    | none => rw [h1] at he; simp at he
    | some r1 =>
      obtain ⟨x1, o1, c1, l1⟩ := r1
      rw [h1] at he
      simp only at he
      cases h2 : toDen m t2 l1 with
      | none => rw [h2] at he; simp at he
      | some r2 =>
        obtain ⟨x2, o2, c2, l2⟩ := r2
        rw [h2] at he
        simp only [Option.some.injEq, Prod.mk.injEq] at he
        obtain ⟨rfl, rfl, rfl, rfl⟩ := he
        obtain ⟨v1, v2, e1, k1, u1, p1, i1⟩ := toDen_ok h hm h1 hl
        obtain ⟨v3, v4, e2, k2, u2, p2, i2⟩ := toDen_ok h hm h2 k1
        refine ⟨v1 ++ v3, v4, by rw [e1, e2, List.append_assoc], k2, fun n hn => (List.mem_append.1 hn).elim (u1 n) (u2 n), fun ho => ?_, ?_⟩
        · simp only [Bool.and_eq_true] at ho
          rw [dropsF_app]
          exact ⟨v1, v3, _, _, rfl, rfl, p1 ho.1, p2 ho.2⟩
        · refine ⟨v1, v3, [], [], rfl, rfl, i1.keep (w' := w) (fun b hb => ⟨?_, rfl⟩) (fun _ _ => rfl), i2.keep (w' := w) (fun b hb => ⟨?_, rfl⟩) (fun _ _ => rfl)⟩
          · rcases hb with hb | ⟨n, hn, hb⟩
            · exact .inl hb
            · exact .inr ⟨n, by simp [hn], hb⟩
          · rcases hb with hb | ⟨n, hn, hb⟩
            · exact .inl hb
            · exact .inr ⟨n, by simp [hn], hb⟩
theorem nodupN_iff : ∀ {l : List Nat}, nodupN l = true → l.Nodup
  | [], _ => by simp
  | x :: r, h => by
    unfold nodupN at h
    have elem_iff : ∀ (l : List Nat), elemN x l = true ↔ x ∈ l := by
      intro l
      induction l with
      | nil => simp [elemN]
      | cons y r ih =>
        unfold elemN
        by_cases hy : y = x
        · subst hy; simp
        · rw [beq_ne hy]; simp [ih, Ne.symm hy]
    cases hx : elemN x r with
    | true => rw [hx] at h; simp at h
    | false =>
      rw [hx] at h
      refine List.nodup_cons.2 ⟨fun hc => ?_, nodupN_iff h⟩
      rw [(elem_iff r).2 hc] at hx
      cases hx
theorem dropsF_nodup (h : Sim C s a w R E) : ∀ {l : List Nat}, l.Nodup → (dropsF E l).Nodup
  | [], _ => by simp [dropsF]
  | n :: r, hl => by
    obtain ⟨h1, h2⟩ := List.nodup_cons.1 hl
    show (E.F n ++ dropsF E r).Nodup
    refine List.nodup_append.2 ⟨h.nd n, dropsF_nodup h h2, fun b hb c hc e => ?_⟩
    subst e
    obtain ⟨k, hk, hb'⟩ := List.mem_flatMap.1 hc
    exact h.dj n k b (fun e => h1 (e ▸ hk)) hb hb'
theorem dropsF_own (h : Sim C s a w R E) {l : List Nat} {b : Nat} (hb : b ∈ dropsF E l) : ¬ R b ∧ b < w.heap.size ∧ (C.w0.heap.size ≤ b ∨ b ∈ C.F0) ∧ ∀ k, b ∉ (E.dropL l).F k := by
  obtain ⟨n, hn, hb'⟩ := List.mem_flatMap.1 hb
  obtain ⟨h1, h2, h3⟩ := h.own n b hb'
  refine ⟨h1, h2, h3, fun k hk => ?_⟩
  by_cases hkl : k ∈ l
  · rw [dropL_in l E k hkl] at hk; cases hk
  · rw [dropL_out l E k hkl] at hk
    exact h.dj n k b (fun e => hkl (e ▸ hn)) hb' hk
end Go.Ev
