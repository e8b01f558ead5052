/- A text of the claim: an evaluator of Go functions, and why it answers as they do. -/
import Derived.Test.YtkkjheildoclgaaEa
import Derived.MapKept
set_option linter.all false
set_option linter.unusedVariables false
set_option linter.unusedSimpArgs false
set_option autoImplicit false
set_option linter.unusedVariables false
namespace Go.Ev
variable {P : Program} {T : Tab} {C : Ctx} {s : St} {a : Act} {w : World} {R : Nat → Prop} {E : Env}

/-! stores into a variable -/
theorem L2.splice {α β : Type} {p : α → β → Prop} {l : List α} {l' : List β} {k : List α} {k' : List β} (h : L2 p l l') (hk : L2 p k k') (q : Nat) : L2 p (l.take q ++ k ++ l.drop (q + k.length)) (l'.take q ++ k' ++ l'.drop (q + k'.length)) := by
  rw [hk.len]
  exact ((h.take q).app hk).app (h.drop _)
theorem storeVar_run (hT : TabOK P T) {L : TypeId} {z : Bool × CT} (hl : lookO L T.lay = some z) {g q : Nat} {cur : Array Value} {Ty : TypeId} (hg : w.heap[g]? = some (.cells cur Ty (0, 0))) {v : Value} (hlen : v.cells.size = z.2.sz) (hfit : q + v.cells.size ≤ cur.size) (h1 : ∀ u, u ∈ v.cells.toList → u.oneCell' = true) :
    (storeVar L ⟨g, q, none⟩ v).run P w = .ok () (w.setRow g (cur.toList.take q ++ v.cells.toList ++ cur.toList.drop (q + v.cells.toList.length)).toArray) := by
  have hst := run_storeCells_at P g q Ty v.cells.toList 0 cur w hg (by simpa using hfit) h1
  simp only [Nat.add_zero] at hst
  simp [storeVar, sizeOf_run hT hl, hlen, hst]
theorem setRow_at (w : World) {g : Nat} {cur : Array Value} {Ty : TypeId} {fr : Nat × Nat} (hg : w.heap[g]? = some (.cells cur Ty fr)) (cs : Array Value) : (w.setRow g cs).heap[g]? = some (.cells cs Ty fr) := setRow_heap w g cur cs Ty fr hg
theorem setRow_ne (w : World) {g k : Nat} (cs : Array Value) (h : k ≠ g) : (w.setRow g cs).heap[k]? = w.heap[k]? := setRow_other w g k cs h
theorem g_store_box (hT : TabOK P T) (h : Sim C s a w R E) {o : Oper} {L : TypeId} {x y : Operand} (ho : o.op = .store L x y) {z : Bool × CT} (hl : lookO L T.lay = some z) {b q : Nat} (hx : s.op x = .pbox b q) {cs : List AV} (hb : s.st b = some (.box cs)) {l : List AV} (hf : flat (s.op y) = some l)
    (hok : okCells l = true) (h1 : l.length = z.2.sz) (h2 : q + l.length ≤ cs.length) : Goal C P o s a w .junk [⟨b, some (.box (splice cs q l)), false⟩] := by
  obtain ⟨hu, hv⟩ : RC w R s.st s.us E (.pbox b q) (a.eval x) := by have := h.op x; rw [hx] at this; exact this
  obtain ⟨hF, arr, Ty, hg, hrc⟩ := h.box hb
  have hfl := flat_rc hf (h.op y)
  have hlv := hfl.len
  have hla := hrc.len
  rw [Array.length_toList] at hlv hla
  have hrun := storeVar_run (P := P) (w := w) hT hl hg (q := q) (v := a.eval y) (by rw [hlv, h1]) (by omega) (okCells_all hok hfl)
  have hne : ∀ k, k ≠ E.B b → (w.setRow (E.B b) (arr.toList.take q ++ (a.eval y).cells.toList ++ arr.toList.drop (q + (a.eval y).cells.toList.length)).toArray).heap[k]? = w.heap[k]? := fun k hk => setRow_ne w _ hk
  have hs := h.set b hu (.box cs) (.box (splice cs q l)) hb (w' := w.setRow (E.B b) (arr.toList.take q ++ (a.eval y).cells.toList ++ arr.toList.drop (q + (a.eval y).cells.toList.length)).toArray) [E.B b] (fun q' e => by cases e)
    (fun k hk hn => hne k (by rw [hF] at hn; simpa using hn)) (by simp) rfl rfl rfl (fun k hk => by
      simp only [List.mem_singleton] at hk
      subst hk
      have := h.own b (E.B b) (by rw [hF]; simp)
      exact ⟨this.1, by simpa using this.2.1, this.2.2⟩) (by simp) (fun k c hk hc hc' => by
      simp only [List.mem_singleton] at hc
      subst hc
      exact h.dj k b _ hk hc' (by rw [hF]; simp)) (fun m E' mv hE hm => by
      subst hE; subst hm
      unfold SR
      rw [upd_at]
      refine ⟨by simp [upd_at], _, Ty, setRow_at w hg _, ?_⟩
      have := (hrc.splice hfl q).imp fun x v hx => RC.move mv hx
      simpa [splice] using this)
  have hp := hs.put o.dst (v := .junk) (u := undef) trivial
  rw [← write_old] at hp
  exact ⟨undef, _, R, _, .inr ⟨rfl, by simp only [execOp, ho, hv, Instr.storeAt, Instr.sureAddr, Sem.run_bind, Sem.run_pure, Result.andThen_ok, hrun]⟩, hp⟩

/-! values as data -/
def dropsF (E : Env) (l : List Nat) : List Nat := l.flatMap E.F
theorem dropsF_app (l k : List Nat) : dropsF E (l ++ k) = dropsF E l ++ dropsF E k := by simp [dropsF]
theorem toDen_ok (h : Sim C s a w R E) {m : Mem} (hm : Sub m s.st) : ∀ {t : CT} {l : List AV} {x : Den t} {o : Bool} {c : List Nat} {rest : List AV} {vs : List Value}, toDen m t l = some (x, o, c, rest) → L2 (RC w R s.st s.us E) l vs →
    ∃ v1 v2, vs = v1 ++ v2 ∧ L2 (RC w R s.st s.us E) rest v2 ∧ (∀ n, n ∈ c → s.us n = true) ∧ (o = true → Rp w R true t x v1 (dropsF E c)) ∧ Rp w (fun b => R b ∨ ∃ n, n ∈ c ∧ b ∈ E.F n) false t x v1 []
  | .int k, l, x, o, c, rest, vs, he, hl => by
    cases l with
    | nil => simp [toDen] at he
    | cons y r =>
      cases y with
      | int k' n =>
        simp only [toDen] at he
        by_cases hk : k' = k
        · subst hk
          simp only [decide_true, cond_true, Option.some.injEq, Prod.mk.injEq] at he
          obtain ⟨rfl, rfl, rfl, rfl⟩ := he
          obtain ⟨v, vs', e, h1, h2⟩ := hl
          exact ⟨[v], vs', e, h2, by simp, fun _ => ⟨by rw [show v = _ from h1], rfl⟩, by rw [show v = _ from h1], rfl⟩
        · simp [hk] at he
      | _ => simp [toDen] at he
  | .bool, l, x, o, c, rest, vs, he, hl => by
    cases l with
    | nil => simp [toDen] at he
    | cons y r =>
      cases y with
      | bool b =>
        simp only [toDen, Option.some.injEq, Prod.mk.injEq] at he
        obtain ⟨rfl, rfl, rfl, rfl⟩ := he
        obtain ⟨v, vs', e, h1, h2⟩ := hl
        exact ⟨[v], vs', e, h2, by simp, fun _ => ⟨by rw [show v = _ from h1], rfl⟩, by rw [show v = _ from h1], rfl⟩
      | _ => simp [toDen] at he
  | .str, l, x, o, c, rest, vs, he, hl => by
    cases l with
    | nil => simp [toDen] at he
    | cons y r =>
      cases y with
      | str b =>
        simp only [toDen, Option.some.injEq, Prod.mk.injEq] at he
        obtain ⟨rfl, rfl, rfl, rfl⟩ := he
        obtain ⟨v, vs', e, h1, h2⟩ := hl
        exact ⟨[v], vs', e, h2, by simp, fun _ => ⟨by rw [show v = _ from h1], rfl⟩, by rw [show v = _ from h1], rfl⟩
      | _ => simp [toDen] at he
  | .sl e t, l, x, o, c, rest, vs, he, hl => by
    cases l with
    | nil => simp [toDen] at he
    | cons y r =>
      obtain ⟨v, vs', ev, h1, h2⟩ := hl
      cases y with
      | nilsl =>
        simp only [toDen, Option.some.injEq, Prod.mk.injEq] at he
        obtain ⟨rfl, rfl, rfl, rfl⟩ := he
        have e1 : v = .slice none 0 0 := h1
        subst e1
        exact ⟨[_], vs', ev, h2, by simp, fun _ => zv_rp true (.sl e t), zv_rp false (.sl e t)⟩
      | sl e' t' xs src =>
        cases src with
        | inn n ver pos => simp [toDen] at he
        | imm =>
          simp only [toDen] at he
          by_cases ht : t' = t
          · subst ht
            simp only [dite_true] at he
            by_cases hee : Nat.beq e' e = true
            · rw [hee] at he
              simp only [cond_true, Option.some.injEq, Prod.mk.injEq] at he
              obtain ⟨rfl, rfl, rfl, rfl⟩ := he
              obtain rfl := Nat.eq_of_beq_eq_true hee
              refine ⟨[v], vs', ev, h2, by simp, fun hc => by simp at hc, (h1.2.2.1 rfl).keep (w' := w) (fun b hb => ⟨.inl hb, rfl⟩) (fun _ _ => rfl)⟩
            · simp only [Bool.not_eq_true] at hee
              rw [hee] at he
              simp at he
          · simp [ht] at he
      | ref n =>
        simp only [toDen] at he
        cases hmn : m n with
        | none => rw [hmn] at he; simp at he
        | some en =>
          rw [hmn] at he
          cases en with
          | box cs | mp es | zb ze => simp at he
          | root q =>
            obtain ⟨qe, qt, qxs, qd, qp, qv⟩ := q
            simp only at he
            by_cases ht : qt = t
            · subst ht
              simp only [dite_true] at he
              by_cases hee : (Nat.beq qe e && !qp) = true
              · rw [hee] at he
                simp only [cond_true, Option.some.injEq, Prod.mk.injEq] at he
                obtain ⟨rfl, rfl, rfl, rfl⟩ := he
                simp only [Bool.and_eq_true] at hee
                obtain rfl := Nat.eq_of_beq_eq_true hee.1
                have hq := hm n _ hmn
                obtain ⟨hu, hv, _⟩ : RC w R s.st s.us E (.ref n) v := h1
                obtain ⟨_, _, ds, Fi, g1, g2, g3⟩ := h.root hq
                refine ⟨[v], vs', ev, h2, by simpa using hu, fun hd => ?_, ?_⟩
                · subst hd
                  refine ⟨E.V n, ds, Fi, by rw [hv], g1, by simp [dropsF, g2], g3⟩
                · obtain ⟨A, cc, ds', e1, e2, e3, e4⟩ := h.rootRow hq
                  rw [hv]
                  exact ⟨A, cc, ds', by rw [e1], rfl, e2, e3.imp fun x cs G _ hG hp => hp.keep (w' := w) (fun b hb => ⟨by rcases hb with hb | hb; exact .inl hb; exact .inr ⟨n, by simp, hb⟩, rfl⟩) (fun _ _ => rfl), fun hd => by
                    obtain ⟨ad, ea, hb, hc⟩ := e4 hd
                    exact ⟨ad, ea, by rcases hb with hb | hb; exact .inl hb; exact .inr ⟨n, by simp, hb⟩, hc⟩⟩
              · simp only [Bool.not_eq_true] at hee
                rw [hee] at he
                simp at he
            · simp [ht] at he
      | _ => simp [toDen] at he
  | .nil, l, x, o, c, rest, vs, he, hl => by
    simp only [toDen, Option.some.injEq, Prod.mk.injEq] at he
    obtain ⟨_, rfl, rfl, rfl⟩ := he
    exact ⟨[], vs, rfl, hl, by simp, fun _ => ⟨rfl, rfl⟩, rfl, rfl⟩
  | .cons t1 t2, l, x, o, c, rest, vs, he, hl => by
    simp only [toDen] at he
    cases h1 : toDen m t1 l with
    | none => rw [h1] at he; simp at he
    | some r1 =>
      obtain ⟨x1, o1, c1, l1⟩ := r1
      rw [h1] at he
      simp only at he
      cases h2 : toDen m t2 l1 with
      | none => rw [h2] at he; simp at he
      | some r2 =>
        obtain ⟨x2, o2, c2, l2⟩ := r2
        rw [h2] at he
        simp only [Option.some.injEq, Prod.mk.injEq] at he
        obtain ⟨rfl, rfl, rfl, rfl⟩ := he
        obtain ⟨v1, v2, e1, k1, u1, p1, i1⟩ := toDen_ok h hm h1 hl
        obtain ⟨v3, v4, e2, k2, u2, p2, i2⟩ := toDen_ok h hm h2 k1
        refine ⟨v1 ++ v3, v4, by rw [e1, e2, List.append_assoc], k2, fun n hn => (List.mem_append.1 hn).elim (u1 n) (u2 n), fun ho => ?_, ?_⟩
        · simp only [Bool.and_eq_true] at ho
          rw [dropsF_app]
          exact ⟨v1, v3, _, _, rfl, rfl, p1 ho.1, p2 ho.2⟩
        · refine ⟨v1, v3, [], [], rfl, rfl, i1.keep (w' := w) (fun b hb => ⟨?_, rfl⟩) (fun _ _ => rfl), i2.keep (w' := w) (fun b hb => ⟨?_, rfl⟩) (fun _ _ => rfl)⟩
          · rcases hb with hb | ⟨n, hn, hb⟩
            · exact .inl hb
            · exact .inr ⟨n, by simp [hn], hb⟩
          · rcases hb with hb | ⟨n, hn, hb⟩
            · exact .inl hb
            · exact .inr ⟨n, by simp [hn], hb⟩
theorem nodupN_iff : ∀ {l : List Nat}, nodupN l = true → l.Nodup
  | [], _ => by simp
  | x :: r, h => by
    unfold nodupN at h
    have elem_iff : ∀ (l : List Nat), elemN x l = true ↔ x ∈ l := by
      intro l
      induction l with
      | nil => simp [elemN]
      | cons y r ih =>
        unfold elemN
        by_cases hy : y = x
        · subst hy; simp
        · rw [beq_ne hy]; simp [ih, Ne.symm hy]
    cases hx : elemN x r with
    | true => rw [hx] at h; simp at h
    | false =>
      rw [hx] at h
      refine List.nodup_cons.2 ⟨fun hc => ?_, nodupN_iff h⟩
      rw [(elem_iff r).2 hc] at hx
      cases hx
theorem dropsF_nodup (h : Sim C s a w R E) : ∀ {l : List Nat}, l.Nodup → (dropsF E l).Nodup
  | [], _ => by simp [dropsF]
  | n :: r, hl => by
    obtain ⟨h1, h2⟩ := List.nodup_cons.1 hl
    show (E.F n ++ dropsF E r).Nodup
    refine List.nodup_append.2 ⟨h.nd n, dropsF_nodup h h2, fun b hb c hc e => ?_⟩
    subst e
    obtain ⟨k, hk, hb'⟩ := List.mem_flatMap.1 hc
    exact h.dj n k b (fun e => h1 (e ▸ hk)) hb hb'
theorem dropsF_own (h : Sim C s a w R E) {l : List Nat} {b : Nat} (hb : b ∈ dropsF E l) : ¬ R b ∧ b < w.heap.size ∧ (C.w0.heap.size ≤ b ∨ b ∈ C.F0) ∧ ∀ k, b ∉ (E.dropL l).F k := by
  obtain ⟨n, hn, hb'⟩ := List.mem_flatMap.1 hb
  obtain ⟨h1, h2, h3⟩ := h.own n b hb'
  refine ⟨h1, h2, h3, fun k hk => ?_⟩
  by_cases hkl : k ∈ l
  · rw [dropL_in l E k hkl] at hk; cases hk
  · rw [dropL_out l E k hkl] at hk
    exact h.dj n k b (fun e => hkl (e ▸ hn)) hb' hk
end Go.Ev

set_option autoImplicit false
set_option linter.unusedVariables false
namespace Go.Ev
variable {P : Program} {T : Tab} {C : Ctx} {s : St} {a : Act} {w : World} {R : Nat → Prop} {E : Env}

/-! literals -/
theorem foldl_set : ∀ (cs : List Value) (off j0 : Nat) (acc : Array Value), off + j0 + cs.length ≤ acc.size →
    ((cs.zipIdx j0).foldl (fun acc x => acc.setIfInBounds (off + x.2) x.1) acc).toList = acc.toList.take (off + j0) ++ cs ++ acc.toList.drop (off + j0 + cs.length)
  | [], off, j0, acc, _ => by simp
  | c :: cs, off, j0, acc, h => by
    rw [List.zipIdx_cons, List.foldl_cons]
    rw [foldl_set cs off (j0 + 1) _ (by simp at h ⊢; omega)]
    simp only [Array.toList_setIfInBounds]
    have := list_seg_step acc.toList (off + j0) c cs (by simp at h ⊢; omega)
    simpa [Nat.add_assoc] using this
theorem fill_one (acc : Array Value) (v : Value) (off : Nat) (h : off + v.cells.size ≤ acc.size) :
    (v.cells.zipIdx.foldl (fun cs (x : Value × Nat) => cs.setIfInBounds (off + x.2) x.1) acc).toList = acc.toList.take off ++ v.cells.toList ++ acc.toList.drop (off + v.cells.size) := by
  have := foldl_set v.cells.toList off 0 acc (by simpa using h)
  rw [← Array.foldl_toList, Array.toList_zipIdx]
  simpa using this
theorem fill_rows (sz : Nat) : ∀ (ps : List (Nat × Value)) (k : Nat) (base : Array Value), inRange (ps.map (·.1)) k = true → (∀ x, x ∈ ps → x.2.cells.size = sz) → base.size = (k + ps.length) * sz →
    ∃ arr, Instr.fill (fun i => some (i * sz, sz)) base ps = some arr ∧ arr.toList = base.toList.take (k * sz) ++ ps.flatMap (fun x => x.2.cells.toList)
  | [], k, base, _, _, hb => ⟨base, rfl, by rw [List.flatMap_nil, List.append_nil, List.take_of_length_le (by rw [Array.length_toList, hb]; simp)]⟩
  | (i, v) :: r, k, base, hr, hs, hb => by
    unfold inRange at hr
    simp only [List.map_cons, Bool.and_eq_true] at hr
    obtain rfl := Nat.eq_of_beq_eq_true hr.1
    have hv := hs (i, v) (by simp)
    simp only at hv
    have hfit : i * sz + v.cells.size ≤ base.size := by
      rw [hb, hv]
      simp only [List.length_cons]
      have : (i + (r.length + 1)) * sz = i * sz + sz + r.length * sz := by rw [Nat.add_mul, Nat.add_mul]; omega
      omega
    have h1 := fill_one base v (i * sz) hfit
    obtain ⟨arr, h2, h3⟩ := fill_rows sz r (i + 1) (v.cells.zipIdx.foldl (fun cs (x : Value × Nat) => cs.setIfInBounds (i * sz + x.2) x.1) base) hr.2 (fun x hx => hs x (by simp [hx])) (by
      rw [← Array.length_toList, h1]
      simp only [List.length_append, List.length_take, List.length_drop, Array.length_toList, List.length_cons] at *
      have : (i + (r.length + 1)) * sz = (i + 1 + r.length) * sz := by congr 1; omega
      omega)
    refine ⟨arr, ?_, ?_⟩
    · unfold Instr.fill
      have : ¬ (v.cells.size ≠ sz || i * sz + v.cells.size > base.size) = true := by
        simp [hv]
        omega
      simp only [this]
      exact h2
    · rw [h3, h1, List.flatMap_cons, ← List.append_assoc]
      congr 1
      rw [List.append_assoc, List.take_append]
      have e1 : (base.toList.take (i * sz)).length = i * sz := by simp; omega
      rw [List.take_of_length_le (by rw [e1, Nat.succ_mul]; omega), e1, Nat.succ_mul, Nat.add_sub_cancel_left]
      congr 1
      rw [← hv, ← Array.length_toList, List.take_left]
theorem rows_ok (h : Sim C s a w R E) {m : Mem} (hm : Sub m s.st) {t : CT} : ∀ {l : List AV} {xs : List (Den t)} {o : Bool} {c : List Nat} {vs : List Value}, rows m t l = some (xs, o, c) → L2 (RV w R s.st s.us E) l vs →
    (∀ n, n ∈ c → s.us n = true) ∧ (∀ v, v ∈ vs → v.cells.size = t.sz) ∧ xs.length = l.length ∧ (o = true → All (Rp w R true t) xs (vs.flatMap (·.cells.toList)) (dropsF E c)) ∧ All (Rp w (fun b => R b ∨ ∃ n, n ∈ c ∧ b ∈ E.F n) false t) xs (vs.flatMap (·.cells.toList)) []
  | [], xs, o, c, vs, he, hl => by
    simp only [rows, Option.some.injEq, Prod.mk.injEq] at he
    obtain ⟨rfl, rfl, rfl⟩ := he
    rw [show vs = [] from hl]
    exact ⟨by simp, by simp, rfl, fun _ => ⟨rfl, rfl⟩, rfl, rfl⟩
  | x :: r, xs, o, c, vs, he, ⟨v, vs', e, h1, h2⟩ => by
    unfold rows at he
    cases hf : flat x with
    | none => rw [hf] at he; simp at he
    | some l =>
      rw [hf] at he
      simp only at he
      cases ht : toDen m t l with
      | none => rw [ht] at he; simp at he
      | some q =>
        obtain ⟨y, o1, c1, rest⟩ := q
        rw [ht] at he
        cases rest with
        | cons _ _ => simp at he
        | nil =>
          simp only at he
          cases hr : rows m t r with
          | none => rw [hr] at he; simp at he
          | some q2 =>
            obtain ⟨ys, o2, c2⟩ := q2
            rw [hr] at he
            simp only [Option.some.injEq, Prod.mk.injEq] at he
            obtain ⟨rfl, rfl, rfl⟩ := he
            obtain ⟨v1, v2, e1, k1, u1, p1, i1⟩ := toDen_ok h hm ht (flat_rc hf h1)
            rw [show v2 = [] from k1, List.append_nil] at e1
            obtain ⟨u2, z2, l2, p2, i2⟩ := rows_ok h hm hr h2
            subst e
            refine ⟨fun n hn => (List.mem_append.1 hn).elim (u1 n) (u2 n), fun u hu => ?_, by simp [l2], fun ho => ?_, ?_⟩
            · rcases List.mem_cons.1 hu with rfl | hu
              · rw [← Array.length_toList, e1, i1.len]
              · exact z2 u hu
            · simp only [Bool.and_eq_true] at ho
              rw [dropsF_app, List.flatMap_cons, e1]
              exact ⟨v1, _, _, _, rfl, rfl, p1 ho.1, p2 ho.2⟩
            · rw [List.flatMap_cons, e1]
              refine ⟨v1, _, [], [], rfl, rfl, i1.keep (w' := w) (fun b hb => ⟨?_, rfl⟩) (fun _ _ => rfl), i2.imp fun x cs G _ hG hp => hp.keep (w' := w) (fun b hb => ⟨?_, rfl⟩) (fun _ _ => rfl)⟩
              · rcases hb with hb | ⟨n, hn, hb⟩
                · exact .inl hb
                · exact .inr ⟨n, by simp [hn], hb⟩
              · rcases hb with hb | ⟨n, hn, hb⟩
                · exact .inl hb
                · exact .inr ⟨n, by simp [hn], hb⟩
theorem evals_rv (h : Sim C s a w R E) : ∀ (xs : List Operand), L2 (RV w R s.st s.us E) (xs.map s.op) (xs.map a.eval)
  | [] => rfl
  | x :: r => ⟨_, _, rfl, h.op x, evals_rv h r⟩
theorem RV.grow {x : AV} {v : Value} (h : Sim C s a w R E) (o : Obj) (hx : RV w R s.st s.us E x v) : RV (w.alloc o) R s.st s.us E x v := by
  refine RV.move (m := s.st) (us := s.us) (E := E) ⟨fun _ h => h, fun _ _ => ⟨rfl, rfl, rfl, rfl⟩, fun b hb' => ⟨hb', heap_alloc_lt w o b (h.lt b hb')⟩, fun n q' _ hq => ⟨q', hq, Nat.le_refl _, fun _ b hb' => ⟨.inr hb', heap_alloc_lt w o b (h.own n b hb').2.1⟩⟩⟩ hx
theorem Rp.alloc {w : World} {R : Nat → Prop} {d : Bool} {t : CT} {x : Den t} {cs : List Value} {F : List Nat} (h : Rp w R d t x cs F) (hR : ∀ b, R b → b < w.heap.size) (o : Obj) : Rp (w.alloc o) R d t x cs F :=
  h.keep (fun b hb => ⟨hb, heap_alloc_lt w o b (hR b hb)⟩) (fun b hb => heap_alloc_lt w o b (h.lt b hb))
theorem All.alloc {w : World} {R : Nat → Prop} {d : Bool} {t : CT} {x : List (Den t)} {cs : List Value} {F : List Nat} (h : All (Rp w R d t) x cs F) (hR : ∀ b, R b → b < w.heap.size) (o : Obj) : All (Rp (w.alloc o) R d t) x cs F :=
  h.imp fun y c G _ hG hp => hp.alloc hR o

theorem run_buildSlice0 {P : Program} {w : World} {S e : TypeId} {i : TypeInfo} (he : P.underlying S = some (.slice e)) (hi : P.info? e = some i) : (Instr.buildSlice S 0 #[]).run P w = .ok (.slice (some ⟨w.heap.size, 0, none⟩) 0 0) (w.alloc (.cells #[] e)) := by
  unfold Instr.buildSlice
  have h0 : (Array.range 0).map (fun _ => (default : Value)) = #[] := by apply Array.ext'; simp
  simp [run_underlying he, sizeOf, typeInfo, hi, Instr.fill, newRow, h0]
theorem g_buildSlice0 (hT : TabOK P T) (h : Sim C s a w R E) {o : Oper} {S : TypeId} (ho : o.op = .buildSlice S 0 #[]) {e : TypeId} (he : lookO S T.elem = some e) {z : Bool × CT} (hl : lookO e T.lay = some z)
    (h0 : 0 < z.2.sz) {dn : Nat} (hdn : s.us dn = false) : Goal C P o s a w (.ref dn) [⟨dn, some (.root ⟨e, z.2, [], true, false, 0⟩), true⟩] := by
  obtain ⟨⟨i, zz, hi, his, hz, hzc⟩, _⟩ := hT.lay' hl
  have hrun := run_buildSlice0 (w := w) (hT.elem' he) hi
  have hrow : (w.alloc (.cells #[] e)).ownsRow 0 e z.2.sz (.slice (some ⟨w.heap.size, 0, none⟩) 0 0) 0 [] := World.ownsRow_lit w #[] 0 (Nat.zero_le _) (by simp [maxLen]) (by simp)
  have hA := h.alloc (.cells #[] e)
  obtain ⟨E', hE⟩ := hA.addRoot (dn := dn) hdn (q := ⟨e, z.2, [], true, false, 0⟩) (Fi := []) hrow ⟨rfl, rfl⟩ (fun b hb => by
      simp [Value.ownBlock] at hb
      subst hb
      exact ⟨fun hc => absurd (h.lt _ hc) (by omega), .inl h.keep.size⟩) (by simp [Value.ownBlock]) (fun k b hb hk => by
      simp [Value.ownBlock] at hb
      subst hb
      exact absurd (h.own k _ hk).2.1 (by omega)) o.dst
  exact ⟨_, _, R, E', .inl (by simp [execOp, ho, hrun]), hE⟩
theorem g_buildSlice (hT : TabOK P T) (h : Sim C s a w R E) {m : Mem} (hm : Sub m s.st) {o : Oper} {S : TypeId} {n : Nat} {ps : Array (Nat × Operand)} (ho : o.op = .buildSlice S n ps) {e : TypeId} (he : lookO S T.elem = some e) {z : Bool × CT} (hl : lookO e T.lay = some z)
    (hn : n = ps.size) (hin : inRange (ps.toList.map (·.1)) 0 = true) (hsz : n * z.2.sz ≤ 16777216) (h0 : 0 < z.2.sz) (hn0 : 0 < n) {xs : List (Den z.2)} {ow : Bool} {c : List Nat} (hr : rows m z.2 ((ps.toList.map (·.2)).map s.op) = some (xs, ow, c)) (hnd : nodupN c = true) {dn : Nat} (hdn : s.us dn = false) :
    Goal C P o s a w (.ref dn) (gone c ++ [⟨dn, some (.root ⟨e, z.2, xs, ow, false, 0⟩), true⟩]) := by
  obtain ⟨⟨i, zz, hi, his, hz, hzc⟩, _⟩ := hT.lay' hl
  have hev := evals_rv h (ps.toList.map (·.2))
  obtain ⟨hus, hcs, hxl, hown, himm⟩ := rows_ok h hm hr hev
  have hzl : zz.cells.size = z.2.sz := by rw [← Array.length_toList, hzc, zv_len]
  let vps := ps.toList.map fun x => (x.1, a.eval x.2)
  have hvp1 : vps.map (·.1) = ps.toList.map (·.1) := by simp [vps]
  have hvp2 : vps.flatMap (fun x => x.2.cells.toList) = ((ps.toList.map (·.2)).map a.eval).flatMap (·.cells.toList) := by simp [vps, List.flatMap_map]
  obtain ⟨arr, hf, harr⟩ := fill_rows z.2.sz vps 0 ((Array.range (n * z.2.sz)).map (zz.cells[· % zz.cells.size]!)) (by rw [hvp1]; exact hin) (fun x hx => by
      obtain ⟨y, hy, rfl⟩ := List.mem_map.1 hx
      exact hcs _ (by simp only [List.map_map, List.mem_map]; exact ⟨y, hy, rfl⟩)) (by simp [vps, hn])
  rw [Nat.zero_mul, List.take_zero, List.nil_append, hvp2] at harr
  have hrun := run_buildSlice (P := P) w S e n (ps.map fun (i, x) => (i, a.eval x)) arr i zz (hT.elem' he) hi hz (by rw [his]; omega) (by rw [his]; exact Nat.ne_of_gt (Nat.mul_pos hn0 h0)) (by
      rw [his]
      have : (ps.map fun (i, x) => (i, a.eval x)).toList = vps := by simp [vps]
      rw [this]
      exact hf)
  have hlen : xs.length = n := by rw [hxl]; simp [hn]
  have hdl := himm.len (n := z.2.sz) (fun x c G hp => hp.len)
  have hxm : n ≤ maxLen := by
    have : n * 1 ≤ n * z.2.sz := Nat.mul_le_mul_left _ h0
    simp only [maxLen]; omega
  have hrow : (w.alloc (.cells arr e)).ownsRow 0 e z.2.sz (.slice (some ⟨w.heap.size, 0, none⟩) n n) xs.length arr.toList := by
    rw [hlen]
    exact World.ownsRow_lit w arr n (Nat.zero_le _) hxm (by rw [← Array.length_toList, harr, hdl, hlen])
  obtain ⟨g1, g2, g3, g4, g5⟩ := gone_us c s
  have exec : (execOp a.eval o).run P w = .ok (.value (.slice (some ⟨w.heap.size, 0, none⟩) n n)) (w.alloc (.cells arr e)) := by
    simp [execOp, ho, hrun]
  rw [Goal, write_app]
  have hc := nodupN_iff hnd
  cases ow with
  | true =>
    have hA := (h.goneDrop c).alloc (.cells arr e)
    have hd := hown rfl
    rw [← harr] at hd
    obtain ⟨E', hE⟩ := hA.addRoot (dn := dn) (by rw [g1]; exact hdn) (q := ⟨e, z.2, xs, true, false, 0⟩) hrow (hd.alloc h.lt _) (fun b hb => by
        rcases List.mem_append.1 hb with hb | hb
        · simp [Value.ownBlock] at hb
          subst hb
          exact ⟨fun hc => absurd (h.lt _ hc) (by omega), .inl h.keep.size⟩
        · exact ⟨(dropsF_own h hb).1, (dropsF_own h hb).2.2.1⟩) (by
        refine List.nodup_append.2 ⟨by simp [Value.ownBlock], dropsF_nodup h hc, fun b hb b' hb' e => ?_⟩
        simp [Value.ownBlock] at hb
        subst hb; subst e
        exact absurd (dropsF_own h hb').2.1 (by omega)) (fun k b hb hk => by
        rcases List.mem_append.1 hb with hb | hb
        · simp [Value.ownBlock] at hb
          subst hb
          by_cases hkc : k ∈ c
          · rw [dropL_in c E k hkc] at hk; cases hk
          · rw [dropL_out c E k hkc] at hk; exact absurd (h.own k _ hk).2.1 (by omega)
        · exact (dropsF_own h hb).2.2.2 k hk) o.dst
    exact ⟨_, _, R, E', .inl exec, hE⟩
  | false =>
    have hA := (h.goneFreeze c).alloc (.cells arr e)
    have hd := himm
    rw [← harr] at hd
    have hR' : ∀ b, (R b ∨ ∃ n, n ∈ c ∧ b ∈ E.F n) → b < w.heap.size := fun b hb => hb.elim (h.lt b) (fun ⟨n, _, hb⟩ => (h.own n b hb).2.1)
    obtain ⟨E', hE⟩ := hA.addRoot (dn := dn) (by rw [g1]; exact hdn) (q := ⟨e, z.2, xs, false, false, 0⟩) hrow (hd.alloc hR' _) (fun b hb => by
        simp [Value.ownBlock] at hb
        subst hb
        exact ⟨fun hc => absurd (hR' _ hc) (by omega), .inl h.keep.size⟩) (by simp [Value.ownBlock]) (fun k b hb hk => by
        simp [Value.ownBlock] at hb
        subst hb
        by_cases hkc : k ∈ c
        · rw [dropL_in c E k hkc] at hk; cases hk
        · rw [dropL_out c E k hkc] at hk; exact absurd (h.own k _ hk).2.1 (by omega)) o.dst
    exact ⟨_, _, _, E', .inl exec, hE⟩
end Go.Ev

set_option autoImplicit false
set_option linter.unusedVariables false
namespace Go.Ev
variable {P : Program} {T : Tab} {C : Ctx} {s : St} {a : Act} {w : World} {R : Nat → Prop} {E : Env}

/-! stores into an element of a row -/
def setL : List Value → Nat → List Value → List Value
  | cs, _, [] => cs
  | cs, off, u :: r => setL (cs.set off u) (off + 1) r
theorem setL_eq : ∀ (us cs : List Value) (off : Nat), off + us.length ≤ cs.length → setL cs off us = cs.take off ++ us ++ cs.drop (off + us.length)
  | [], cs, off, _ => by simp [setL]
  | u :: r, cs, off, h => by
    simp only [setL]
    simp only [List.length_cons] at h
    rw [setL_eq r (cs.set off u) (off + 1) (by simp; omega)]
    have := list_seg_step cs off u r (by omega)
    rw [this]
    simp [Nat.add_assoc, Nat.add_comm 1]

theorem rp_one {R' : Nat → Prop} {d : Bool} {t : CT} {x : Den t} {cs : List Value} {F : List Nat} (hs : t.sz = 1) (h : Rp w R' d t x cs F) : ∃ v, cs = [v] := by
  have := h.len
  rw [hs] at this
  match cs, this with
  | [v], _ => exact ⟨v, rfl⟩
theorem putC_ok (h : Sim C s a w R E) {m : Mem} (hm : Sub m s.st) : ∀ {t : CT} {x : Den t} {off : Nat} {v : AV} {y : Den t} {o : Bool} {c : List Nat} {u : Value}, putC m t x off v = some (y, o, c) → off < t.sz → RC w R s.st s.us E v u →
    (∀ n, n ∈ c → s.us n = true) ∧
    (o = true → ∀ cs F, Rp w R true t x cs F → ∃ F1 G F2, F = F1 ++ G ++ F2 ∧ Rp w R true t y (cs.set off u) (F1 ++ dropsF E c ++ F2)) ∧
    (∀ R' : Nat → Prop, (∀ b, R b → R' b) → (∀ n, n ∈ c → ∀ b, b ∈ E.F n → R' b) → ∀ cs, Rp w R' false t x cs [] → Rp w R' false t y (cs.set off u) []) := by
  have leaf : ∀ {t : CT} {x : Den t} {off : Nat} {v : AV} {y : Den t} {o : Bool} {c : List Nat} {u : Value} {r : List AV}, t.sz = 1 → toDen m t [v] = some (y, o, c, r) → off < t.sz → RC w R s.st s.us E v u →
    (∀ n, n ∈ c → s.us n = true) ∧
    (o = true → ∀ cs F, Rp w R true t x cs F → ∃ F1 G F2, F = F1 ++ G ++ F2 ∧ Rp w R true t y (cs.set off u) (F1 ++ dropsF E c ++ F2)) ∧
    (∀ R' : Nat → Prop, (∀ b, R b → R' b) → (∀ n, n ∈ c → ∀ b, b ∈ E.F n → R' b) → ∀ cs, Rp w R' false t x cs [] → Rp w R' false t y (cs.set off u) []) := by
    intro t x off v y o c u r hs he ho hv
    obtain ⟨v1, v2, e1, e2, h1, h2, h3⟩ := toDen_ok h hm he (vs := [u]) ⟨u, [], rfl, hv, rfl⟩
    have hl := h3.len
    rw [hs] at hl
    have e3 : v1 = [u] := by
      match v1, hl with
      | [z], _ =>
        simp at e1
        rw [e1.1]
    subst e3
    have ho' : off = 0 := by omega
    subst ho'
    refine ⟨h1, fun hd cs F hr => ?_, fun R' k1 k2 cs hr => ?_⟩
    · obtain ⟨z, rfl⟩ := rp_one hs hr
      exact ⟨[], F, [], by simp, by simpa using h2 hd⟩
    · obtain ⟨z, rfl⟩ := rp_one hs hr
      exact h3.keep (w' := w) (fun b hb => ⟨hb.elim (k1 b) (fun ⟨n, hn, hb⟩ => k2 n hn b hb), rfl⟩) (fun _ _ => rfl)
  intro t
  induction t with
  | cons t1 t2 ih1 ih2 =>
    intro x off v y o c u he ho hv
    simp only [putC] at he
    by_cases hlt : off < t1.sz
    · rw [show Nat.blt off t1.sz = true by rw [Nat.blt_eq]; exact hlt] at he
      simp only [cond_true] at he
      cases hp : putC m t1 x.1 off v with
      | none => rw [hp] at he; simp at he
      | some q =>
        obtain ⟨y1, o1, c1⟩ := q
        rw [hp] at he
        simp only [Option.some.injEq, Prod.mk.injEq] at he
        obtain ⟨rfl, rfl, rfl⟩ := he
        obtain ⟨h1, h2, h3⟩ := ih1 hp hlt hv
        refine ⟨h1, fun hd cs F hr => ?_, fun R' k1 k2 cs hr => ?_⟩
        · obtain ⟨d1, d2, F1, F2, rfl, rfl, r1, r2⟩ := hr
          obtain ⟨G1, G, G2, rfl, g⟩ := h2 hd d1 F1 r1
          refine ⟨G1, G, G2 ++ F2, by simp, d1.set off u, d2, _, F2, ?_, ?_, g, r2⟩
          · rw [List.set_append, if_pos (by rw [r1.len]; exact hlt)]
          · simp
        · obtain ⟨d1, d2, F1, F2, rfl, e, r1, r2⟩ := hr
          obtain ⟨rfl, rfl⟩ : F1 = [] ∧ F2 = [] := by simpa using e.symm
          refine ⟨d1.set off u, d2, [], [], ?_, rfl, h3 R' k1 k2 _ r1, r2⟩
          rw [List.set_append, if_pos (by rw [r1.len]; exact hlt)]
    · rw [show Nat.blt off t1.sz = false by cases hh : Nat.blt off t1.sz with | false => rfl | true => exact absurd (by rw [Nat.blt_eq] at hh; exact hh) hlt] at he
      simp only [cond_false] at he
      have ho2 : off - t1.sz < t2.sz := by simp only [CT.sz] at ho; omega
      cases hp : putC m t2 x.2 (off - t1.sz) v with
      | none => rw [hp] at he; simp at he
      | some q =>
        obtain ⟨y1, o1, c1⟩ := q
        rw [hp] at he
        simp only [Option.some.injEq, Prod.mk.injEq] at he
        obtain ⟨rfl, rfl, rfl⟩ := he
        obtain ⟨h1, h2, h3⟩ := ih2 hp ho2 hv
        refine ⟨h1, fun hd cs F hr => ?_, fun R' k1 k2 cs hr => ?_⟩
        · obtain ⟨d1, d2, F1, F2, rfl, rfl, r1, r2⟩ := hr
          obtain ⟨G1, G, G2, rfl, g⟩ := h2 hd d2 F2 r2
          refine ⟨F1 ++ G1, G, G2, by simp, d1, d2.set (off - t1.sz) u, F1, _, ?_, ?_, r1, g⟩
          · rw [List.set_append, if_neg (by rw [r1.len]; exact hlt), r1.len]
          · simp
        · obtain ⟨d1, d2, F1, F2, rfl, e, r1, r2⟩ := hr
          obtain ⟨rfl, rfl⟩ : F1 = [] ∧ F2 = [] := by simpa using e.symm
          refine ⟨d1, d2.set (off - t1.sz) u, [], [], ?_, rfl, r1, h3 R' k1 k2 _ r2⟩
          rw [List.set_append, if_neg (by rw [r1.len]; exact hlt), r1.len]
  | nil => intro x off v y o c u he ho hv; simp [CT.sz] at ho
  | int k | bool | str | sl e t' ih =>
    intro x off v y o c u he ho hv
    simp only [putC] at he
    split at he
    · rename_i hh
      simp only [Option.some.injEq, Prod.mk.injEq] at he
      obtain ⟨rfl, rfl, rfl⟩ := he
      exact leaf rfl hh ho hv
    · cases he
theorem putCs_ok (h : Sim C s a w R E) {m : Mem} (hm : Sub m s.st) {t : CT} : ∀ {l : List AV} {x : Den t} {off : Nat} {y : Den t} {o : Bool} {c : List Nat} {us : List Value}, putCs m t x off l = some (y, o, c) → off + l.length ≤ t.sz → L2 (RC w R s.st s.us E) l us →
    (∀ n, n ∈ c → s.us n = true) ∧
    (o = true → ∀ cs F, Rp w R true t x cs F → (F ++ dropsF E c).Nodup → ∃ F', F'.Nodup ∧ (∀ b, b ∈ F' → b ∈ F ∨ b ∈ dropsF E c) ∧ Rp w R true t y (setL cs off us) F') ∧
    (∀ R' : Nat → Prop, (∀ b, R b → R' b) → (∀ n, n ∈ c → ∀ b, b ∈ E.F n → R' b) → ∀ cs, Rp w R' false t x cs [] → Rp w R' false t y (setL cs off us) [])
  | [], x, off, y, o, c, us, he, ho, hl => by
    simp only [putCs, Option.some.injEq, Prod.mk.injEq] at he
    obtain ⟨rfl, rfl, rfl⟩ := he
    rw [show us = [] from hl]
    refine ⟨by simp, fun _ cs F hr hn => ⟨F, by simpa [dropsF] using hn, fun b hb => .inl hb, hr⟩, fun R' _ _ cs hr => hr⟩
  | v :: r, x, off, y, o, c, us, he, ho, ⟨u, us', e, hv, hl⟩ => by
    subst e
    simp only [List.length_cons] at ho
    unfold putCs at he
    cases hp : putC m t x off v with
    | none => rw [hp] at he; simp at he
    | some q =>
      obtain ⟨y1, o1, c1⟩ := q
      rw [hp] at he
      simp only at he
      cases hq : putCs m t y1 (off + 1) r with
      | none => rw [hq] at he; simp at he
      | some q2 =>
        obtain ⟨y2, o2, c2⟩ := q2
        rw [hq] at he
        simp only [Option.some.injEq, Prod.mk.injEq] at he
        obtain ⟨rfl, rfl, rfl⟩ := he
        obtain ⟨a1, a2, a3⟩ := putC_ok h hm hp (by omega) hv
        obtain ⟨b1, b2, b3⟩ := putCs_ok h hm hq (by omega) hl
        refine ⟨fun n hn => (List.mem_append.1 hn).elim (a1 n) (b1 n), fun hd cs F hr hn => ?_, fun R' k1 k2 cs hr => ?_⟩
        · simp only [Bool.and_eq_true] at hd
          obtain ⟨F1, G, F2, rfl, g⟩ := a2 hd.1 cs F hr
          rw [dropsF_app] at hn
          obtain ⟨F', f1, f2, f3⟩ := b2 hd.2 _ _ g (by
            simp only [List.nodup_append, List.mem_append] at hn ⊢
            grind)
          refine ⟨F', f1, fun b hb => ?_, f3⟩
          rw [dropsF_app]
          have := f2 b hb
          simp only [List.mem_append] at this ⊢
          rcases this with ((h | h) | h) | h <;> simp [h]
        · exact b3 R' k1 (fun n hn => k2 n (by simp [hn])) _ (a3 R' k1 (fun n hn => k2 n (by simp [hn])) cs hr)

theorem upd_upd {α : Type} (f : Nat → α) (n : Nat) (x y : α) : upd (upd f n x) n y = upd f n y := by
  funext i
  by_cases h : i = n
  · subst h; simp [upd_at]
  · simp [upd_ne _ _ h]

/-- what a row leads to is given up: it is only read from now on -/
theorem Sim.soften (h : Sim C s a w R E) {n : Nat} {q : Root} (hq : s.st n = some (.root q)) (hu : s.us n = true) :
    Sim C { s with st := upd s.st n (some (.root { q with deep := false })) } a w (fun b => R b ∨ (b ∈ E.F n ∧ b ∉ (E.V n).ownBlock.toList)) { E with F := upd E.F n (E.V n).ownBlock.toList } := by
  obtain ⟨l1, l2, ds, Fi, g1, g2, g3⟩ := h.root hq
  have mv : Move w R s.st s.us E w (fun b => R b ∨ (b ∈ E.F n ∧ b ∉ (E.V n).ownBlock.toList)) (upd s.st n (some (.root { q with deep := false }))) s.us { E with F := upd E.F n (E.V n).ownBlock.toList } := by
    refine ⟨fun _ h => h, fun _ _ => ⟨rfl, rfl, rfl, rfl⟩, fun b hb' => ⟨.inl hb', rfl⟩, fun k q' _ hk => ?_⟩
    by_cases hkn : k = n
    · subst hkn
      rw [upd_at] at hk
      injection hk with hk
      injection hk with hk
      subst hk
      refine ⟨q, hq, Nat.le_refl _, fun _ b hb => ⟨?_, rfl⟩⟩
      by_cases hb' : b ∈ (E.V k).ownBlock.toList
      · exact .inr (by show b ∈ upd E.F k _ k; rw [upd_at]; exact hb')
      · exact .inl (.inr ⟨hb, hb'⟩)
    · rw [upd_ne _ _ hkn] at hk
      exact ⟨q', hk, Nat.le_refl _, fun _ b hb' => ⟨.inr (by show b ∈ upd E.F n _ k; rw [upd_ne _ _ hkn]; exact hb'), rfl⟩⟩
  have hsub : ∀ k b, b ∈ upd E.F n (E.V n).ownBlock.toList k → b ∈ E.F k := by
    intro k b hb
    by_cases hkn : k = n
    · subst hkn; rw [upd_at] at hb; rw [g2]; exact List.mem_append.2 (.inl hb)
    · rwa [upd_ne _ _ hkn] at hb
  refine ⟨fun t => RV.move mv (h.tm t), h.nt, h.df, fun k => ?_, fun k hk => ?_, fun b hb => .inl (h.sub b hb), fun b hb => ?_, fun k b hb => ?_, fun k => ?_, fun k l b hkl hb hb' => h.dj k l b hkl (hsub k b hb) (hsub l b hb'), h.keep, fun b hb => hb.elim (h.nw b) (fun hb => .inr (h.own n b hb.1).2.2)⟩
  · by_cases hkn : k = n
    · subst hkn
      unfold SR
      dsimp only
      rw [upd_at]
      refine ⟨l1, l2, ds, [], g1, by simp [upd_at], g3.freeze (fun b hb => .inl hb) (fun b hb => .inr ⟨by rw [g2]; exact List.mem_append.2 (.inr hb), fun hc => ?_⟩)⟩
      have := h.nd k
      rw [g2] at this
      exact (List.nodup_append.1 this).2.2 b hc b hb rfl
    · cases hu' : s.us k with
      | false => exact SR.congr (by simp only; rw [upd_ne _ _ hkn]; exact h.un k hu') (by simp only; rw [upd_ne _ _ hkn]; exact h.unF hu')
      | true => exact SR.move mv hu' (upd_ne _ _ hkn) (by simp only; rw [upd_ne _ _ hkn]) (fun _ _ => rfl) (h.st k)
  · show upd s.st n _ k = none
    by_cases hkn : k = n
    · subst hkn; rw [hu] at hk; cases hk
    · rw [upd_ne _ _ hkn]; exact h.un k hk
  · rcases hb with hb | ⟨hb, _⟩
    · exact h.lt b hb
    · exact (h.own n b hb).2.1
  · simp only at hb
    have hb' := hsub k b hb
    refine ⟨?_, (h.own k b hb').2⟩
    rintro (h1 | ⟨h1, h2⟩)
    · exact (h.own k b hb').1 h1
    · by_cases hkn : k = n
      · subst hkn; rw [upd_at] at hb; exact h2 hb
      · exact h.dj k n b hkn hb' h1
  · show (upd E.F n _ k).Nodup
    by_cases hkn : k = n
    · subst hkn; rw [upd_at]; cases (E.V k).ownBlock <;> simp
    · rw [upd_ne _ _ hkn]; exact h.nd k
end Go.Ev

set_option autoImplicit false
set_option linter.unusedVariables false
namespace Go.Ev
variable {P : Program} {T : Tab} {C : Ctx} {s : St} {a : Act} {w : World} {R : Nat → Prop} {E : Env}

theorem setL_len : ∀ (us cs : List Value) (off : Nat), (setL cs off us).length = cs.length
  | [], _, _ => rfl
  | u :: r, cs, off => by simp [setL, setL_len r]
theorem setL_in : ∀ (us c1 c c2 : List Value) (off : Nat), off + us.length ≤ c.length → setL (c1 ++ c ++ c2) (c1.length + off) us = c1 ++ setL c off us ++ c2
  | [], _, _, _, _, _ => rfl
  | u :: r, c1, c, c2, off, h => by
    simp only [setL]
    simp only [List.length_cons] at h
    have : (c1 ++ c ++ c2).set (c1.length + off) u = c1 ++ c.set off u ++ c2 := by
      rw [List.append_assoc, List.set_append, if_neg (by omega), Nat.add_sub_cancel_left, List.set_append, if_pos (by omega), List.append_assoc]
    rw [this]
    have := setL_in r c1 (c.set off u) c2 (off + 1) (by simp; omega)
    rw [Nat.add_assoc]
    exact this
theorem nodup_swap {F1 G F2 G' G0 : List Nat} (h : (F1 ++ G ++ F2).Nodup) (h1 : G'.Nodup) (h2 : ∀ b, b ∈ G' → b ∈ G ∨ b ∈ G0) (h3 : ∀ b, b ∈ G0 → b ∉ F1 ∧ b ∉ F2) : (F1 ++ G' ++ F2).Nodup := by
  simp only [List.nodup_append, List.mem_append] at h ⊢
  obtain ⟨⟨a1, a2, a3⟩, a4, a5⟩ := h
  refine ⟨⟨a1, h1, fun x hx y hy e => ?_⟩, a4, fun x hx y hy e => ?_⟩
  · subst e
    rcases h2 _ hy with h | h
    · exact a3 x hx x h rfl
    · exact (h3 x h).1 hx
  · subst e
    rcases hx with hx | hx
    · exact a5 x (.inl hx) x hy rfl
    · rcases h2 _ hx with h | h
      · exact a5 x (.inr h) x hy rfl
      · exact (h3 x h).2 hy
/-- an element of a row, replaced -/
theorem Sim.setElem (h : Sim C s a w R E) {n : Nat} {q : Root} (hq : s.st n = some (.root q)) (hu : s.us n = true) {i o : Nat} (hi : i < q.xs.length) {us : List Value} (ho : o + us.length ≤ q.t.sz) (h1 : ∀ u, u ∈ us → u.oneCell' = true) {L : TypeId} {z : Bool × CT} (hT : TabOK P T) (hl : lookO L T.lay = some z) {v : Value} (hv : v.cells.toList = us) (hvl : us.length = z.2.sz) {g : Nat} (hg : (E.V n).ownBlock = some g) (G0 : List Nat) (y : Den q.t)
    (hG0 : ∀ b, b ∈ G0 → ¬ R b ∧ (C.w0.heap.size ≤ b ∨ b ∈ C.F0) ∧ b < w.heap.size ∧ ∀ k, b ∉ E.F k) (hG0n : G0.Nodup)
    (hy : ∀ c G, (∀ b, b ∈ G → b ∈ E.F n) → G.Nodup → c.length = q.t.sz → Rp w R q.deep q.t q.xs[i] c G → ∃ G', G'.Nodup ∧ (∀ b, b ∈ G' → b ∈ G ∨ b ∈ G0) ∧ Rp w R q.deep q.t y (setL c o us) G') (vr : Nat) (hvr : q.ver < vr) :
    ∃ w' E', (storeVar L ⟨g, i * q.t.sz + o, none⟩ v).run P w = .ok () w' ∧ Sim C { s with st := upd s.st n (some (.root { q with xs := q.xs.set i y, ver := vr })) } a w' R E' := by
  obtain ⟨l1, l2, _⟩ := h.root hq
  obtain ⟨g', cap, cur, c1, c, c2, F1, G, F2, e1, e2, e3, e4, e5, e6, e7, e8, e9, e10⟩ := h.elem hq i hi
  rw [e1] at hg
  simp only [Value.ownBlock, Option.some.injEq] at hg
  subst hg
  have hnd := h.nd n
  rw [e5] at hnd
  obtain ⟨n1, n2⟩ := List.nodup_cons.1 hnd
  have n3 : G.Nodup := by
    have := (List.nodup_append.1 n2).1
    exact (List.nodup_append.1 this).2.1
  have hclen := e9.len
  have e3' : cur.toList = c1 ++ c ++ (c2 ++ cur.toList.drop (q.xs.length * q.t.sz)) := by
    have := List.take_append_drop (q.xs.length * q.t.sz) cur.toList
    rw [e3] at this
    rw [List.append_assoc, List.append_assoc] at this
    rw [List.append_assoc]
    exact this.symm
  have hcnt : c1.length + (c.length + c2.length) = q.xs.length * q.t.sz := by
    have := congrArg List.length e3
    simp only [List.length_take, Array.length_toList, List.length_append] at this
    have h2 : q.xs.length * q.t.sz ≤ cap * q.t.sz := Nat.mul_le_mul_right _ e6
    omega
  have hcl := congrArg List.length e3'
  rw [Array.length_toList] at hcl
  simp only [List.length_append] at hcl
  obtain ⟨G', p1, p2, p3⟩ := hy c G (fun b hb => by rw [e5]; simp [hb]) n3 hclen e9
  have hrun := storeVar_run (P := P) (w := w) hT hl e2 (q := i * q.t.sz + o) (v := v) (by rw [← Array.length_toList, hv, hvl]) (by rw [show v.cells.size = us.length by rw [← Array.length_toList, hv]]; omega) (by rw [hv]; exact h1)
  rw [hv] at hrun
  rw [← setL_eq us cur.toList (i * q.t.sz + o) (by have := Array.length_toList (xs := cur); omega), ← e4] at hrun
  have hnew : setL cur.toList (c1.length + o) us = c1 ++ setL c o us ++ (c2 ++ cur.toList.drop (q.xs.length * q.t.sz)) := by
    conv => lhs; rw [e3']
    exact setL_in us c1 c _ o (by omega)
  rw [hnew] at hrun
  have hne : ∀ k, k ≠ g' → (w.setRow g' (c1 ++ setL c o us ++ (c2 ++ cur.toList.drop (q.xs.length * q.t.sz))).toArray).heap[k]? = w.heap[k]? := fun k hk => setRow_ne w _ hk
  have hmem : ∀ b, b ∈ F1 ++ G' ++ F2 → b ∈ F1 ++ G ++ F2 ∨ b ∈ G0 := by
    intro b hb
    simp only [List.mem_append] at hb ⊢
    rcases hb with (hb | hb) | hb
    · simp [hb]
    · rcases p2 b hb with h | h <;> simp [h]
    · simp [hb]
  have hown : ∀ b, b ∈ F1 ++ G ++ F2 → b ∈ E.F n := fun b hb => by rw [e5]; exact List.mem_cons_of_mem _ hb
  have hgn : g' ∈ E.F n := by rw [e5]; simp
  have hG0d : ∀ b, b ∈ G0 → b ∉ E.F n := fun b hb => (hG0 b hb).2.2.2 n
  refine ⟨_, _, by rw [← e4]; exact hrun, h.set n hu (.root q) (.root { q with xs := q.xs.set i y, ver := vr }) hq (g' :: (F1 ++ G' ++ F2)) (fun q' hq' => ⟨q, rfl, by injection hq' with hq'; subst hq'; exact hvr⟩)
    (fun k hk hn => hne k (fun e => hn (by rw [e]; exact hgn))) (by simp) rfl rfl rfl (fun b hb => ?_) ?_ (fun k b hk hb hb' => ?_) (fun m E' mv hE hm => ?_)⟩
  · rcases List.mem_cons.1 hb with rfl | hb
    · have := h.own n b hgn
      exact ⟨this.1, by simpa using this.2.1, this.2.2⟩
    · rcases hmem b hb with hb | hb
      · have := h.own n b (hown b hb)
        exact ⟨this.1, by simpa using this.2.1, this.2.2⟩
      · have := hG0 b hb
        exact ⟨this.1, by simpa using this.2.2.1, this.2.1⟩
  · refine List.nodup_cons.2 ⟨fun hc => ?_, ?_⟩
    · rcases hmem _ hc with hb | hb
      · exact n1 hb
      · exact hG0d _ hb hgn
    · have hd1 : ∀ b, b ∈ G0 → b ∉ F1 ∧ b ∉ F2 := fun b hb => ⟨fun hc => hG0d b hb (hown b (by simp [hc])), fun hc => hG0d b hb (hown b (by simp [hc]))⟩
      exact nodup_swap n2 p1 p2 hd1
  · rcases List.mem_cons.1 hb with rfl | hb
    · exact h.dj k n b hk hb' hgn
    · rcases hmem b hb with hb | hb
      · exact h.dj k n b hk hb' (hown b hb)
      · exact (hG0 b hb).2.2.2 k hb'
  · subst hE; subst hm
    unfold SR
    dsimp only
    rw [upd_at]
    refine ⟨by simpa using l1, l2, c1 ++ setL c o us ++ c2, F1 ++ G' ++ F2, ⟨by simp [setL_len]; exact hcnt, .inr ⟨g', cap, _, by rw [List.length_set]; exact e1, Nat.zero_le _, setRow_at w e2 _, by rw [List.length_set]; exact e6, e7, ?_, ?_⟩⟩, by simp [upd_at, e1, Value.ownBlock], ?_⟩
    · rw [← e8, List.size_toArray]
      rw [← hnew, setL_len, Array.length_toList]
    · rw [List.length_set, List.toList_toArray, ← List.append_assoc]
      rw [List.take_left']
      simp only [List.length_append, setL_len]
      omega
    · refine e10 _ y _ _ (fun x cs H hH hp => hp.keep mv.fR (fun b hb => hne b (fun e => ?_))) (p3.keep mv.fR (fun b hb => hne b (fun e => ?_)))
      · subst e
        rcases hH _ hb with hb | hb <;> exact n1 (by simp [hb])
      · subst e
        rcases p2 _ hb with hb | hb
        · exact n1 (by simp [hb])
        · exact hG0d _ hb hgn

theorem dropL_F_le (l : List Nat) (E : Env) (k b : Nat) (h : b ∈ (E.dropL l).F k) : b ∈ E.F k ∧ k ∉ l := by
  by_cases hk : k ∈ l
  · rw [dropL_in l E k hk] at h; cases h
  · rw [dropL_out l E k hk] at h; exact ⟨h, hk⟩
theorem st_eq {s1 s2 : St} (h1 : s1.tm = s2.tm) (h2 : s1.st = s2.st) (h3 : s1.us = s2.us) (h4 : s1.nt = s2.nt) : s1 = s2 := by
  cases s1; cases s2; simp_all
theorem g_store_pel (hT : TabOK P T) (h : Sim C s a w R E) {m : Mem} (hm : Sub m s.st) {o : Oper} {L : TypeId} {x y : Operand} (ho : o.op = .store L x y) {z : Bool × CT} (hl : lookO L T.lay = some z) {n : Nat} {i : Int} {q : Nat} (hx : s.op x = .pel n i q) {r : Root} (hb : m n = some (.root r)) {l : List AV} (hf : flat (s.op y) = some l)
    (hok : okCells l = true) (h1 : l.length = z.2.sz) (h2 : q + l.length ≤ r.t.sz) {v : Den r.t} {ow : Bool} {used : List Nat} (hp : putCs m r.t (r.xs.getD i.toNat r.t.z) q l = some (v, ow, used)) (hnd : nodupN (n :: used) = true) :
    Goal C P o s a w .junk (gone used ++ [⟨n, some (.root { r with xs := r.xs.set i.toNat v, deep := r.deep && ow, ver := r.ver + 1 }), false⟩]) := by
  have hq := hm n _ hb
  obtain ⟨hu, i0, i1, g, hg, hv⟩ : RC w R s.st s.us E (.pel n i q) (a.eval x) := by have := h.op x; rw [hx] at this; exact this
  obtain ⟨l1, l2, _⟩ := h.root hq
  rw [l1] at i1
  have hi : i.toNat < r.xs.length := by omega
  rw [getD_lt _ _ _ hi] at hp
  have hfl := flat_rc hf (h.op y)
  obtain ⟨hus, p1, p2⟩ := putCs_ok h hm hp h2 hfl
  have hnd' := nodupN_iff hnd
  obtain ⟨hnu, hun⟩ := List.nodup_cons.1 hnd'
  have hone := okCells_all hok hfl
  have hlen := hfl.len
  obtain ⟨f1, f2, f3, f4, f5⟩ := gone_us used s
  obtain ⟨d1, d2, d3, d4⟩ := dropL_V used E
  have fin : ∀ {s' : St} {w' : World} {R' : Nat → Prop} {E' : Env}, (storeVar L ⟨g, i.toNat * r.t.sz + q, none⟩ (a.eval y)).run P w = .ok () w' → Sim C s' a w' R' E' → s' = s.write (gone used ++ [⟨n, some (.root { r with xs := r.xs.set i.toNat v, deep := r.deep && ow, ver := r.ver + 1 }), false⟩]) →
      Goal C P o s a w .junk (gone used ++ [⟨n, some (.root { r with xs := r.xs.set i.toNat v, deep := r.deep && ow, ver := r.ver + 1 }), false⟩]) := by
    intro s' w' R' E' hr hs he
    subst he
    exact ⟨undef, w', R', E', .inr ⟨rfl, by rw [← l2] at hr; simp only [execOp, ho, hv, Instr.storeAt, Instr.sureAddr, Sem.run_bind, Sem.run_pure, Result.andThen_ok, hr]⟩, hs.put o.dst (v := .junk) (u := undef) trivial⟩
  by_cases hd : (r.deep && ow) = true
  · simp only [Bool.and_eq_true] at hd
    obtain ⟨re, rt, rx, rd, rp, rv⟩ := r
    obtain ⟨hd1, hd2⟩ := hd
    simp only at hd1
    subst hd1
    have hA := h.goneDrop used
    have hq' : (s.write (gone used)).st n = some (.root ⟨re, rt, rx, true, rp, rv⟩) := by rw [f4 n hnu]; exact hq
    obtain ⟨w', E', hr, hs⟩ := hA.setElem hq' (by rw [f1]; exact hu) hi (us := (a.eval y).cells.toList) (o := q) (by rw [hlen]; exact h2) hone hT hl (v := a.eval y) rfl (by rw [hlen, h1]) (g := g) (by rw [d1]; exact hg) (dropsF E used) v (fun b hb => by
        obtain ⟨a1, a2, a3, a4⟩ := dropsF_own h hb
        exact ⟨a1, a3, a2, a4⟩) (dropsF_nodup h hun) (fun c G hG hGn hc hrp => by
        obtain ⟨F', x1, x2, x3⟩ := p1 hd2 c G hrp (List.nodup_append.2 ⟨hGn, dropsF_nodup h hun, fun b hb b' hb' e => by
          subst e
          exact (dropsF_own h hb').2.2.2 n (hG b hb)⟩)
        exact ⟨F', x1, x2, x3⟩) (rv + 1) (by simp)
    refine fin hr hs ?_
    rw [write_app]
    refine st_eq ?_ ?_ ?_ ?_ <;> simp [St.write, hd2]
    rw [f1, hu, ← hu, ← f1, upd_self]
  · have hd' : (r.deep && ow) = false := by simpa using hd
    obtain ⟨re, rt, rx, rd, rp, rv⟩ := r
    have hA := h.goneFreeze used
    have hq' : (s.write (gone used)).st n = some (.root ⟨re, rt, rx, rd, rp, rv⟩) := by rw [f4 n hnu]; exact hq
    have hB := hA.soften hq' (by rw [f1]; exact hu)
    obtain ⟨w', E', hr, hs⟩ := hB.setElem (n := n) (q := ⟨re, rt, rx, false, rp, rv⟩) (upd_at ..) (by rw [f1]; exact hu) hi (us := (a.eval y).cells.toList) (o := q) (by rw [hlen]; exact h2) hone hT hl (v := a.eval y) rfl (by rw [hlen, h1]) (g := g) (by rw [d1]; exact hg) [] v (fun b hb => by cases hb) (by simp) (fun c G hG hGn hc hrp => by
        have hG0 := hrp.noF
        subst hG0
        exact ⟨[], by simp, by simp, p2 _ (fun b hb => .inl (.inl hb)) (fun k hk b hb => .inl (.inr ⟨k, hk, hb⟩)) c hrp⟩) (rv + 1) (by simp)
    refine fin hr hs ?_
    rw [write_app]
    refine st_eq ?_ ?_ ?_ ?_
    · rfl
    · simp only [St.write]; rw [upd_upd]; simp only at hd'; simp [hd']
    · simp only [St.write, Bool.or_false, upd_self]
    · rfl
end Go.Ev

set_option autoImplicit false
set_option linter.unusedVariables false
namespace Go.Ev
variable {P : Program} {T : Tab} {C : Ctx} {s : St} {a : Act} {w : World} {R : Nat → Prop} {E : Env}

/-! append -/
theorem append_none (base : Nat) (t ty e : TypeId) (i : TypeInfo) (size : Nat) (ht : P.underlying t = some (.slice e)) (hi : P.info? e = some i) (c : Nat)
    (v : Value) (n : Nat) (xs : List Value) (hown : w.ownsRow base e size v n xs) :
    (Builtin.append_ #[t, t] ty #[v, .slice none 0 c]).run P w = .ok v w := by
  rcases hown.2 with ⟨rfl, rfl⟩ | ⟨g, cap, cur, rfl, _, _, hnc, _⟩
  · simp [Builtin.append_, run_underlying ht, sizeOf, typeInfo, hi, Builtin.lenOf, Builtin.firstCells]
  · simp [Builtin.append_, run_underlying ht, sizeOf, typeInfo, hi, Builtin.lenOf, Builtin.firstCells, hnc, storeCells]

mutual
theorem Rp.ones {w : World} {R : Nat → Prop} : ∀ {d : Bool} {t : CT} {x : Den t} {cs : List Value} {F : List Nat}, Rp w R d t x cs F → ∀ u, u ∈ cs → u.oneCell' = true
  | _, .int _, _, _, _, h => by rw [h.1]; simp; rfl
  | _, .bool, _, _, _, h => by rw [h.1]; simp; rfl
  | _, .str, _, _, _, h => by rw [h.1]; simp; rfl
  | false, .sl e t, x, cs, F, ⟨A, c, ds, e1, _⟩ => by rw [e1]; simp; rfl
  | true, .sl e t, x, cs, F, ⟨v, ds, Fi, e1, h1, _⟩ => by
    rw [e1]
    simp
    rcases h1.2 with ⟨rfl, _⟩ | ⟨g, cap, cur, rfl, _⟩ <;> rfl
  | _, .nil, _, _, _, h => by rw [h.1]; simp
  | _, .cons a b, x, cs, F, ⟨c1, c2, F1, F2, e1, e2, h1, h2⟩ => by
    intro u hu
    rw [e1] at hu
    rcases List.mem_append.1 hu with hu | hu
    · exact h1.ones u hu
    · exact h2.ones u hu
end
theorem All.ones {w : World} {R : Nat → Prop} {d : Bool} {t : CT} : ∀ {l : List (Den t)} {cs : List Value} {F : List Nat}, All (Rp w R d t) l cs F → ∀ u, u ∈ cs → u.oneCell' = true
  | [], _, _, h => by rw [h.1]; simp
  | x :: r, cs, F, ⟨c1, c2, F1, F2, e1, e2, h1, h2⟩ => by
    intro u hu
    rw [e1] at hu
    rcases List.mem_append.1 hu with hu | hu
    · exact h1.ones u hu
    · exact h2.ones u hu

/-- what a row's value leads to, with its cells -/
def RowC (w : World) (R : Nat → Prop) (t : CT) (xs : List (Den t)) (v : Value) (ds : List Value) : Prop :=
  ∃ A c, v = .slice A xs.length c ∧ xs.length ≤ c ∧ All (Rp w R false t) xs ds [] ∧ (ds ≠ [] → ∃ a, A = some a ∧ R a.block ∧ Cells w a ds)
theorem RowAt.c {t : CT} {xs : List (Den t)} {v : Value} (h : RowAt w R t xs v) : ∃ ds, RowC w R t xs v ds := by
  obtain ⟨A, c, ds, h⟩ := h
  exact ⟨ds, A, c, h⟩
theorem Sim.rootRowC (h : Sim C s a w R E) {n : Nat} {q : Root} (hq : s.st n = some (.root q)) : ∃ ds Fi, w.ownsRow 0 q.e q.t.sz (E.V n) q.xs.length ds ∧ E.F n = (E.V n).ownBlock.toList ++ Fi ∧ All (Rp w R q.deep q.t) q.xs ds Fi ∧ RowC w (fun b => R b ∨ b ∈ E.F n) q.t q.xs (E.V n) ds := by
  obtain ⟨l1, l2, ds, Fi, h2, h3, h4⟩ := h.root hq
  obtain ⟨A, c, e, hc, hd⟩ := own_imm h2
  refine ⟨ds, Fi, h2, h3, h4, A, c, e, hc, h4.freeze (fun b hb => .inl hb) (fun b hb => .inr (by rw [h3]; exact List.mem_append.2 (.inr hb))), fun hne => ?_⟩
  obtain ⟨ad, ea, hb, hcs⟩ := hd hne
  exact ⟨ad, ea, .inr (by rw [h3]; exact List.mem_append.2 (.inl hb)), hcs⟩
/-- the run of an append onto a row that the call owns -/
theorem append_run (hT : TabOK P T) {S ty e by_ : Nat} {t : CT} (hS : lookO S T.elem = some e) (hsz : szOk T e t = true) (h0 : 0 < t.sz) (hby : lookO e T.byt = some by_) (hb0 : 0 < by_) {v : Value} {n : Nat} {ds : List Value} (hown : w.ownsRow 0 e t.sz v n ds)
    {R' : Nat → Prop} {ys : List (Den t)} {u : Value} {ds2 : List Value} (hu : RowC w R' t ys u ds2) (hb : ((n : Int) + (ys.length : Int)) * (by_ : Int) ≤ 140737488355328) :
      ∃ v' w', (Builtin.append_ #[S, S] ty #[v, u]).run P w = .ok v' w' ∧ w'.ownsRow 0 e t.sz v' (n + ys.length) (ds ++ ds2) ∧ w.grownBy w' v.ownBlock ∧ (v'.ownBlock = v.ownBlock ∨ v'.ownBlock = some w.heap.size) := by
  obtain ⟨A, c, e1, hc, hall, hne⟩ := hu
  obtain ⟨i, z, t', hi, his, hz, hzc, ht'⟩ := szOk_run hT hsz
  have hS' := hT.elem' hS
  have hbb := hT.byt' hby
  rw [hi] at hbb
  simp only [Option.map_some, Option.some.injEq] at hbb
  have hlen := hall.len (n := t.sz) (fun x c G hp => hp.len)
  cases A with
  | none =>
    have hds : ds2 = [] := by
      cases ds2 with
      | nil => rfl
      | cons x r =>
        obtain ⟨a, ha, _⟩ := hne (by simp)
        cases ha
    subst hds
    have hy : ys = [] := by
      cases ys with
      | nil => rfl
      | cons x r =>
        simp only [List.length_nil, List.length_cons, Nat.add_mul] at hlen
        omega
    subst hy
    subst e1
    exact ⟨v, w, append_none 0 S ty e i t.sz hS' hi c v n ds hown, by simpa using hown, ⟨rfl, rfl, rfl, Nat.le_refl _, fun _ _ _ => rfl⟩, .inl rfl⟩
  | some ad =>
    subst e1
    have hzl : z.cells.size = t.sz := by rw [← Array.length_toList, hzc, zv_len, ht']
    have hnews : ∀ j u, ds2[j]? = some u → w.cell? (ad.add j) = some u := by
      intro j u hj
      obtain ⟨a', ha', _, hcs⟩ := hne (by intro e; subst e; simp at hj)
      simp only [Option.some.injEq] at ha'
      subst ha'
      exact hcs j u hj
    have hbn : (n + ys.length) * by_ ≤ 140737488355328 := by
      have h3 : (((n + ys.length) * by_ : Nat) : Int) = ((n : Int) + (ys.length : Int)) * (by_ : Int) := by rw [Int.natCast_mul, Int.natCast_add]
      omega
    have hle : (n + ys.length) * 1 ≤ (n + ys.length) * by_ := Nat.mul_le_mul_left _ hb0
    obtain ⟨v', w', h1, h2, h3, _, h4⟩ := run_append_own_at (P := P) (w := w) 0 S ty e i z t.sz by_ hS' hi hz his hbb hzl h0 v n ds hown ad ys.length c ds2 hlen hnews hall.ones (by simp only [maxLen]; omega) hbn (Nat.zero_le _)
    exact ⟨v', w', h1, h2, h3, h4⟩

theorem Sim.appended (h : Sim C s a w R E) {dn : Nat} (hn : s.us dn = false) {q : Root} {v v' : Value} {w' : World} {ds : List Value} {Fi : List Nat} (hgr : w.grownBy w' v.ownBlock) (hbl : v'.ownBlock = v.ownBlock ∨ v'.ownBlock = some w.heap.size)
    (hown : w'.ownsRow 0 q.e q.t.sz v' q.xs.length ds) (hall : All (Rp w R q.deep q.t) q.xs ds Fi)
    (hF : ∀ b, b ∈ v.ownBlock.toList ++ Fi → ¬ R b ∧ (C.w0.heap.size ≤ b ∨ b ∈ C.F0) ∧ b < w.heap.size ∧ ∀ k, b ∉ E.F k) (hnd : (v.ownBlock.toList ++ Fi).Nodup) (d : Option Nat) :
    ∃ E', Sim C ((s.write [⟨dn, some (.root q), true⟩]).put d (.ref dn)) (a.put d v') w' R E' := by
  have hv : ∀ b, b ∈ v.ownBlock.toList → ¬ R b ∧ (C.w0.heap.size ≤ b ∨ b ∈ C.F0) ∧ b < w.heap.size ∧ ∀ k, b ∉ E.F k := fun b hb => hF b (List.mem_append.2 (.inl hb))
  have hsame : ∀ b, b < w.heap.size → b ∉ v.ownBlock.toList → w'.heap[b]? = w.heap[b]? := fun b hb hb' => hgr.block b hb (fun e => hb' (by rw [← e]; simp))
  have hk : Keep C.w0 w' C.F0 := ⟨hgr.os.trans h.keep.os, hgr.tape.trans h.keep.tape, hgr.output.trans h.keep.output, Nat.le_trans h.keep.size hgr.size, fun k hk hk0 => by
    rw [hsame k (Nat.lt_of_lt_of_le hk h.keep.size) (fun hc => ?_)]
    · exact h.keep.block k hk hk0
    · rcases (hv k hc).2.1 with h1 | h1
      · omega
      · exact hk0 h1⟩
  have h1 := h.turn (w' := w') (fun b hb hb' => hsame b hb (fun hc => ?_)) hgr.size hk
  · have hnb : v'.ownBlock.toList = v.ownBlock.toList ∨ v'.ownBlock.toList = [w.heap.size] := by
      rcases hbl with e | e <;> rw [e]
      · exact .inl rfl
      · exact .inr rfl
    have hFi : ∀ b, b ∈ Fi → b ∉ v.ownBlock.toList := fun b hb hc => (List.nodup_append.1 hnd).2.2 b hc b hb rfl
    refine h1.addRoot hn hown (hall.imp fun x cs G _ hG hp => hp.keep (fun b hb => ⟨hb, hsame b (h.lt b hb) (fun hc => (hv b hc).1 hb)⟩) (fun b hb => hsame b (hF b (by simp [hG b hb])).2.2.1 (hFi b (hG b hb)))) (fun b hb => ?_) ?_ (fun k b hb => ?_) d
    · rcases List.mem_append.1 hb with hb | hb
      · rcases hnb with e | e <;> rw [e] at hb
        · exact ⟨(hv b hb).1, (hv b hb).2.1⟩
        · simp only [List.mem_singleton] at hb
          subst hb
          exact ⟨fun hc => absurd (h.lt _ hc) (by omega), .inl h.keep.size⟩
      · have := hF b (by simp [hb])
        exact ⟨this.1, this.2.1⟩
    · rcases hnb with e | e <;> rw [e]
      · exact hnd
      · refine List.nodup_append.2 ⟨by simp, (List.nodup_append.1 hnd).2.1, fun b hb b' hb' e => ?_⟩
        simp only [List.mem_singleton] at hb
        subst hb; subst e
        exact absurd (hF _ (List.mem_append.2 (.inr hb'))).2.2.1 (by omega)
    · rcases List.mem_append.1 hb with hb | hb
      · rcases hnb with e | e <;> rw [e] at hb
        · exact (hv b hb).2.2.2 k
        · simp only [List.mem_singleton] at hb
          subst hb
          exact fun hc => absurd (h.own k _ hc).2.1 (by omega)
      · exact (hF b (by simp [hb])).2.2.2 k
  · rcases hb' with hb' | ⟨k, hb'⟩
    · exact (hv b hc).1 hb'
    · exact (hv b hc).2.2.2 k hb'
end Go.Ev

set_option autoImplicit false
set_option linter.unusedVariables false
namespace Go.Ev
variable {P : Program} {T : Tab} {C : Ctx} {s : St} {a : Act} {w : World} {R : Nat → Prop} {E : Env}

theorem Rp.flatAny {w w' : World} {R R' : Nat → Prop} {d d' : Bool} : ∀ {t : CT} {x : Den t} {cs : List Value} {F : List Nat}, t.hasSl = false → Rp w R d t x cs F → Rp w' R' d' t x cs []
  | .int _, _, _, _, _, h => ⟨h.1, rfl⟩
  | .bool, _, _, _, _, h => ⟨h.1, rfl⟩
  | .str, _, _, _, _, h => ⟨h.1, rfl⟩
  | .sl e t, _, _, _, ht, _ => by simp [CT.hasSl] at ht
  | .nil, _, _, _, _, h => ⟨h.1, rfl⟩
  | .cons a b, x, cs, F, ht, ⟨c1, c2, F1, F2, e1, e2, h1, h2⟩ => by
    simp only [CT.hasSl, Bool.or_eq_false_iff] at ht
    exact ⟨c1, c2, [], [], e1, rfl, h1.flatAny ht.1, h2.flatAny ht.2⟩
theorem All.flatAny {w w' : World} {R R' : Nat → Prop} {d d' : Bool} {t : CT} (ht : t.hasSl = false) : ∀ {l : List (Den t)} {cs : List Value} {F : List Nat}, All (Rp w R d t) l cs F → All (Rp w' R' d' t) l cs []
  | [], _, _, h => ⟨h.1, rfl⟩
  | x :: r, cs, F, ⟨c1, c2, F1, F2, e1, e2, h1, h2⟩ => ⟨c1, c2, [], [], e1, rfl, h1.flatAny ht, All.flatAny ht h2⟩
theorem All.own {w : World} {R : Nat → Prop} {d : Bool} {t : CT} : ∀ {l : List (Den t)} {cs : List Value} {F : List Nat}, All (Rp w R d t) l cs F → ∀ R', (∀ b, R b → R' b) → (∀ b, b ∈ F → R' b) → All (Rp w R' false t) l cs [] :=
  fun h R' h1 h2 => h.freeze h1 h2

theorem appX_ok (hT : TabOK P T) (h : Sim C s a w R E) {m : Mem} (hm : Sub m s.st) {S : TypeId} {x : AV} {v : Value} (hv : RV w R s.st s.us E x v) {q : Root} {g : List Nat} (he : appX T S m x = some (q, g)) :
    (∃ ds Fi, w.ownsRow 0 q.e q.t.sz v q.xs.length ds ∧ All (Rp w R q.deep q.t) q.xs ds Fi ∧ dropsF E g = v.ownBlock.toList ++ Fi) ∧ g.Nodup ∧ (g = [] ∧ v = .slice none 0 0 ∧ q.xs = [] ∨ ∃ n, g = [n] ∧ s.st n = some (.root q) ∧ v = E.V n ∧ s.us n = true) := by
  cases x with
  | nilsl =>
    simp only [appX] at he
    cases hS : lookO S T.elem with
    | none => rw [hS] at he; simp at he
    | some e =>
      rw [hS] at he
      simp only at he
      cases hl : lookO e T.lay with
      | none => rw [hl] at he; simp at he
      | some z =>
        rw [hl] at he
        simp only [Option.some.injEq, Prod.mk.injEq] at he
        obtain ⟨rfl, rfl⟩ := he
        have hv' : v = .slice none 0 0 := hv
        subst hv'
        exact ⟨⟨[], [], World.ownsRow_nil w 0 e _, ⟨rfl, rfl⟩, rfl⟩, by simp, .inl ⟨rfl, rfl, rfl⟩⟩
  | ref n =>
    simp only [appX] at he
    cases hmn : m n with
    | none => rw [hmn] at he; simp at he
    | some en =>
      rw [hmn] at he
      cases en with
      | box cs | mp es | zb ze => simp at he
      | root q' =>
        simp only at he
        cases hp : q'.pin with
        | true => rw [hp] at he; simp at he
        | false =>
          rw [hp] at he
          simp only [cond_false, Option.some.injEq, Prod.mk.injEq] at he
          obtain ⟨rfl, rfl⟩ := he
          have hq := hm n _ hmn
          obtain ⟨hu, hv', _⟩ : RC w R s.st s.us E (.ref n) v := hv
          obtain ⟨_, _, ds, Fi, h1, h2, h3⟩ := h.root hq
          exact ⟨⟨ds, Fi, by rw [hv']; exact h1, h3, by simp [dropsF, h2, hv']⟩, by simp, .inr ⟨n, rfl, hq, hv', hu⟩⟩
  | _ => simp [appX] at he

theorem appY_ok (h : Sim C s a w R E) {m : Mem} (hm : Sub m s.st) {t : CT} {g : List Nat} {y : AV} {u : Value} (hu : RV w R s.st s.us E y u) {ys : List (Den t)} {ow : Bool} {g2 : List Nat} (he : appY m t g y = some (ys, ow, g2)) :
    ∃ ds R', RowC w R' t ys u ds ∧ (ow = true → ∃ Fi, All (Rp w R true t) ys ds Fi ∧ Fi.Nodup ∧ ∀ b, b ∈ Fi → b ∈ dropsF E g2) ∧ All (Rp w (fun b => R b ∨ ∃ n, n ∈ g2 ∧ b ∈ E.F n) false t) ys ds [] ∧ g2.Nodup ∧ (∀ n, n ∈ g2 → n ∉ g ∧ s.us n = true) := by
  have elem_iff : ∀ (x : Nat) (l : List Nat), elemN x l = true ↔ x ∈ l := by
    intro x l
    induction l with
    | nil => simp [elemN]
    | cons y r ih =>
      unfold elemN
      by_cases hy : y = x
      · subst hy; simp
      · rw [beq_ne hy]; simp [ih, Ne.symm hy]
  cases y with
  | nilsl =>
    simp only [appY, Option.some.injEq, Prod.mk.injEq] at he
    obtain ⟨rfl, rfl, rfl⟩ := he
    have hu' : u = .slice none 0 0 := hu
    subst hu'
    exact ⟨[], R, ⟨none, 0, rfl, Nat.le_refl _, ⟨rfl, rfl⟩, fun h => absurd rfl h⟩, fun _ => ⟨[], ⟨rfl, rfl⟩, by simp, by simp⟩, ⟨rfl, rfl⟩, by simp, by simp⟩
  | ref n =>
    simp only [appY] at he
    cases hmn : m n with
    | none => rw [hmn] at he; simp at he
    | some en =>
      rw [hmn] at he
      cases en with
      | box cs | mp es | zb ze => simp at he
      | root q =>
        obtain ⟨qe, qt, qxs, qd, qp, qv⟩ := q
        simp only at he
        by_cases ht : qt = t
        · subst ht
          simp only [dite_true] at he
          cases hg : elemN n g with
          | true => rw [hg] at he; simp at he
          | false =>
            rw [hg] at he
            simp only [cond_false] at he
            have hng : n ∉ g := fun hc => by rw [(elem_iff n g).2 hc] at hg; cases hg
            have hq := hm n _ hmn
            obtain ⟨hus, hv', _⟩ : RC w R s.st s.us E (.ref n) u := hu
            obtain ⟨ds, Fi, h1, h2, h3, h4⟩ := h.rootRowC hq
            cases hs : qt.hasSl with
            | true =>
              rw [hs] at he
              cases hp : qp with
              | true => rw [hp] at he; simp at he
              | false =>
                rw [hp] at he
                simp only [cond_true, cond_false, Option.some.injEq, Prod.mk.injEq] at he
                obtain ⟨rfl, rfl, rfl⟩ := he
                rw [hv']
                have hnd := h.nd n
                rw [h2] at hnd
                refine ⟨ds, _, h4, fun hd => ⟨Fi, ?_, (List.nodup_append.1 hnd).2.1, fun b hb => by simp [dropsF, h2, hb]⟩, h3.own _ (fun b hb => .inl hb) (fun b hb => .inr ⟨n, by simp, by rw [h2]; simp [hb]⟩), by simp, by simp [hng, hus]⟩
                simp only at hd h3
                rw [hd] at h3
                exact h3
            | false =>
              rw [hs] at he
              simp only [cond_false, Option.some.injEq, Prod.mk.injEq] at he
              obtain ⟨rfl, rfl, rfl⟩ := he
              rw [hv']
              exact ⟨ds, _, h4, fun _ => ⟨[], h3.flatAny hs, by simp, by simp⟩, h3.flatAny hs, by simp, by simp⟩
        · simp [ht] at he
  | sl e t' xs src =>
    have hu' : RC w R s.st s.us E (.sl e t' xs src) u := hu
    cases src with
    | imm =>
      simp only [appY] at he
      by_cases ht : t' = t
      · subst ht
        simp only [dite_true, Option.some.injEq, Prod.mk.injEq] at he
        obtain ⟨rfl, rfl, rfl⟩ := he
        obtain ⟨ds, h1⟩ := (rowAt_of (hu'.2.2.1 rfl)).c
        obtain ⟨A, c, e1, e2, h2, h3⟩ := h1
        exact ⟨ds, R, ⟨A, c, e1, e2, h2, h3⟩, fun hf => ⟨[], h2.flatAny (by simpa using hf), by simp, by simp⟩, h2.own _ (fun b hb => .inl hb) (by simp), by simp, by simp⟩
      · simp [ht] at he
    | inn n ver p =>
      simp only [appY] at he
      by_cases ht : t' = t
      · subst ht
        simp only [dite_true] at he
        cases hc : (liveSrc m (.inn n ver p) && !t'.hasSl) with
        | false => rw [hc] at he; simp at he
        | true =>
          rw [hc] at he
          simp only [cond_true, Option.some.injEq, Prod.mk.injEq] at he
          obtain ⟨rfl, rfl, rfl⟩ := he
          simp only [Bool.and_eq_true, Bool.not_eq_true'] at hc
          obtain ⟨ds, h1⟩ := (rowAt_of (hu'.2.2.1 (hm.live hc.1))).c
          obtain ⟨A, c, e1, e2, h2, h3⟩ := h1
          exact ⟨ds, _, ⟨A, c, e1, e2, h2, h3⟩, fun hf => ⟨[], h2.flatAny hc.2, by simp, by simp⟩, h2.flatAny hc.2, by simp, by simp⟩
      · simp [ht] at he
  | _ => simp [appY] at he

theorem dropsF_dj (h : Sim C s a w R E) {g g2 : List Nat} (hd : ∀ n, n ∈ g2 → n ∉ g) {b : Nat} (hb : b ∈ dropsF E g) (hb2 : b ∈ dropsF E g2) : False := by
  obtain ⟨n, hn, h1⟩ := List.mem_flatMap.1 hb
  obtain ⟨k, hk, h2⟩ := List.mem_flatMap.1 hb2
  exact h.dj n k b (fun e => hd k hk (e ▸ hn)) h1 h2
theorem dropL_both (g g2 : List Nat) (E : Env) (k : Nat) {b : Nat} (hb : b ∈ ((E.dropL g).dropL g2).F k) : b ∈ E.F k ∧ k ∉ g ∧ k ∉ g2 := by
  obtain ⟨h1, h2⟩ := dropL_F_le g2 _ k b hb
  obtain ⟨h3, h4⟩ := dropL_F_le g _ k b h1
  exact ⟨h3, h4, h2⟩
theorem goal_append (hT : TabOK P T) {o : Oper} {c : Call} (ho : o.op = .call c) (hc : c.callee = .builtin .append) {x y : Operand} (hx : c.args = #[x, y]) {S : TypeId} (hS : c.argTypes = #[S, S]) {s' : St} {dn : Nat} {w' : World} {v' : Value} {R' : Nat → Prop} {ws : List W}
    (hr : (Builtin.append_ #[S, S] o.type #[a.eval x, a.eval y]).run P w = .ok v' w') (hs : ∃ E', Sim C (s'.put o.dst (.ref dn)) (a.put o.dst v') w' R' E') (he : s.write ws = s') : Goal C P o s a w (.ref dn) ws := by
  obtain ⟨E', hs⟩ := hs
  subst he
  exact ⟨v', w', R', E', .inl (by simp [execOp, ho, resolve, hc, hx, hS, invoke, builtin, hr]), hs⟩

theorem g_append (hT : TabOK P T) (h : Sim C s a w R E) {m : Mem} (hm : Sub m s.st) {o : Oper} {c : Call} (ho : o.op = .call c) (hc : c.callee = .builtin .append) {x y : Operand} (hx : c.args = #[x, y]) {S : TypeId} (hS : c.argTypes = #[S, S])
    {q : Root} {g : List Nat} (hax : appX T S m (s.op x) = some (q, g)) {ys : List (Den q.t)} {ow : Bool} {g2 : List Nat} (hay : appY m q.t g (s.op y) = some (ys, ow, g2)) {by_ : Nat} (he : lookO S T.elem = some q.e) (hby : lookO q.e T.byt = some by_) (hb0 : 0 < by_) (h0 : 0 < q.t.sz) (hsz : szOk T q.e q.t = true)
    (hb : ((q.xs.length : Int) + (ys.length : Int)) * (by_ : Int) ≤ 140737488355328) {dn : Nat} (hdn : s.us dn = false) :
    Goal C P o s a w (.ref dn) (gone g ++ (gone g2 ++ [⟨dn, some (.root ⟨q.e, q.t, q.xs ++ ys, q.deep && ow, false, 0⟩), true⟩])) := by
  obtain ⟨⟨ds, Fi, x1, x2, x3⟩, x4, x5⟩ := appX_ok hT h hm (h.op x) hax
  obtain ⟨ds2, R2, y1, y2, y3, y4, y5⟩ := appY_ok h hm (h.op y) hay
  obtain ⟨v', w', hr, r1, r2, r3⟩ := append_run (ty := o.type) hT he hsz h0 hby hb0 x1 y1 hb
  rw [← List.length_append] at r1
  obtain ⟨f1, _, _, _, _⟩ := gone_us g s
  obtain ⟨f2, _, _, _, _⟩ := gone_us g2 (s.write (gone g))
  have hxF : ∀ b, b ∈ (a.eval x).ownBlock.toList ++ Fi → b ∈ dropsF E g := fun b hb => by rw [x3]; exact hb
  by_cases hd : (q.deep && ow) = true
  · rw [hd]
    simp only [Bool.and_eq_true] at hd
    obtain ⟨Fi2, z1, z2, z3⟩ := y2 hd.2
    rw [hd.1] at x2
    have hA := (h.goneDrop g).goneDrop g2
    have hnd := dropsF_nodup h x4
    rw [x3] at hnd
    refine goal_append hT ho hc hx hS hr (hA.appended (dn := dn) (q := ⟨q.e, q.t, q.xs ++ ys, true, false, 0⟩) (v := a.eval x) (Fi := Fi ++ Fi2) (by rw [f2, f1]; exact hdn) r2 r3 r1 (x2.app z1) (fun b hb => ?_) ?_ o.dst) (by rw [write_app, write_app])
    · have hb' : b ∈ dropsF E g ∨ b ∈ dropsF E g2 := by
        rw [← List.append_assoc] at hb
        rcases List.mem_append.1 hb with hb | hb
        · exact .inl (hxF b hb)
        · exact .inr (z3 b hb)
      have hno : ∀ k, b ∉ ((E.dropL g).dropL g2).F k := fun k hk => by
        obtain ⟨k1, k2, k3⟩ := dropL_both g g2 E k hk
        rcases hb' with hb' | hb' <;> obtain ⟨n, hn, hbn⟩ := List.mem_flatMap.1 hb'
        · exact h.dj n k b (fun e => k2 (e ▸ hn)) hbn k1
        · exact h.dj n k b (fun e => k3 (e ▸ hn)) hbn k1
      rcases hb' with hb' | hb'
      · have := dropsF_own h hb'
        exact ⟨this.1, this.2.2.1, this.2.1, hno⟩
      · have := dropsF_own h hb'
        exact ⟨this.1, this.2.2.1, this.2.1, hno⟩
    · rw [← List.append_assoc]
      refine List.nodup_append.2 ⟨hnd, z2, fun b hb b' hb' e => ?_⟩
      subst e
      exact dropsF_dj h (fun n hn => (y5 n hn).1) (hxF b hb) (z3 b hb')
  · have hd' : (q.deep && ow) = false := by simpa using hd
    rw [hd']
    rcases x5 with ⟨rfl, e1, e2⟩ | ⟨n, rfl, e1, e2, e3⟩
    · have hA := h.goneFreeze g2
      have hFi : ds = [] := by
        have := x1.1
        rw [e2] at this
        simpa using this
      subst hFi
      obtain ⟨qe, qt, qxs, qd, qp, qv⟩ := q
      simp only at e2
      subst e2
      refine goal_append hT ho hc hx hS hr (hA.appended (dn := dn) (q := ⟨qe, qt, [] ++ ys, false, false, 0⟩) (v := a.eval x) (Fi := []) (by rw [(gone_us g2 s).1]; exact hdn) r2 r3 r1 (by simpa using y3) (fun b hb => ?_) ?_ o.dst) (by rw [write_app, write_app]; rfl)
      · rw [e1] at hb; simp [Value.ownBlock] at hb
      · rw [e1]; simp [Value.ownBlock]
    · obtain ⟨qe, qt, qxs, qd, qp, qv⟩ := q
      simp only [dropsF, List.flatMap_cons, List.flatMap_nil, List.append_nil] at x3
      have hn2 : n ∉ g2 := fun hc => (y5 n hc).1 (by simp)
      have hfin : ((s.write (gone [n])).write (gone g2)).write [⟨dn, some (.root ⟨qe, qt, qxs ++ ys, false, false, 0⟩), true⟩] = s.write (gone [n] ++ (gone g2 ++ [⟨dn, some (.root ⟨qe, qt, qxs ++ ys, false, false, 0⟩), true⟩])) := by rw [write_app, write_app]
      have hB := h.soften e1 e3
      have hC := hB.goneDrop [n]
      have hst : ({ s with st := upd s.st n (some (.root { (⟨qe, qt, qxs, qd, qp, qv⟩ : Root) with deep := false })) } : St).write (gone [n]) = s.write (gone [n]) := by
        rw [gone_cons, gone_cons]
        simp only [upd_upd]
      rw [hst] at hC
      have hD := hC.goneFreeze g2
      have hblk : ∀ b, b ∈ (a.eval x).ownBlock.toList → b ∈ E.F n := fun b hb => by rw [x3]; simp [hb]
      have hR2 : ∀ b, (R b ∨ ∃ k, k ∈ g2 ∧ b ∈ E.F k) → ((R b ∨ (b ∈ E.F n ∧ b ∉ (E.V n).ownBlock.toList)) ∨ ∃ k, k ∈ g2 ∧ b ∈ (({ E with F := upd E.F n (E.V n).ownBlock.toList } : Env).dropL [n]).F k) := by
        rintro b (hb | ⟨k, hk, hb⟩)
        · exact .inl (.inl hb)
        · refine .inr ⟨k, hk, ?_⟩
          have hkn : k ≠ n := fun e => hn2 (e ▸ hk)
          rw [dropL_out [n] _ k (by simpa using hkn)]
          simp only
          rw [upd_ne _ _ hkn]
          exact hb
      refine goal_append hT ho hc hx hS hr (hD.appended (dn := dn) (q := ⟨qe, qt, qxs ++ ys, false, false, 0⟩) (v := a.eval x) (Fi := []) (by rw [(gone_us g2 _).1, (gone_us [n] s).1]; exact hdn) r2 r3 r1 ?_ (fun b hb => ?_) ?_ o.dst) hfin.symm
      · have q1 := y3.own _ (fun b hb => hR2 b hb) (by simp)
        have q2 := x2.own (fun b => (R b ∨ (b ∈ E.F n ∧ b ∉ (E.V n).ownBlock.toList)) ∨ ∃ k, k ∈ g2 ∧ b ∈ (({ E with F := upd E.F n (E.V n).ownBlock.toList } : Env).dropL [n]).F k) (fun b hb => .inl (.inl hb)) (fun b hb => .inl (.inr ⟨by rw [x3]; simp [hb], fun hc => by
          have := h.nd n
          rw [x3] at this
          rw [e2] at this
          exact (List.nodup_append.1 this).2.2 b hc b hb rfl⟩))
        exact q2.app q1
      · simp only [List.append_nil] at hb
        have hbn := hblk b hb
        obtain ⟨o1, o2, o3⟩ := h.own n b hbn
        refine ⟨?_, o3, o2, fun k hk => ?_⟩
        · rintro ((hc | ⟨_, hc⟩) | ⟨k, hk, hc⟩)
          · exact o1 hc
          · rw [← e2] at hc; exact hc hb
          · have hkn : k ≠ n := fun e => hn2 (e ▸ hk)
            rw [dropL_out [n] _ k (by simpa using hkn)] at hc
            simp only at hc
            rw [upd_ne _ _ hkn] at hc
            exact h.dj k n b hkn hc hbn
        · obtain ⟨k1, k2, k3⟩ := dropL_both [n] g2 _ k hk
          have hkn : k ≠ n := by simpa using k2
          simp only at k1
          rw [upd_ne _ _ hkn] at k1
          exact h.dj k n b hkn k1 hbn
      · rw [List.append_nil]
        cases (a.eval x).ownBlock <;> simp
end Go.Ev

set_option autoImplicit false
set_option linter.unusedVariables false
namespace Go.Ev
variable {P : Program} {T : Tab} {C : Ctx} {s : St} {a : Act} {w : World} {R : Nat → Prop} {E : Env}

/-! struct literals -/
theorem TabOK.fldAll (h : TabOK P T) {S : Nat} {l : List (Nat × Nat × Bool)} (he : lookO S T.fld = some l) :
    ∃ fs : Array Field, P.underlying S = some (.struct fs) ∧ fs.toList.mapM (fun f => (P.info? f.type).map fun i => (f.offset, i.size)) = some (l.map fun y => (y.1, y.2.1)) := by
  have h1 := lookO_map _ _ S l T.fld h.fld he
  simp only at h1
  cases hu : P.underlying S with
  | none => rw [hu] at h1; simp at h1
  | some d =>
    rw [hu] at h1
    simp only [Option.bind_some] at h1
    cases d with
    | struct fs =>
      simp only [Option.some.injEq] at h1
      refine ⟨fs, rfl, ?_⟩
      generalize fs.toList = k at h1
      clear hu he
      induction k generalizing l with
      | nil =>
        cases l with
        | nil => rfl
        | cons y r => simp at h1
      | cons f k ih =>
        cases l with
        | nil => simp at h1
        | cons y r =>
          simp only [List.map_cons, List.cons.injEq, Prod.mk.injEq] at h1
          obtain ⟨⟨a1, a2, a3⟩, h2⟩ := h1
          rw [List.mapM_cons, ih h2]
          cases hi : P.info? f.type with
          | none => rw [hi] at a2; simp at a2
          | some i =>
            rw [hi] at a2
            simp only [Option.map_some, Option.some.injEq] at a2
            simp [a1, a2]
    | _ => simp at h1

theorem fillC_ok {m : Mem} {us : Nat → Bool} {fs : List (Nat × Nat × Bool)} : ∀ {ps : List (Nat × AV)} {cs cs' : List AV} {acc : Array Value} {vs : List (Nat × Value)}, fillC fs cs ps = some cs' → L2 (RC w R m us E) cs acc.toList → L2 (fun p q => p.1 = q.1 ∧ RV w R m us E p.2 q.2) ps vs →
    ∃ arr, Instr.fill (fun x => (fs.map fun y => (y.1, y.2.1)).toArray[x]?) acc vs = some arr ∧ L2 (RC w R m us E) cs' arr.toList
  | [], cs, cs', acc, vs, he, hl, hv => by
    rw [show vs = [] from hv]
    simp only [fillC, Option.some.injEq] at he
    subst he
    exact ⟨acc, rfl, hl⟩
  | (i, x) :: r, cs, cs', acc, vs, he, hl, ⟨⟨i', v⟩, vs', e, ⟨h1, h2⟩, h3⟩ => by
    subst e
    simp only at h1 h2
    subst h1
    unfold fillC at he
    cases hf : fs[i]? with
    | none => rw [hf] at he; simp at he
    | some y =>
      obtain ⟨off, n, b⟩ := y
      rw [hf] at he
      cases hfl : flat x with
      | none => rw [hfl] at he; simp at he
      | some l =>
        rw [hfl] at he
        simp only at he
        cases hc : (Nat.beq l.length n && Nat.ble (off + n) cs.length) with
        | false => rw [hc] at he; simp at he
        | true =>
          rw [hc] at he
          simp only [cond_true] at he
          simp only [Bool.and_eq_true] at hc
          have e1 := Nat.eq_of_beq_eq_true hc.1
          have e2 := Nat.le_of_ble_eq_true hc.2
          have hrc := flat_rc hfl h2
          have hlen := hrc.len
          have hl2 := hl.len
          rw [Array.length_toList] at hlen hl2
          have h4 := fill_one acc v off (by omega)
          obtain ⟨arr, h5, h6⟩ := fillC_ok (acc := v.cells.zipIdx.foldl (fun cs (x : Value × Nat) => cs.setIfInBounds (off + x.2) x.1) acc) he (by
            rw [h4]
            have := hl.splice hrc off
            unfold splice
            rw [← Array.length_toList (xs := v.cells)]
            exact this) h3
          refine ⟨arr, ?_, h6⟩
          unfold Instr.fill
          have : ¬ (v.cells.size ≠ n || off + v.cells.size > acc.size) = true := by
            simp
            omega
          have hpl : (fs.map fun y => (y.1, y.2.1)).toArray[i]? = some (off, n) := by simp [hf]
          simp only [hpl, this]
          exact h5

theorem zip_l2 {α β γ : Type} {p : α → β → Prop} : ∀ (is : List γ) {xs : List α} {vs : List β}, L2 p xs vs → L2 (fun (u : γ × α) (v : γ × β) => u.1 = v.1 ∧ p u.2 v.2) (is.zip xs) (is.zip vs)
  | [], _, _, _ => by simp [L2]
  | _ :: _, [], _, e => by rw [show _ = [] from e]; simp [L2]
  | i :: is, x :: r, _, ⟨y, l', e, h1, h2⟩ => by rw [e]; exact ⟨_, _, rfl, ⟨rfl, h1⟩, zip_l2 is h2⟩

theorem g_build (hT : TabOK P T) (h : Sim C s a w R E) {o : Oper} {S : TypeId} {ps : Array (Nat × Operand)} (ho : o.op = .build S ps) {z : Bool × CT} (hl : lookO S T.lay = some z) {fs : List (Nat × Nat × Bool)} (hf : lookO S T.fld = some fs)
    {cs : List AV} (hc : fillC fs (zcells z.2) ((ps.toList.map (·.1)).zip ((ps.toList.map (·.2)).map s.op)) = some cs) : Goal C P o s a w (.agg cs) [] := by
  obtain ⟨⟨i, zz, hi, his, hz, hzc⟩, _⟩ := hT.lay' hl
  obtain ⟨fs', hu, hp⟩ := hT.fldAll hf
  have hev := zip_l2 (ps.toList.map (·.1)) (evals_rv h (ps.toList.map (·.2)))
  obtain ⟨arr, h1, h2⟩ := fillC_ok (acc := zz.cells) hc (by rw [hzc]; exact zcells_rc _) hev
  have hz2 : (ps.toList.map (·.1)).zip ((ps.toList.map (·.2)).map a.eval) = (ps.map fun (i, x) => (i, a.eval x)).toList := by
    rw [Array.toList_map]
    have : ∀ l : List (Nat × Operand), (l.map (·.1)).zip ((l.map (·.2)).map a.eval) = l.map (fun (i, x) => (i, a.eval x)) := by
      intro l
      induction l with
      | nil => rfl
      | cons x r ih => simp only [List.map_cons, List.zip_cons_cons, ih]
    exact this _
  rw [hz2] at h1
  have hrun := run_build (P := P) w S (ps.map fun (i, x) => (i, a.eval x)) arr (by
    unfold Program.built
    simp only [hi, hu, hz, hp]
    exact h1)
  refine goal_pure h (u := .agg arr) ⟨arr.toList, by simp, h2⟩ (by simp [execOp, ho, hrun])
end Go.Ev

set_option autoImplicit false
set_option linter.unusedVariables false
namespace Go.Ev
variable {P : Program} {T : Tab} {C : Ctx} {s : St} {a : Act} {w : World} {R : Nat → Prop} {E : Env}

/-! maps from texts to whole numbers -/
theorem TabOK.maps' (hT : TabOK P T) {S : TypeId} {u : Unit} (h : lookO S T.maps = some u) : ∃ k e i, P.underlying S = some (.map k e) ∧ P.underlying k = some .string ∧ P.info? e = some i ∧ i.zero = some (.int .i64 0) := by
  have h1 := lookO_map _ _ S u T.maps hT.maps h
  simp only at h1
  unfold isMapSI at h1
  split at h1
  · rename_i k e hu
    split at h1
    · rename_i i hk hi
      split at h1
      · rename_i n hz
        have hn : n = 0 := by simpa using h1
        subst hn
        exact ⟨k, e, i, hu, hk, hi, hz⟩
      · cases h1
    · cases h1
  · cases h1
theorem beqB (a b : ByteArray) : (a == b) = true ↔ a = b := by
  show ByteArray.beq a b = true ↔ a = b
  unfold ByteArray.beq
  simp [ByteArray.ext_iff]
theorem beqR (a : ByteArray) : (a == a) = true := (beqB a a).2 rfl
theorem bcomm (a b : ByteArray) : (a == b) = (b == a) := by
  cases h : a == b with
  | true => rw [(beqB _ _).1 h, beqR]
  | false =>
    cases h2 : b == a with
    | true => rw [(beqB _ _).1 h2, beqR] at h; cases h
    | false => rfl
theorem findNow_ok (k : ByteArray) : ∀ (es : List (ByteArray × Int)) (j i : Nat), Instr.findNow .string (.string k) (mpEnt j es) i = some (if mhas k es then some (i + midx k es, .int .i64 (mget k es)) else none)
  | [], j, i => rfl
  | e :: r, j, i => by
    have ih := findNow_ok k r (j + 1) (i + 1)
    simp only [mpEnt, Instr.findNow, Instr.sameNow, mhas, midx, mget, ih]
    by_cases hk : (k == e.1) = true
    · simp [hk]
    · rw [Bool.not_eq_true] at hk
      simp only [hk, Bool.false_or, cond_false]
      split <;> simp [Nat.add_assoc, Nat.add_comm 1]
theorem mhas_lt (k : ByteArray) : ∀ (es : List (ByteArray × Int)), mhas k es = true → midx k es < es.length
  | [], h => by simp [mhas] at h
  | e :: r, h => by
    simp only [midx]
    cases hk : k == e.1 with
    | true => simp
    | false => simp only [mhas, hk, Bool.false_or] at h; have := mhas_lt k r h; simp; omega
theorem mhas_not (k : ByteArray) (v : Int) : ∀ (es : List (ByteArray × Int)), mhas k es = false → mput k v es = es ++ [(k, v)] ∧ midx k es = es.length ∧ mget k es = 0
  | [], h => ⟨rfl, rfl, rfl⟩
  | e :: r, h => by
    simp only [mhas, Bool.or_eq_false_iff] at h
    obtain ⟨h1, h2, h3⟩ := mhas_not k v r h.2
    simp [mput, midx, mget, h.1, h1, h2, h3]
theorem mpEnt_app : ∀ (es fs : List (ByteArray × Int)) (j : Nat), mpEnt j (es ++ fs) = mpEnt j es ++ mpEnt (j + es.length) fs
  | [], fs, j => by simp [mpEnt]
  | e :: r, fs, j => by simp only [List.cons_append, mpEnt, mpEnt_app r fs (j + 1), List.length_cons]; congr 3; omega
theorem mpEnt_len : ∀ (es : List (ByteArray × Int)) (j : Nat), (mpEnt j es).length = es.length
  | [], j => rfl
  | e :: r, j => by simp [mpEnt, mpEnt_len r]
theorem mput_len (k : ByteArray) (v : Int) : ∀ (es : List (ByteArray × Int)), mhas k es = true → (mput k v es).length = es.length
  | [], h => by simp [mhas] at h
  | e :: r, h => by
    simp only [mput]
    cases hk : k == e.1 with
    | true => simp
    | false => simp only [mhas, hk, Bool.false_or] at h; simp [mput_len k v r h]
theorem mpEnt_mod (k : ByteArray) (v : Int) : ∀ (es : List (ByteArray × Int)) (j : Nat), mhas k es = true → (mpEnt j es).modify (midx k es) (fun e => { e with key := .string k, val := .int .i64 v }) = mpEnt j (mput k v es)
  | [], j, h => by simp [mhas] at h
  | e :: r, j, h => by
    simp only [mpEnt, midx, mput]
    cases hk : k == e.1 with
    | true => simp [mpEnt]
    | false =>
      simp only [mhas, hk, Bool.false_or] at h
      simp only [cond_false, List.modify_succ_cons, mpEnt, mpEnt_mod k v r (j + 1) h]
theorem mpEnt_modk (k : ByteArray) : ∀ (es : List (ByteArray × Int)) (j : Nat), mhas k es = true → (mpEnt j es).modify (midx k es) (fun e => { e with key := .string k }) = mpEnt j (mput k (mget k es) es)
  | [], j, h => by simp [mhas] at h
  | e :: r, j, h => by
    simp only [mpEnt, midx, mput, mget]
    cases hk : k == e.1 with
    | true => simp [mpEnt]
    | false =>
      simp only [mhas, hk, Bool.false_or] at h
      simp only [cond_false, List.modify_succ_cons, mpEnt, mpEnt_modk k r (j + 1) h]
theorem mpEnt_at (k : ByteArray) : ∀ (es : List (ByteArray × Int)) (j : Nat), mhas k es = true → ∃ v : Int, (mpEnt j es)[midx k es]? = some ⟨.string k, .int .i64 v, j + midx k es⟩
  | [], j, h => by simp [mhas] at h
  | e :: r, j, h => by
    simp only [mpEnt, midx]
    cases hk : k == e.1 with
    | true => rw [(beqB _ _).1 hk]; exact ⟨_, rfl⟩
    | false =>
      simp only [mhas, hk, Bool.false_or] at h
      obtain ⟨v, hv⟩ := mpEnt_at k r (j + 1) h
      refine ⟨v, ?_⟩
      simp only [cond_false, List.getElem?_cons_succ, hv, Option.some.injEq, MapEntry.mk.injEq, true_and]
      omega
theorem mpEnt_set (v : Int) : ∀ (es : List (ByteArray × Int)) (j i : Nat), (mpEnt j es).modify i (fun e => { e with val := .int .i64 v }) = mpEnt j (es.modify i fun e => (e.1, v))
  | [], j, i => by simp [mpEnt]
  | e :: r, j, 0 => by simp [mpEnt]
  | e :: r, j, i + 1 => by simp only [mpEnt, List.modify_succ_cons, mpEnt_set v r (j + 1) i]
theorem mpEnt_find : ∀ (es : List (ByteArray × Int)) (j i : Nat), i < es.length → (mpEnt j es).findIdx? (fun e => (e.born : Int) == ((j + i : Nat) : Int)) = some i
  | [], j, i, h => by simp at h
  | e :: r, j, 0, h => by simp [mpEnt, List.findIdx?_cons]
  | e :: r, j, i + 1, h => by
    have := mpEnt_find r (j + 1) i (by simpa using h)
    simp only [mpEnt, List.findIdx?_cons]
    have h1 : (((j : Nat) : Int) == ((j + (i + 1) : Nat) : Int)) = false := by simp; omega
    rw [h1]
    have h2 : (j + (i + 1) : Nat) = j + 1 + i := by omega
    simp only [Bool.false_eq_true, if_false, h2, this, Option.map_some]

theorem Sim.mp (h : Sim C s a w R E) {n : Nat} {es : List (ByteArray × Int)} (hb : s.st n = some (.mp es)) : E.F n = [E.B n] ∧ ∃ arr, w.heap[E.B n]? = some (.map arr es.length) ∧ arr.toList = mpEnt 0 es := by
  have := h.st n
  unfold SR at this
  rw [hb] at this
  exact this
/-- a map's entries change -/
theorem Sim.setMp (h : Sim C s a w R E) {n : Nat} (hu : s.us n = true) {es es' : List (ByteArray × Int)} (hb : s.st n = some (.mp es)) {arr : Array MapEntry} (ha : arr.toList = mpEnt 0 es') (d : Option Nat) {v : AV} {u : Value} (hv : RV { w with heap := w.heap.setIfInBounds (E.B n) (.map arr es'.length) } R (upd s.st n (some (.mp es'))) s.us { E with F := upd E.F n [E.B n] } v u) :
    Sim C ((s.write [⟨n, some (.mp es'), false⟩]).put d v) (a.put d u) { w with heap := w.heap.setIfInBounds (E.B n) (.map arr es'.length) } R { E with F := upd E.F n [E.B n] } := by
  obtain ⟨hF, arr0, hg, hrc⟩ := h.mp hb
  have hlt := (h.own n (E.B n) (by rw [hF]; simp)).2.1
  have hs := h.set n hu (.mp es) (.mp es') hb (w' := { w with heap := w.heap.setIfInBounds (E.B n) (.map arr es'.length) }) [E.B n] (fun q' e => by cases e)
    (fun k hk hn => by
      rw [hF] at hn
      show (w.heap.setIfInBounds (E.B n) _)[k]? = _
      rw [Array.getElem?_setIfInBounds_ne (by simpa using Ne.symm (by simpa using hn))]) (by simp) rfl rfl rfl (fun k hk => by
      simp only [List.mem_singleton] at hk
      subst hk
      have := h.own n (E.B n) (by rw [hF]; simp)
      exact ⟨this.1, by simpa using this.2.1, this.2.2⟩) (by simp) (fun k c hk hc hc' => by
      simp only [List.mem_singleton] at hc
      subst hc
      exact h.dj k n _ hk hc' (by rw [hF]; simp)) (fun m E' mv hE hm => by
      subst hE; subst hm
      unfold SR
      rw [upd_at]
      refine ⟨by simp [upd_at], arr, ?_, ha⟩
      show (w.heap.setIfInBounds (E.B n) _)[E.B n]? = _
      rw [Array.getElem?_setIfInBounds_self_of_lt hlt])
  rw [write_old]
  exact hs.put d hv

theorem run_checkKey (b : Bool) {k : TypeId} (hk : P.underlying k = some .string) (v : ByteArray) : (Instr.checkKey b 10000 k (.string v)).run P w = .ok () w := by
  rw [show (10000 : Nat) = 9999 + 1 from rfl]
  unfold Instr.checkKey
  simp [run_underlying hk]
theorem run_findKey {kt : TypeId} (hk : P.underlying kt = some .string) (k : ByteArray) {es : List (ByteArray × Int)} {l : List MapEntry} (hl : l = mpEnt 0 es) : (Instr.findKey kt (.string k) l).run P w = .ok (if mhas k es then some (midx k es, .int .i64 (mget k es)) else none) w := by
  subst hl
  unfold Instr.findKey
  simp [run_underlying hk, findNow_ok k es 0 0]
theorem run_stays (k : ByteArray) : (Instr.keyThatStays (.string k) (.string k)).run P w = .ok (.string k) w := by
  unfold Instr.keyThatStays
  simp [Instr.sameBits, beqR]

theorem rv_mref {m : Mem} {us : Nat → Bool} {n : Nat} {v : Value} (h : RV w R m us E (.mref n) v) : us n = true ∧ v = .map (some (E.B n)) := h

theorem g_makeMap (h : Sim C s a w R E) {o : Oper} {S : TypeId} (ho : o.op = .makeMap S none) {dn : Nat} (hn : s.us dn = false) : Goal C P o s a w (.mref dn) [⟨dn, some (.mp []), true⟩] := by
  have h1 := h.alloc (.map #[] 0)
  have h2 := h1.add dn hn (.mp []) undef [w.heap.size] w.heap.size 0 0 (fun b hb => by
      simp only [List.mem_singleton] at hb
      subst hb
      exact ⟨fun hc => absurd (h.lt _ hc) (by omega), by rw [size_alloc']; omega, .inl h.keep.size⟩) (by simp) (fun k b hb hc => by
      simp only [List.mem_singleton] at hb
      subst hb
      exact absurd (h.own k _ hc).2.1 (by omega)) (fun m us E' mv hus hE hm => by
      subst hE; subst hm
      unfold SR
      rw [upd_at]
      exact ⟨by simp [Env.add, upd_at], #[], by simp only [Env.add, upd_at]; exact heap_alloc_new w _, rfl⟩)
  rw [← write_new] at h2
  exact ⟨.map (some w.heap.size), _, R, _, .inl (by simp [execOp, ho, Instr.makeMap]), h2.put o.dst (And.intro (by simp [write_new, upd_at]) (by simp [Env.add, upd_at]))⟩

theorem g_lookup (hT : TabOK P T) (h : Sim C s a w R E) {o : Oper} {S : TypeId} {x y : Operand} {ok : Bool} (ho : o.op = .lookup S x y ok) {n : Nat} {k : ByteArray} (hx : s.op x = .mref n) (hy : s.op y = .str k) {u : Unit} (hS : lookO S T.maps = some u) {es : List (ByteArray × Int)} (hm : s.st n = some (.mp es)) :
    Goal C P o s a w (bif ok then .tup [.int .i64 (mget k es), .bool (mhas k es)] else .int .i64 (mget k es)) [] := by
  obtain ⟨kt, e, i, h1, h2, h3, h4⟩ := hT.maps' hS
  have hvx := h.op x
  rw [hx] at hvx
  obtain ⟨_, hvx⟩ := rv_mref hvx
  have hvy := h.op y
  rw [hy] at hvy
  have hvy := rv_str hvy
  obtain ⟨hF, arr, hg, ha⟩ := h.mp hm
  have hz : (if mhas k es then (Value.int .i64 (mget k es), true) else (Value.int .i64 0, false)) = (Value.int .i64 (mget k es), mhas k es) := by
    cases hh : mhas k es with
    | true => rfl
    | false => rw [(mhas_not k 0 es hh).2.2]; rfl
  have hrun : (Instr.lookup S (.map (some (E.B n))) (.string k) ok).run P w = .ok (if ok then .tuple #[.int .i64 (mget k es), .bool (mhas k es)] else .int .i64 (mget k es)) w := by
    unfold Instr.lookup
    simp only [Sem.run_bind, run_underlying h1, Result.andThen_ok, MapKept.run_getObj_map hg, Sem.run_pure, run_checkKey _ h2, run_findKey h2 k ha]
    cases hh : mhas k es with
    | true => cases ok <;> simp
    | false => rw [(mhas_not k 0 es hh).2.2]; cases ok <;> simp [zeroValue, typeInfo, h3, h4]
  refine goal_pure h (u := if ok then .tuple #[.int .i64 (mget k es), .bool (mhas k es)] else .int .i64 (mget k es)) ?_ (by simp only [execOp, ho, hvx, hvy, Sem.run_bind, hrun, Result.andThen_ok, Sem.run_pure])
  cases ok with
  | true => exact ⟨[_, _], rfl, _, _, rfl, rfl, _, _, rfl, rfl, rfl⟩
  | false => rfl

theorem g_mapUpdate (hT : TabOK P T) (h : Sim C s a w R E) {o : Oper} {S : TypeId} {x y z : Operand} (ho : o.op = .mapUpdate S x y z) {n : Nat} {k : ByteArray} {v : Int} (hx : s.op x = .mref n) (hy : s.op y = .str k) (hz : s.op z = .int .i64 v) {u : Unit} (hS : lookO S T.maps = some u) {es : List (ByteArray × Int)} (hm : s.st n = some (.mp es)) :
    Goal C P o s a w .junk [⟨n, some (.mp (mput k v es)), false⟩] := by
  obtain ⟨kt, e, i, h1, h2, h3, h4⟩ := hT.maps' hS
  have hvx := h.op x
  rw [hx] at hvx
  obtain ⟨hu, hvx⟩ := rv_mref hvx
  have hvy := h.op y
  rw [hy] at hvy
  have hvy := rv_str hvy
  have hvz := h.op z
  rw [hz] at hvz
  have hvz := rv_int hvz
  obtain ⟨hF, arr, hg, ha⟩ := h.mp hm
  have key : ∃ arr', arr'.toList = mpEnt 0 (mput k v es) ∧ (Instr.mapUpdate S (.map (some (E.B n))) (.string k) (.int .i64 v)).run P w = .ok () { w with heap := w.heap.setIfInBounds (E.B n) (.map arr' (mput k v es).length) } := by
    unfold Instr.mapUpdate
    simp only [Sem.run_bind, run_underlying h1, Result.andThen_ok, MapKept.run_getObj_map hg, Sem.run_pure, run_checkKey _ h2, run_findKey h2 k ha]
    cases hh : mhas k es with
    | true =>
      obtain ⟨v0, hv0⟩ := mpEnt_at k es 0 hh
      have hat : arr[midx k es]? = some ⟨.string k, .int .i64 v0, 0 + midx k es⟩ := by rw [← Array.getElem?_toList, ha]; exact hv0
      refine ⟨arr.modify (midx k es) fun e => { e with key := .string k, val := .int .i64 v }, by rw [Array.toList_modify, ha, mpEnt_mod k v es 0 hh], ?_⟩
      simp [hat, run_stays, MapKept.run_setObj_map _ hg, mput_len k v es hh]
    | false =>
      obtain ⟨e1, e2, e3⟩ := mhas_not k v es hh
      refine ⟨arr.push ⟨.string k, .int .i64 v, es.length⟩, by rw [Array.toList_push, ha, e1, mpEnt_app]; simp [mpEnt], ?_⟩
      simp [MapKept.run_setObj_map _ hg, e1]
  obtain ⟨arr', ha', hrun⟩ := key
  exact ⟨undef, _, R, _, .inr ⟨rfl, by simp only [execOp, ho, hvx, hvy, hvz, Sem.run_bind, hrun, Result.andThen_ok, Sem.run_map, Sem.run_pure]⟩, h.setMp hu hm ha' o.dst trivial⟩

theorem g_mapEntry (hT : TabOK P T) (h : Sim C s a w R E) {o : Oper} {S : TypeId} {x y : Operand} (ho : o.op = .mapEntry S x y) {n : Nat} {k : ByteArray} (hx : s.op x = .mref n) (hy : s.op y = .str k) {u : Unit} (hS : lookO S T.maps = some u) {es : List (ByteArray × Int)} (hm : s.st n = some (.mp es)) :
    Goal C P o s a w (.tup [.int .i64 (mget k es), .int .i64 (midx k es : Int)]) [⟨n, some (.mp (mput k (mget k es) es)), false⟩] := by
  obtain ⟨kt, e, i, h1, h2, h3, h4⟩ := hT.maps' hS
  have hvx := h.op x
  rw [hx] at hvx
  obtain ⟨hu, hvx⟩ := rv_mref hvx
  have hvy := h.op y
  rw [hy] at hvy
  have hvy := rv_str hvy
  obtain ⟨hF, arr, hg, ha⟩ := h.mp hm
  have key : ∃ arr', arr'.toList = mpEnt 0 (mput k (mget k es) es) ∧ (Instr.mapEntry S (.map (some (E.B n))) (.string k)).run P w = .ok (.tuple #[.int .i64 (mget k es), .int .i64 (midx k es : Int)]) { w with heap := w.heap.setIfInBounds (E.B n) (.map arr' (mput k (mget k es) es).length) } := by
    unfold Instr.mapEntry
    simp only [Sem.run_bind, run_underlying h1, Result.andThen_ok, MapKept.run_getObj_map hg, Sem.run_pure, run_checkKey _ h2, run_findKey h2 k ha]
    cases hh : mhas k es with
    | true =>
      obtain ⟨v0, hv0⟩ := mpEnt_at k es 0 hh
      have hat : arr[midx k es]? = some ⟨.string k, .int .i64 v0, 0 + midx k es⟩ := by rw [← Array.getElem?_toList, ha]; exact hv0
      refine ⟨arr.modify (midx k es) fun e => { e with key := .string k }, by rw [Array.toList_modify, ha, mpEnt_modk k es 0 hh], ?_⟩
      simp [hat, run_stays, MapKept.run_setObj_map _ hg, mput_len k _ es hh, goInt]
    | false =>
      obtain ⟨e1, e2, e3⟩ := mhas_not k (mget k es) es hh
      refine ⟨arr.push ⟨.string k, .int .i64 0, es.length⟩, by rw [Array.toList_push, ha, e1, e3, mpEnt_app]; simp [mpEnt], ?_⟩
      rw [e1, e3]
      simp [MapKept.run_setObj_map _ hg, e2, zeroValue, typeInfo, h3, h4, goInt]
  obtain ⟨arr', ha', hrun⟩ := key
  exact ⟨.tuple #[.int .i64 (mget k es), .int .i64 (midx k es : Int)], _, R, _, .inl (by simp only [execOp, ho, hvx, hvy, Sem.run_bind, hrun, Result.andThen_ok, Sem.run_map, Sem.run_pure]), h.setMp hu hm ha' o.dst ⟨[_, _], rfl, _, _, rfl, rfl, _, _, rfl, rfl, rfl⟩⟩

theorem g_entryStore (h : Sim C s a w R E) {o : Oper} {S : TypeId} {x y z : Operand} (ho : o.op = .entryStore S x y z) {n : Nat} {i v : Int} (hx : s.op x = .mref n) (hy : s.op y = .int .i64 i) (hz : s.op z = .int .i64 v) {es : List (ByteArray × Int)} (hm : s.st n = some (.mp es)) (h0 : 0 ≤ i) (h1 : i < (es.length : Int)) :
    Goal C P o s a w .junk [⟨n, some (.mp (es.modify i.toNat fun e => (e.1, v))), false⟩] := by
  have hvx := h.op x
  rw [hx] at hvx
  obtain ⟨hu, hvx⟩ := rv_mref hvx
  have hvy := h.op y
  rw [hy] at hvy
  have hvy := rv_int hvy
  have hvz := h.op z
  rw [hz] at hvz
  have hvz := rv_int hvz
  obtain ⟨hF, arr, hg, ha⟩ := h.mp hm
  have hfind : arr.findIdx? (fun e => (e.born : Int) == i) = some i.toNat := by
    have := mpEnt_find es 0 i.toNat (by omega)
    rw [← ha, ← List.findIdx?_toArray, Array.toArray_toList] at this
    rw [show ((0 + i.toNat : Nat) : Int) = i by omega] at this
    exact this
  have hrun : (Instr.entryStore S (.map (some (E.B n))) (.int .i64 i) (.int .i64 v)).run P w = .ok () { w with heap := w.heap.setIfInBounds (E.B n) (.map (arr.modify i.toNat fun e => { e with val := .int .i64 v }) es.length) } := by
    unfold Instr.entryStore
    simp [MapKept.run_getObj_map hg, asInt, asIntOf, hfind, MapKept.run_setObj_map _ hg]
  have hs := h.setMp hu hm (es' := es.modify i.toNat fun e => (e.1, v)) (arr := arr.modify i.toNat fun e => { e with val := .int .i64 v }) (by rw [Array.toList_modify, ha, mpEnt_set]) o.dst (v := .junk) (u := undef) trivial
  rw [List.length_modify] at hs
  exact ⟨undef, _, R, _, .inr ⟨rfl, by simp only [execOp, ho, hvx, hvy, hvz, Sem.run_bind, hrun, Result.andThen_ok, Sem.run_map, Sem.run_pure]⟩, hs⟩

theorem g_len_map (hT : TabOK P T) (h : Sim C s a w R E) {o : Oper} {c : Call} (ho : o.op = .call c) (hc : c.callee = .builtin .len) {x : Operand} (hx : c.args = #[x]) {S : TypeId} (hS : c.argTypes[0]? = some S) {u : Unit} (hS2 : lookO S T.maps = some u) {n : Nat} (hr : s.op x = .mref n) {es : List (ByteArray × Int)} (hm : s.st n = some (.mp es)) :
    Goal C P o s a w (.int .i64 (es.length : Int)) [] := by
  obtain ⟨kt, e, i, h1, h2, h3, h4⟩ := hT.maps' hS2
  have hvx := h.op x
  rw [hr] at hvx
  obtain ⟨hu, hvx⟩ := rv_mref hvx
  obtain ⟨hF, arr, hg, ha⟩ := h.mp hm
  have hl : arr.size = es.length := by rw [← Array.length_toList, ha, mpEnt_len]
  exact goal_pure h (u := .int .i64 (es.length : Int)) rfl (by simp [execOp, ho, resolve, hc, hx, invoke, builtin, Builtin.len_, hS, hvx, run_underlying h1, goInt, MapKept.run_getObj_map hg, hl])

/-! values of an interface -/
theorem g_makeInterface (hT : TabOK P T) (h : Sim C s a w R E) {o : Oper} {X : TypeId} {x : Operand} (ho : o.op = .makeInterface X x) {cs : List AV} (hx : s.op x = .agg cs) {t : CT} (hl : lookO X T.lay = some (true, t)) : Goal C P o s a w (.ifc X cs) [] := by
  obtain ⟨_, d, hd, hsh⟩ := hT.lay' hl
  have hvx := h.op x
  rw [hx] at hvx
  obtain ⟨vs, e, h1⟩ := hvx
  have hrun : (Instr.makeInterface X (a.eval x)).run P w = .ok (.iface X (a.eval x)) w := by
    unfold Instr.makeInterface
    simp only [Sem.run_bind, run_underlying hd, Result.andThen_ok]
    cases d <;> first | rfl | (simp [shOf, shWant] at hsh)
  exact goal_pure h (u := .iface X (a.eval x)) ⟨vs, by rw [e], h1⟩ (by simp only [execOp, ho, Sem.run_bind, hrun, Result.andThen_ok, Sem.run_map, Sem.run_pure])
end Go.Ev

