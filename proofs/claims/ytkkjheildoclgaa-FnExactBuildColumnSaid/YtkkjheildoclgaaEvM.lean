/- A text of the claim: an evaluator of Go functions, and why it answers as they do. -/
import Derived.Test.YtkkjheildoclgaaEvL
set_option linter.all false
set_option linter.unusedVariables false
set_option linter.unusedSimpArgs false
set_option autoImplicit false
set_option linter.unusedVariables false
namespace Go.Ev
variable {P : Program} {T : Tab} {C : Ctx} {s : St} {a : Act} {w : World} {R : Nat → Prop} {E : Env}

/-! literals -/
theorem foldl_set : ∀ (cs : List Value) (off j0 : Nat) (acc : Array Value), off + j0 + cs.length ≤ acc.size →
    ((cs.zipIdx j0).foldl (fun acc x => acc.setIfInBounds (off + x.2) x.1) acc).toList = acc.toList.take (off + j0) ++ cs ++ acc.toList.drop (off + j0 + cs.length)
  | [], off, j0, acc, _ => by simp
  | c :: cs, off, j0, acc, h => by
    rw [List.zipIdx_cons, List.foldl_cons]
    rw [foldl_set cs off (j0 + 1) _ (by simp at h ⊢; omega)]
    simp only [Array.toList_setIfInBounds]
    have := list_seg_step acc.toList (off + j0) c cs (by simp at h ⊢; omega)
    simpa [Nat.add_assoc] using this
theorem fill_one (acc : Array Value) (v : Value) (off : Nat) (h : off + v.cells.size ≤ acc.size) :
    (v.cells.zipIdx.foldl (fun cs (x : Value × Nat) => cs.setIfInBounds (off + x.2) x.1) acc).toList = acc.toList.take off ++ v.cells.toList ++ acc.toList.drop (off + v.cells.size) := by
  have := foldl_set v.cells.toList off 0 acc (by simpa using h)
  rw [← Array.foldl_toList, Array.toList_zipIdx]
  simpa using this
theorem fill_rows (sz : Nat) : ∀ (ps : List (Nat × Value)) (k : Nat) (base : Array Value), inRange (ps.map (·.1)) k = true → (∀ x, x ∈ ps → x.2.cells.size = sz) → base.size = (k + ps.length) * sz →
    ∃ arr, Instr.fill (fun i => some (i * sz, sz)) base ps = some arr ∧ arr.toList = base.toList.take (k * sz) ++ ps.flatMap (fun x => x.2.cells.toList)
  | [], k, base, _, _, hb => ⟨base, rfl, by rw [List.flatMap_nil, List.append_nil, List.take_of_length_le (by rw [Array.length_toList, hb]; simp)]⟩
  | (i, v) :: r, k, base, hr, hs, hb => by
    unfold inRange at hr
    simp only [List.map_cons, Bool.and_eq_true] at hr
    obtain rfl := Nat.eq_of_beq_eq_true hr.1
    have hv := hs (i, v) (by simp)
    simp only at hv
    have hfit : i * sz + v.cells.size ≤ base.size := by
      rw [hb, hv]
      simp only [List.length_cons]
      have : (i + (r.length + 1)) * sz = i * sz + sz + r.length * sz := by rw [Nat.add_mul, Nat.add_mul]; omega
      omega
    have h1 := fill_one base v (i * sz) hfit
    obtain ⟨arr, h2, h3⟩ := fill_rows sz r (i + 1) (v.cells.zipIdx.foldl (fun cs (x : Value × Nat) => cs.setIfInBounds (i * sz + x.2) x.1) base) hr.2 (fun x hx => hs x (by simp [hx])) (by
      rw [← Array.length_toList, h1]
      simp only [List.length_append, List.length_take, List.length_drop, Array.length_toList, List.length_cons] at *
      have : (i + (r.length + 1)) * sz = (i + 1 + r.length) * sz := by congr 1; omega
      omega)
    refine ⟨arr, ?_, ?_⟩
    · unfold Instr.fill
      have : ¬ (v.cells.size ≠ sz || i * sz + v.cells.size > base.size) = true := by
        simp [hv]
        omega
      simp only [this]
      exact h2
    · rw [h3, h1, List.flatMap_cons, ← List.append_assoc]
      congr 1
      rw [List.append_assoc, List.take_append]
      have e1 : (base.toList.take (i * sz)).length = i * sz := by simp; omega
      rw [List.take_of_length_le (by rw [e1, Nat.succ_mul]; omega), e1, Nat.succ_mul, Nat.add_sub_cancel_left]
      congr 1
      rw [← hv, ← Array.length_toList, List.take_left]
theorem rows_ok (h : Sim C s a w R E) {m : Mem} (hm : Sub m s.st) {t : CT} : ∀ {l : List AV} {xs : List (Den t)} {o : Bool} {c : List Nat} {vs : List Value}, rows m t l = some (xs, o, c) → L2 (RV w R s.st s.us E) l vs →
    (∀ n, n ∈ c → s.us n = true) ∧ (∀ v, v ∈ vs → v.cells.size = t.sz) ∧ xs.length = l.length ∧ (o = true → All (Rp w R true t) xs (vs.flatMap (·.cells.toList)) (dropsF E c)) ∧ All (Rp w (fun b => R b ∨ ∃ n, n ∈ c ∧ b ∈ E.F n) false t) xs (vs.flatMap (·.cells.toList)) []
  | [], xs, o, c, vs, he, hl => by
    simp only [rows, Option.some.injEq, Prod.mk.injEq] at he
    obtain ⟨rfl, rfl, rfl⟩ := he
    rw [show vs = [] from hl]
    exact ⟨by simp, by simp, rfl, fun _ => ⟨rfl, rfl⟩, rfl, rfl⟩
  | x :: r, xs, o, c, vs, he, ⟨v, vs', e, h1, h2⟩ => by
    unfold rows at he
    cases hf : flat x with
    | none => rw [hf] at he; simp at he
    | some l =>
      rw [hf] at he
      simp only at he
      cases ht : toDen m t l with
      | none => rw [ht] at he; simp at he
      | some q =>
        obtain ⟨y, o1, c1, rest⟩ := q
        rw [ht] at he
        cases rest with
        | cons _ _ => simp at he
        | nil =>
          simp only at he
          cases hr : rows m t r with
          | none => rw [hr] at he; simp at he
          | some q2 =>
            obtain ⟨ys, o2, c2⟩ := q2
            rw [hr] at he
            simp only [Option.some.injEq, Prod.mk.injEq] at he
            obtain ⟨rfl, rfl, rfl⟩ := he
            obtain ⟨v1, v2, e1, k1, u1, p1, i1⟩ := toDen_ok h hm ht (flat_rc hf h1)
            rw [show v2 = [] from k1, List.append_nil] at e1
            obtain ⟨u2, z2, l2, p2, i2⟩ := rows_ok h hm hr h2
            subst e
            refine ⟨fun n hn => (List.mem_append.1 hn).elim (u1 n) (u2 n), fun u hu => ?_, by simp [l2], fun ho => ?_, ?_⟩
            · rcases List.mem_cons.1 hu with rfl | hu
              · rw [← Array.length_toList, e1, i1.len]
              · exact z2 u hu
            · simp only [Bool.and_eq_true] at ho
              rw [dropsF_app, List.flatMap_cons, e1]
              exact ⟨v1, _, _, _, rfl, rfl, p1 ho.1, p2 ho.2⟩
            · rw [List.flatMap_cons, e1]
              refine ⟨v1, _, [], [], rfl, rfl, i1.keep (w' := w) (fun b hb => ⟨?_, rfl⟩) (fun _ _ => rfl), i2.imp fun x cs G _ hG hp => hp.keep (w' := w) (fun b hb => ⟨?_, rfl⟩) (fun _ _ => rfl)⟩
              · rcases hb with hb | ⟨n, hn, hb⟩
                · exact .inl hb
                · exact .inr ⟨n, by simp [hn], hb⟩
              · rcases hb with hb | ⟨n, hn, hb⟩
                · exact .inl hb
                · exact .inr ⟨n, by simp [hn], hb⟩
theorem evals_rv (h : Sim C s a w R E) : ∀ (xs : List Operand), L2 (RV w R s.st s.us E) (xs.map s.op) (xs.map a.eval)
  | [] => rfl
  | x :: r => ⟨_, _, rfl, h.op x, evals_rv h r⟩
theorem RV.grow {x : AV} {v : Value} (h : Sim C s a w R E) (o : Obj) (hx : RV w R s.st s.us E x v) : RV (w.alloc o) R s.st s.us E x v := by
  refine RV.move (m := s.st) (us := s.us) (E := E) ⟨fun _ h => h, fun _ _ => ⟨rfl, rfl, rfl, rfl⟩, fun b hb' => ⟨hb', heap_alloc_lt w o b (h.lt b hb')⟩, fun n q' _ hq => ⟨q', hq, Nat.le_refl _, fun _ b hb' => ⟨.inr hb', heap_alloc_lt w o b (h.own n b hb').2.1⟩⟩⟩ hx
theorem Rp.alloc {w : World} {R : Nat → Prop} {d : Bool} {t : CT} {x : Den t} {cs : List Value} {F : List Nat} (h : Rp w R d t x cs F) (hR : ∀ b, R b → b < w.heap.size) (o : Obj) : Rp (w.alloc o) R d t x cs F :=
  h.keep (fun b hb => ⟨hb, heap_alloc_lt w o b (hR b hb)⟩) (fun b hb => heap_alloc_lt w o b (h.lt b hb))
theorem All.alloc {w : World} {R : Nat → Prop} {d : Bool} {t : CT} {x : List (Den t)} {cs : List Value} {F : List Nat} (h : All (Rp w R d t) x cs F) (hR : ∀ b, R b → b < w.heap.size) (o : Obj) : All (Rp (w.alloc o) R d t) x cs F :=
  h.imp fun y c G _ hG hp => hp.alloc hR o

theorem run_buildSlice0 {P : Program} {w : World} {S e : TypeId} {i : TypeInfo} (he : P.underlying S = some (.slice e)) (hi : P.info? e = some i) : (Instr.buildSlice S 0 #[]).run P w = .ok (.slice (some ⟨w.heap.size, 0, none⟩) 0 0) (w.alloc (.cells #[] e)) := by
  unfold Instr.buildSlice
  have h0 : (Array.range 0).map (fun _ => (default : Value)) = #[] := by apply Array.ext'; simp
  simp [run_underlying he, sizeOf, typeInfo, hi, Instr.fill, newRow, h0]
theorem g_buildSlice0 (hT : TabOK P T) (h : Sim C s a w R E) {o : Oper} {S : TypeId} (ho : o.op = .buildSlice S 0 #[]) {e : TypeId} (he : lookO S T.elem = some e) {z : Bool × CT} (hl : lookO e T.lay = some z)
    (h0 : 0 < z.2.sz) {dn : Nat} (hdn : s.us dn = false) : Goal C P o s a w (.ref dn) [⟨dn, some (.root ⟨e, z.2, [], true, false, 0⟩), true⟩] := by
  obtain ⟨⟨i, zz, hi, his, hz, hzc⟩, _⟩ := hT.lay' hl
  have hrun := run_buildSlice0 (w := w) (hT.elem' he) hi
  have hrow : (w.alloc (.cells #[] e)).ownsRow 0 e z.2.sz (.slice (some ⟨w.heap.size, 0, none⟩) 0 0) 0 [] := World.ownsRow_lit w #[] 0 (Nat.zero_le _) (by simp [maxLen]) (by simp)
  have hA := h.alloc (.cells #[] e)
  obtain ⟨E', hE⟩ := hA.addRoot (dn := dn) hdn (q := ⟨e, z.2, [], true, false, 0⟩) (Fi := []) hrow ⟨rfl, rfl⟩ (fun b hb => by
      simp [Value.ownBlock] at hb
      subst hb
      exact ⟨fun hc => absurd (h.lt _ hc) (by omega), .inl h.keep.size⟩) (by simp [Value.ownBlock]) (fun k b hb hk => by
      simp [Value.ownBlock] at hb
      subst hb
      exact absurd (h.own k _ hk).2.1 (by omega)) o.dst
  exact ⟨_, _, R, E', .inl (by simp [execOp, ho, hrun]), hE⟩
theorem g_buildSlice (hT : TabOK P T) (h : Sim C s a w R E) {m : Mem} (hm : Sub m s.st) {o : Oper} {S : TypeId} {n : Nat} {ps : Array (Nat × Operand)} (ho : o.op = .buildSlice S n ps) {e : TypeId} (he : lookO S T.elem = some e) {z : Bool × CT} (hl : lookO e T.lay = some z)
    (hn : n = ps.size) (hin : inRange (ps.toList.map (·.1)) 0 = true) (hsz : n * z.2.sz ≤ 16777216) (h0 : 0 < z.2.sz) (hn0 : 0 < n) {xs : List (Den z.2)} {ow : Bool} {c : List Nat} (hr : rows m z.2 ((ps.toList.map (·.2)).map s.op) = some (xs, ow, c)) (hnd : nodupN c = true) {dn : Nat} (hdn : s.us dn = false) :
    Goal C P o s a w (.ref dn) (gone c ++ [⟨dn, some (.root ⟨e, z.2, xs, ow, false, 0⟩), true⟩]) := by
  obtain ⟨⟨i, zz, hi, his, hz, hzc⟩, _⟩ := hT.lay' hl
  have hev := evals_rv h (ps.toList.map (·.2))
  obtain ⟨hus, hcs, hxl, hown, himm⟩ := rows_ok h hm hr hev
  have hzl : zz.cells.size = z.2.sz := by rw [← Array.length_toList, hzc, zv_len]
  let vps := ps.toList.map fun x => (x.1, a.eval x.2)
  have hvp1 : vps.map (·.1) = ps.toList.map (·.1) := by simp [vps]
  have hvp2 : vps.flatMap (fun x => x.2.cells.toList) = ((ps.toList.map (·.2)).map a.eval).flatMap (·.cells.toList) := by simp [vps, List.flatMap_map]
  obtain ⟨arr, hf, harr⟩ := fill_rows z.2.sz vps 0 ((Array.range (n * z.2.sz)).map (zz.cells[· % zz.cells.size]!)) (by rw [hvp1]; exact hin) (fun x hx => by
      obtain ⟨y, hy, rfl⟩ := List.mem_map.1 hx
      exact hcs _ (by simp only [List.map_map, List.mem_map]; exact ⟨y, hy, rfl⟩)) (by simp [vps, hn])
  rw [Nat.zero_mul, List.take_zero, List.nil_append, hvp2] at harr
  have hrun := run_buildSlice (P := P) w S e n (ps.map fun (i, x) => (i, a.eval x)) arr i zz (hT.elem' he) hi hz (by rw [his]; omega) (by rw [his]; exact Nat.ne_of_gt (Nat.mul_pos hn0 h0)) (by
      rw [his]
      have : (ps.map fun (i, x) => (i, a.eval x)).toList = vps := by simp [vps]
      rw [this]
      exact hf)
  have hlen : xs.length = n := by rw [hxl]; simp [hn]
  have hdl := himm.len (n := z.2.sz) (fun x c G hp => hp.len)
  have hxm : n ≤ maxLen := by
    have : n * 1 ≤ n * z.2.sz := Nat.mul_le_mul_left _ h0
    simp only [maxLen]; omega
  have hrow : (w.alloc (.cells arr e)).ownsRow 0 e z.2.sz (.slice (some ⟨w.heap.size, 0, none⟩) n n) xs.length arr.toList := by
    rw [hlen]
    exact World.ownsRow_lit w arr n (Nat.zero_le _) hxm (by rw [← Array.length_toList, harr, hdl, hlen])
  obtain ⟨g1, g2, g3, g4, g5⟩ := gone_us c s
  have exec : (execOp a.eval o).run P w = .ok (.value (.slice (some ⟨w.heap.size, 0, none⟩) n n)) (w.alloc (.cells arr e)) := by
    simp [execOp, ho, hrun]
  rw [Goal, write_app]
  have hc := nodupN_iff hnd
  cases ow with
  | true =>
    have hA := (h.goneDrop c).alloc (.cells arr e)
    have hd := hown rfl
    rw [← harr] at hd
    obtain ⟨E', hE⟩ := hA.addRoot (dn := dn) (by rw [g1]; exact hdn) (q := ⟨e, z.2, xs, true, false, 0⟩) hrow (hd.alloc h.lt _) (fun b hb => by
        rcases List.mem_append.1 hb with hb | hb
        · simp [Value.ownBlock] at hb
          subst hb
          exact ⟨fun hc => absurd (h.lt _ hc) (by omega), .inl h.keep.size⟩
        · exact ⟨(dropsF_own h hb).1, (dropsF_own h hb).2.2.1⟩) (by
        refine List.nodup_append.2 ⟨by simp [Value.ownBlock], dropsF_nodup h hc, fun b hb b' hb' e => ?_⟩
        simp [Value.ownBlock] at hb
        subst hb; subst e
        exact absurd (dropsF_own h hb').2.1 (by omega)) (fun k b hb hk => by
        rcases List.mem_append.1 hb with hb | hb
        · simp [Value.ownBlock] at hb
          subst hb
          by_cases hkc : k ∈ c
          · rw [dropL_in c E k hkc] at hk; cases hk
          · rw [dropL_out c E k hkc] at hk; exact absurd (h.own k _ hk).2.1 (by omega)
        · exact (dropsF_own h hb).2.2.2 k hk) o.dst
    exact ⟨_, _, R, E', .inl exec, hE⟩
  | false =>
    have hA := (h.goneFreeze c).alloc (.cells arr e)
    have hd := himm
    rw [← harr] at hd
    have hR' : ∀ b, (R b ∨ ∃ n, n ∈ c ∧ b ∈ E.F n) → b < w.heap.size := fun b hb => hb.elim (h.lt b) (fun ⟨n, _, hb⟩ => (h.own n b hb).2.1)
    obtain ⟨E', hE⟩ := hA.addRoot (dn := dn) (by rw [g1]; exact hdn) (q := ⟨e, z.2, xs, false, false, 0⟩) hrow (hd.alloc hR' _) (fun b hb => by
        simp [Value.ownBlock] at hb
        subst hb
        exact ⟨fun hc => absurd (hR' _ hc) (by omega), .inl h.keep.size⟩) (by simp [Value.ownBlock]) (fun k b hb hk => by
        simp [Value.ownBlock] at hb
        subst hb
        by_cases hkc : k ∈ c
        · rw [dropL_in c E k hkc] at hk; cases hk
        · rw [dropL_out c E k hkc] at hk; exact absurd (h.own k _ hk).2.1 (by omega)) o.dst
    exact ⟨_, _, _, E', .inl exec, hE⟩
end Go.Ev
