/- A text of the claim: an evaluator of Go functions, and why it answers as they do. -/
import Derived.Test.YtkkjheildoclgaaEvN
set_option linter.all false
set_option linter.unusedVariables false
set_option linter.unusedSimpArgs false
set_option autoImplicit false
set_option linter.unusedVariables false
namespace Go.Ev
variable {P : Program} {T : Tab} {C : Ctx} {s : St} {a : Act} {w : World} {R : Nat → Prop} {E : Env}

theorem setL_len : ∀ (us cs : List Value) (off : Nat), (setL cs off us).length = cs.length
  | [], _, _ => rfl
  | u :: r, cs, off => by simp [setL, setL_len r]
theorem setL_in : ∀ (us c1 c c2 : List Value) (off : Nat), off + us.length ≤ c.length → setL (c1 ++ c ++ c2) (c1.length + off) us = c1 ++ setL c off us ++ c2
  | [], _, _, _, _, _ => rfl
  | u :: r, c1, c, c2, off, h => by
    simp only [setL]
    simp only [List.length_cons] at h
    have : (c1 ++ c ++ c2).set (c1.length + off) u = c1 ++ c.set off u ++ c2 := by
      rw [List.append_assoc, List.set_append, if_neg (by omega), Nat.add_sub_cancel_left, List.set_append, if_pos (by omega), List.append_assoc]
    rw [this]
    have := setL_in r c1 (c.set off u) c2 (off + 1) (by simp; omega)
    rw [Nat.add_assoc]
    exact this
theorem nodup_swap {F1 G F2 G' G0 : List Nat} (h : (F1 ++ G ++ F2).Nodup) (h1 : G'.Nodup) (h2 : ∀ b, b ∈ G' → b ∈ G ∨ b ∈ G0) (h3 : ∀ b, b ∈ G0 → b ∉ F1 ∧ b ∉ F2) : (F1 ++ G' ++ F2).Nodup := by
  simp only [List.nodup_append, List.mem_append] at h ⊢
  obtain ⟨⟨a1, a2, a3⟩, a4, a5⟩ := h
  refine ⟨⟨a1, h1, fun x hx y hy e => ?_⟩, a4, fun x hx y hy e => ?_⟩
  · subst e
    rcases h2 _ hy with h | h
    · exact a3 x hx x h rfl
    · exact (h3 x h).1 hx
  · subst e
    rcases hx with hx | hx
    · exact a5 x (.inl hx) x hy rfl
    · rcases h2 _ hx with h | h
      · exact a5 x (.inr h) x hy rfl
      · exact (h3 x h).2 hy
/-- an element of a row, replaced -/
theorem Sim.setElem (h : Sim C s a w R E) {n : Nat} {q : Root} (hq : s.st n = some (.root q)) (hu : s.us n = true) {i o : Nat} (hi : i < q.xs.length) {us : List Value} (ho : o + us.length ≤ q.t.sz) (h1 : ∀ u, u ∈ us → u.oneCell' = true) {L : TypeId} {z : Bool × CT} (hT : TabOK P T) (hl : lookO L T.lay = some z) {v : Value} (hv : v.cells.toList = us) (hvl : us.length = z.2.sz) {g : Nat} (hg : (E.V n).ownBlock = some g) (G0 : List Nat) (y : Den q.t)
    (hG0 : ∀ b, b ∈ G0 → ¬ R b ∧ (C.w0.heap.size ≤ b ∨ b ∈ C.F0) ∧ b < w.heap.size ∧ ∀ k, b ∉ E.F k) (hG0n : G0.Nodup)
    (hy : ∀ c G, (∀ b, b ∈ G → b ∈ E.F n) → G.Nodup → c.length = q.t.sz → Rp w R q.deep q.t q.xs[i] c G → ∃ G', G'.Nodup ∧ (∀ b, b ∈ G' → b ∈ G ∨ b ∈ G0) ∧ Rp w R q.deep q.t y (setL c o us) G') (vr : Nat) (hvr : q.ver < vr) :
    ∃ w' E', (storeVar L ⟨g, i * q.t.sz + o, none⟩ v).run P w = .ok () w' ∧ Sim C { s with st := upd s.st n (some (.root { q with xs := q.xs.set i y, ver := vr })) } a w' R E' := by
  obtain ⟨l1, l2, _⟩ := h.root hq
  obtain ⟨g', cap, cur, c1, c, c2, F1, G, F2, e1, e2, e3, e4, e5, e6, e7, e8, e9, e10⟩ := h.elem hq i hi
  rw [e1] at hg
  simp only [Value.ownBlock, Option.some.injEq] at hg
  subst hg
  have hnd := h.nd n
  rw [e5] at hnd
  obtain ⟨n1, n2⟩ := List.nodup_cons.1 hnd
  have n3 : G.Nodup := by
    have := (List.nodup_append.1 n2).1
    exact (List.nodup_append.1 this).2.1
  have hclen := e9.len
  have e3' : cur.toList = c1 ++ c ++ (c2 ++ cur.toList.drop (q.xs.length * q.t.sz)) := by
    have := List.take_append_drop (q.xs.length * q.t.sz) cur.toList
    rw [e3] at this
    rw [List.append_assoc, List.append_assoc] at this
    rw [List.append_assoc]
    exact this.symm
  have hcnt : c1.length + (c.length + c2.length) = q.xs.length * q.t.sz := by
    have := congrArg List.length e3
    simp only [List.length_take, Array.length_toList, List.length_append] at this
    have h2 : q.xs.length * q.t.sz ≤ cap * q.t.sz := Nat.mul_le_mul_right _ e6
    omega
  have hcl := congrArg List.length e3'
  rw [Array.length_toList] at hcl
  simp only [List.length_append] at hcl
  obtain ⟨G', p1, p2, p3⟩ := hy c G (fun b hb => by rw [e5]; simp [hb]) n3 hclen e9
  have hrun := storeVar_run (P := P) (w := w) hT hl e2 (q := i * q.t.sz + o) (v := v) (by rw [← Array.length_toList, hv, hvl]) (by rw [show v.cells.size = us.length by rw [← Array.length_toList, hv]]; omega) (by rw [hv]; exact h1)
  rw [hv] at hrun
  rw [← setL_eq us cur.toList (i * q.t.sz + o) (by have := Array.length_toList (xs := cur); omega), ← e4] at hrun
  have hnew : setL cur.toList (c1.length + o) us = c1 ++ setL c o us ++ (c2 ++ cur.toList.drop (q.xs.length * q.t.sz)) := by
    conv => lhs; rw [e3']
    exact setL_in us c1 c _ o (by omega)
  rw [hnew] at hrun
  have hne : ∀ k, k ≠ g' → (w.setRow g' (c1 ++ setL c o us ++ (c2 ++ cur.toList.drop (q.xs.length * q.t.sz))).toArray).heap[k]? = w.heap[k]? := fun k hk => setRow_ne w _ hk
  have hmem : ∀ b, b ∈ F1 ++ G' ++ F2 → b ∈ F1 ++ G ++ F2 ∨ b ∈ G0 := by
    intro b hb
    simp only [List.mem_append] at hb ⊢
    rcases hb with (hb | hb) | hb
    · simp [hb]
    · rcases p2 b hb with h | h <;> simp [h]
    · simp [hb]
  have hown : ∀ b, b ∈ F1 ++ G ++ F2 → b ∈ E.F n := fun b hb => by rw [e5]; exact List.mem_cons_of_mem _ hb
  have hgn : g' ∈ E.F n := by rw [e5]; simp
  have hG0d : ∀ b, b ∈ G0 → b ∉ E.F n := fun b hb => (hG0 b hb).2.2.2 n
  refine ⟨_, _, by rw [← e4]; exact hrun, h.set n hu (.root q) (.root { q with xs := q.xs.set i y, ver := vr }) hq (g' :: (F1 ++ G' ++ F2)) (fun q' hq' => ⟨q, rfl, by injection hq' with hq'; subst hq'; exact hvr⟩)
    (fun k hk hn => hne k (fun e => hn (by rw [e]; exact hgn))) (by simp) rfl rfl rfl (fun b hb => ?_) ?_ (fun k b hk hb hb' => ?_) (fun m E' mv hE hm => ?_)⟩
  · rcases List.mem_cons.1 hb with rfl | hb
    · have := h.own n b hgn
      exact ⟨this.1, by simpa using this.2.1, this.2.2⟩
    · rcases hmem b hb with hb | hb
      · have := h.own n b (hown b hb)
        exact ⟨this.1, by simpa using this.2.1, this.2.2⟩
      · have := hG0 b hb
        exact ⟨this.1, by simpa using this.2.2.1, this.2.1⟩
  · refine List.nodup_cons.2 ⟨fun hc => ?_, ?_⟩
    · rcases hmem _ hc with hb | hb
      · exact n1 hb
      · exact hG0d _ hb hgn
    · have hd1 : ∀ b, b ∈ G0 → b ∉ F1 ∧ b ∉ F2 := fun b hb => ⟨fun hc => hG0d b hb (hown b (by simp [hc])), fun hc => hG0d b hb (hown b (by simp [hc]))⟩
      exact nodup_swap n2 p1 p2 hd1
  · rcases List.mem_cons.1 hb with rfl | hb
    · exact h.dj k n b hk hb' hgn
    · rcases hmem b hb with hb | hb
      · exact h.dj k n b hk hb' (hown b hb)
      · exact (hG0 b hb).2.2.2 k hb'
  · subst hE; subst hm
    unfold SR
    dsimp only
    rw [upd_at]
    refine ⟨by simpa using l1, l2, c1 ++ setL c o us ++ c2, F1 ++ G' ++ F2, ⟨by simp [setL_len]; exact hcnt, .inr ⟨g', cap, _, by rw [List.length_set]; exact e1, Nat.zero_le _, setRow_at w e2 _, by rw [List.length_set]; exact e6, e7, ?_, ?_⟩⟩, by simp [upd_at, e1, Value.ownBlock], ?_⟩
    · rw [← e8, List.size_toArray]
      rw [← hnew, setL_len, Array.length_toList]
    · rw [List.length_set, List.toList_toArray, ← List.append_assoc]
      rw [List.take_left']
      simp only [List.length_append, setL_len]
      omega
    · refine e10 _ y _ _ (fun x cs H hH hp => hp.keep mv.fR (fun b hb => hne b (fun e => ?_))) (p3.keep mv.fR (fun b hb => hne b (fun e => ?_)))
      · subst e
        rcases hH _ hb with hb | hb <;> exact n1 (by simp [hb])
      · subst e
        rcases p2 _ hb with hb | hb
        · exact n1 (by simp [hb])
        · exact hG0d _ hb hgn

theorem dropL_F_le (l : List Nat) (E : Env) (k b : Nat) (h : b ∈ (E.dropL l).F k) : b ∈ E.F k ∧ k ∉ l := by
  by_cases hk : k ∈ l
  · rw [dropL_in l E k hk] at h; cases h
  · rw [dropL_out l E k hk] at h; exact ⟨h, hk⟩
theorem st_eq {s1 s2 : St} (h1 : s1.tm = s2.tm) (h2 : s1.st = s2.st) (h3 : s1.us = s2.us) (h4 : s1.nt = s2.nt) : s1 = s2 := by
  cases s1; cases s2; simp_all
theorem g_store_pel (hT : TabOK P T) (h : Sim C s a w R E) {m : Mem} (hm : Sub m s.st) {o : Oper} {L : TypeId} {x y : Operand} (ho : o.op = .store L x y) {z : Bool × CT} (hl : lookO L T.lay = some z) {n : Nat} {i : Int} {q : Nat} (hx : s.op x = .pel n i q) {r : Root} (hb : m n = some (.root r)) {l : List AV} (hf : flat (s.op y) = some l)
    (hok : okCells l = true) (h1 : l.length = z.2.sz) (h2 : q + l.length ≤ r.t.sz) {v : Den r.t} {ow : Bool} {used : List Nat} (hp : putCs m r.t (r.xs.getD i.toNat r.t.z) q l = some (v, ow, used)) (hnd : nodupN (n :: used) = true) :
    Goal C P o s a w .junk (gone used ++ [⟨n, some (.root { r with xs := r.xs.set i.toNat v, deep := r.deep && ow, ver := r.ver + 1 }), false⟩]) := by
  have hq := hm n _ hb
  obtain ⟨hu, i0, i1, g, hg, hv⟩ : RC w R s.st s.us E (.pel n i q) (a.eval x) := by have := h.op x; rw [hx] at this; exact this
  obtain ⟨l1, l2, _⟩ := h.root hq
  rw [l1] at i1
  have hi : i.toNat < r.xs.length := by omega
  rw [getD_lt _ _ _ hi] at hp
  have hfl := flat_rc hf (h.op y)
  obtain ⟨hus, p1, p2⟩ := putCs_ok h hm hp h2 hfl
  have hnd' := nodupN_iff hnd
  obtain ⟨hnu, hun⟩ := List.nodup_cons.1 hnd'
  have hone := okCells_all hok hfl
  have hlen := hfl.len
  obtain ⟨f1, f2, f3, f4, f5⟩ := gone_us used s
  obtain ⟨d1, d2, d3, d4⟩ := dropL_V used E
  have fin : ∀ {s' : St} {w' : World} {R' : Nat → Prop} {E' : Env}, (storeVar L ⟨g, i.toNat * r.t.sz + q, none⟩ (a.eval y)).run P w = .ok () w' → Sim C s' a w' R' E' → s' = s.write (gone used ++ [⟨n, some (.root { r with xs := r.xs.set i.toNat v, deep := r.deep && ow, ver := r.ver + 1 }), false⟩]) →
      Goal C P o s a w .junk (gone used ++ [⟨n, some (.root { r with xs := r.xs.set i.toNat v, deep := r.deep && ow, ver := r.ver + 1 }), false⟩]) := by
    intro s' w' R' E' hr hs he
    subst he
    exact ⟨undef, w', R', E', .inr ⟨rfl, by rw [← l2] at hr; simp only [execOp, ho, hv, Instr.storeAt, Instr.sureAddr, Sem.run_bind, Sem.run_pure, Result.andThen_ok, hr]⟩, hs.put o.dst (v := .junk) (u := undef) trivial⟩
  by_cases hd : (r.deep && ow) = true
  · simp only [Bool.and_eq_true] at hd
    obtain ⟨re, rt, rx, rd, rp, rv⟩ := r
    obtain ⟨hd1, hd2⟩ := hd
    simp only at hd1
    subst hd1
    have hA := h.goneDrop used
    have hq' : (s.write (gone used)).st n = some (.root ⟨re, rt, rx, true, rp, rv⟩) := by rw [f4 n hnu]; exact hq
    obtain ⟨w', E', hr, hs⟩ := hA.setElem hq' (by rw [f1]; exact hu) hi (us := (a.eval y).cells.toList) (o := q) (by rw [hlen]; exact h2) hone hT hl (v := a.eval y) rfl (by rw [hlen, h1]) (g := g) (by rw [d1]; exact hg) (dropsF E used) v (fun b hb => by
        obtain ⟨a1, a2, a3, a4⟩ := dropsF_own h hb
        exact ⟨a1, a3, a2, a4⟩) (dropsF_nodup h hun) (fun c G hG hGn hc hrp => by
        obtain ⟨F', x1, x2, x3⟩ := p1 hd2 c G hrp (List.nodup_append.2 ⟨hGn, dropsF_nodup h hun, fun b hb b' hb' e => by
          subst e
          exact (dropsF_own h hb').2.2.2 n (hG b hb)⟩)
        exact ⟨F', x1, x2, x3⟩) (rv + 1) (by simp)
    refine fin hr hs ?_
    rw [write_app]
    refine st_eq ?_ ?_ ?_ ?_ <;> simp [St.write, hd2]
    rw [f1, hu, ← hu, ← f1, upd_self]
  · have hd' : (r.deep && ow) = false := by simpa using hd
    obtain ⟨re, rt, rx, rd, rp, rv⟩ := r
    have hA := h.goneFreeze used
    have hq' : (s.write (gone used)).st n = some (.root ⟨re, rt, rx, rd, rp, rv⟩) := by rw [f4 n hnu]; exact hq
    have hB := hA.soften hq' (by rw [f1]; exact hu)
    obtain ⟨w', E', hr, hs⟩ := hB.setElem (n := n) (q := ⟨re, rt, rx, false, rp, rv⟩) (upd_at ..) (by rw [f1]; exact hu) hi (us := (a.eval y).cells.toList) (o := q) (by rw [hlen]; exact h2) hone hT hl (v := a.eval y) rfl (by rw [hlen, h1]) (g := g) (by rw [d1]; exact hg) [] v (fun b hb => by cases hb) (by simp) (fun c G hG hGn hc hrp => by
        have hG0 := hrp.noF
        subst hG0
        exact ⟨[], by simp, by simp, p2 _ (fun b hb => .inl (.inl hb)) (fun k hk b hb => .inl (.inr ⟨k, hk, hb⟩)) c hrp⟩) (rv + 1) (by simp)
    refine fin hr hs ?_
    rw [write_app]
    refine st_eq ?_ ?_ ?_ ?_
    · rfl
    · simp only [St.write]; rw [upd_upd]; simp only at hd'; simp [hd']
    · simp only [St.write, Bool.or_false, upd_self]
    · rfl
end Go.Ev
