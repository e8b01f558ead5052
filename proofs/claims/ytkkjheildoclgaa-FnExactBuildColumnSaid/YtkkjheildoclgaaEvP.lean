/- A text of the claim: an evaluator of Go functions, and why it answers as they do. -/
import Derived.Test.YtkkjheildoclgaaEvO
set_option linter.all false
set_option linter.unusedVariables false
set_option linter.unusedSimpArgs false
set_option autoImplicit false
set_option linter.unusedVariables false
namespace Go.Ev
variable {P : Program} {T : Tab} {C : Ctx} {s : St} {a : Act} {w : World} {R : Nat → Prop} {E : Env}

/-! append -/
theorem append_none (base : Nat) (t ty e : TypeId) (i : TypeInfo) (size : Nat) (ht : P.underlying t = some (.slice e)) (hi : P.info? e = some i) (c : Nat)
    (v : Value) (n : Nat) (xs : List Value) (hown : w.ownsRow base e size v n xs) :
    (Builtin.append_ #[t, t] ty #[v, .slice none 0 c]).run P w = .ok v w := by
  rcases hown.2 with ⟨rfl, rfl⟩ | ⟨g, cap, cur, rfl, _, _, hnc, _⟩
  · simp [Builtin.append_, run_underlying ht, sizeOf, typeInfo, hi, Builtin.lenOf, Builtin.firstCells]
  · simp [Builtin.append_, run_underlying ht, sizeOf, typeInfo, hi, Builtin.lenOf, Builtin.firstCells, hnc, storeCells]

mutual
theorem Rp.ones {w : World} {R : Nat → Prop} : ∀ {d : Bool} {t : CT} {x : Den t} {cs : List Value} {F : List Nat}, Rp w R d t x cs F → ∀ u, u ∈ cs → u.oneCell' = true
  | _, .int _, _, _, _, h => by rw [h.1]; simp; rfl
  | _, .bool, _, _, _, h => by rw [h.1]; simp; rfl
  | _, .str, _, _, _, h => by rw [h.1]; simp; rfl
  | false, .sl e t, x, cs, F, ⟨A, c, ds, e1, _⟩ => by rw [e1]; simp; rfl
  | true, .sl e t, x, cs, F, ⟨v, ds, Fi, e1, h1, _⟩ => by
    rw [e1]
    simp
    rcases h1.2 with ⟨rfl, _⟩ | ⟨g, cap, cur, rfl, _⟩ <;> rfl
  | _, .nil, _, _, _, h => by rw [h.1]; simp
  | _, .cons a b, x, cs, F, ⟨c1, c2, F1, F2, e1, e2, h1, h2⟩ => by
    intro u hu
    rw [e1] at hu
    rcases List.mem_append.1 hu with hu | hu
    · exact h1.ones u hu
    · exact h2.ones u hu
end
theorem All.ones {w : World} {R : Nat → Prop} {d : Bool} {t : CT} : ∀ {l : List (Den t)} {cs : List Value} {F : List Nat}, All (Rp w R d t) l cs F → ∀ u, u ∈ cs → u.oneCell' = true
  | [], _, _, h => by rw [h.1]; simp
  | x :: r, cs, F, ⟨c1, c2, F1, F2, e1, e2, h1, h2⟩ => by
    intro u hu
    rw [e1] at hu
    rcases List.mem_append.1 hu with hu | hu
    · exact h1.ones u hu
    · exact h2.ones u hu

/-- what a row's value leads to, with its cells -/
def RowC (w : World) (R : Nat → Prop) (t : CT) (xs : List (Den t)) (v : Value) (ds : List Value) : Prop :=
  ∃ A c, v = .slice A xs.length c ∧ xs.length ≤ c ∧ All (Rp w R false t) xs ds [] ∧ (ds ≠ [] → ∃ a, A = some a ∧ R a.block ∧ Cells w a ds)
theorem RowAt.c {t : CT} {xs : List (Den t)} {v : Value} (h : RowAt w R t xs v) : ∃ ds, RowC w R t xs v ds := by
  obtain ⟨A, c, ds, h⟩ := h
  exact ⟨ds, A, c, h⟩
theorem Sim.rootRowC (h : Sim C s a w R E) {n : Nat} {q : Root} (hq : s.st n = some (.root q)) : ∃ ds Fi, w.ownsRow 0 q.e q.t.sz (E.V n) q.xs.length ds ∧ E.F n = (E.V n).ownBlock.toList ++ Fi ∧ All (Rp w R q.deep q.t) q.xs ds Fi ∧ RowC w (fun b => R b ∨ b ∈ E.F n) q.t q.xs (E.V n) ds := by
  obtain ⟨l1, l2, ds, Fi, h2, h3, h4⟩ := h.root hq
  obtain ⟨A, c, e, hc, hd⟩ := own_imm h2
  refine ⟨ds, Fi, h2, h3, h4, A, c, e, hc, h4.freeze (fun b hb => .inl hb) (fun b hb => .inr (by rw [h3]; exact List.mem_append.2 (.inr hb))), fun hne => ?_⟩
  obtain ⟨ad, ea, hb, hcs⟩ := hd hne
  exact ⟨ad, ea, .inr (by rw [h3]; exact List.mem_append.2 (.inl hb)), hcs⟩
/-- the run of an append onto a row that the call owns -/
theorem append_run (hT : TabOK P T) {S ty e by_ : Nat} {t : CT} (hS : lookO S T.elem = some e) (hsz : szOk T e t = true) (h0 : 0 < t.sz) (hby : lookO e T.byt = some by_) (hb0 : 0 < by_) {v : Value} {n : Nat} {ds : List Value} (hown : w.ownsRow 0 e t.sz v n ds)
    {R' : Nat → Prop} {ys : List (Den t)} {u : Value} {ds2 : List Value} (hu : RowC w R' t ys u ds2) (hb : ((n : Int) + (ys.length : Int)) * (by_ : Int) ≤ 140737488355328) :
      ∃ v' w', (Builtin.append_ #[S, S] ty #[v, u]).run P w = .ok v' w' ∧ w'.ownsRow 0 e t.sz v' (n + ys.length) (ds ++ ds2) ∧ w.grownBy w' v.ownBlock ∧ (v'.ownBlock = v.ownBlock ∨ v'.ownBlock = some w.heap.size) := by
  obtain ⟨A, c, e1, hc, hall, hne⟩ := hu
  obtain ⟨i, z, t', hi, his, hz, hzc, ht'⟩ := szOk_run hT hsz
  have hS' := hT.elem' hS
  have hbb := hT.byt' hby
  rw [hi] at hbb
  simp only [Option.map_some, Option.some.injEq] at hbb
  have hlen := hall.len (n := t.sz) (fun x c G hp => hp.len)
  cases A with
  | none =>
    have hds : ds2 = [] := by
      cases ds2 with
      | nil => rfl
      | cons x r =>
        obtain ⟨a, ha, _⟩ := hne (by simp)
        cases ha
    subst hds
    have hy : ys = [] := by
      cases ys with
      | nil => rfl
      | cons x r =>
        simp only [List.length_nil, List.length_cons, Nat.add_mul] at hlen
        omega
    subst hy
    subst e1
    exact ⟨v, w, append_none 0 S ty e i t.sz hS' hi c v n ds hown, by simpa using hown, ⟨rfl, rfl, rfl, Nat.le_refl _, fun _ _ _ => rfl⟩, .inl rfl⟩
  | some ad =>
    subst e1
    have hzl : z.cells.size = t.sz := by rw [← Array.length_toList, hzc, zv_len, ht']
    have hnews : ∀ j u, ds2[j]? = some u → w.cell? (ad.add j) = some u := by
      intro j u hj
      obtain ⟨a', ha', _, hcs⟩ := hne (by intro e; subst e; simp at hj)
      simp only [Option.some.injEq] at ha'
      subst ha'
      exact hcs j u hj
    have hbn : (n + ys.length) * by_ ≤ 140737488355328 := by
      have h3 : (((n + ys.length) * by_ : Nat) : Int) = ((n : Int) + (ys.length : Int)) * (by_ : Int) := by rw [Int.natCast_mul, Int.natCast_add]
      omega
    have hle : (n + ys.length) * 1 ≤ (n + ys.length) * by_ := Nat.mul_le_mul_left _ hb0
    obtain ⟨v', w', h1, h2, h3, _, h4⟩ := run_append_own_at (P := P) (w := w) 0 S ty e i z t.sz by_ hS' hi hz his hbb hzl h0 v n ds hown ad ys.length c ds2 hlen hnews hall.ones (by simp only [maxLen]; omega) hbn (Nat.zero_le _)
    exact ⟨v', w', h1, h2, h3, h4⟩

theorem Sim.appended (h : Sim C s a w R E) {dn : Nat} (hn : s.us dn = false) {q : Root} {v v' : Value} {w' : World} {ds : List Value} {Fi : List Nat} (hgr : w.grownBy w' v.ownBlock) (hbl : v'.ownBlock = v.ownBlock ∨ v'.ownBlock = some w.heap.size)
    (hown : w'.ownsRow 0 q.e q.t.sz v' q.xs.length ds) (hall : All (Rp w R q.deep q.t) q.xs ds Fi)
    (hF : ∀ b, b ∈ v.ownBlock.toList ++ Fi → ¬ R b ∧ (C.w0.heap.size ≤ b ∨ b ∈ C.F0) ∧ b < w.heap.size ∧ ∀ k, b ∉ E.F k) (hnd : (v.ownBlock.toList ++ Fi).Nodup) (d : Option Nat) :
    ∃ E', Sim C ((s.write [⟨dn, some (.root q), true⟩]).put d (.ref dn)) (a.put d v') w' R E' := by
  have hv : ∀ b, b ∈ v.ownBlock.toList → ¬ R b ∧ (C.w0.heap.size ≤ b ∨ b ∈ C.F0) ∧ b < w.heap.size ∧ ∀ k, b ∉ E.F k := fun b hb => hF b (List.mem_append.2 (.inl hb))
  have hsame : ∀ b, b < w.heap.size → b ∉ v.ownBlock.toList → w'.heap[b]? = w.heap[b]? := fun b hb hb' => hgr.block b hb (fun e => hb' (by rw [← e]; simp))
  have hk : Keep C.w0 w' C.F0 := ⟨hgr.os.trans h.keep.os, hgr.tape.trans h.keep.tape, hgr.output.trans h.keep.output, Nat.le_trans h.keep.size hgr.size, fun k hk hk0 => by
    rw [hsame k (Nat.lt_of_lt_of_le hk h.keep.size) (fun hc => ?_)]
    · exact h.keep.block k hk hk0
    · rcases (hv k hc).2.1 with h1 | h1
      · omega
      · exact hk0 h1⟩
  have h1 := h.turn (w' := w') (fun b hb hb' => hsame b hb (fun hc => ?_)) hgr.size hk
  · have hnb : v'.ownBlock.toList = v.ownBlock.toList ∨ v'.ownBlock.toList = [w.heap.size] := by
      rcases hbl with e | e <;> rw [e]
      · exact .inl rfl
      · exact .inr rfl
    have hFi : ∀ b, b ∈ Fi → b ∉ v.ownBlock.toList := fun b hb hc => (List.nodup_append.1 hnd).2.2 b hc b hb rfl
    refine h1.addRoot hn hown (hall.imp fun x cs G _ hG hp => hp.keep (fun b hb => ⟨hb, hsame b (h.lt b hb) (fun hc => (hv b hc).1 hb)⟩) (fun b hb => hsame b (hF b (by simp [hG b hb])).2.2.1 (hFi b (hG b hb)))) (fun b hb => ?_) ?_ (fun k b hb => ?_) d
    · rcases List.mem_append.1 hb with hb | hb
      · rcases hnb with e | e <;> rw [e] at hb
        · exact ⟨(hv b hb).1, (hv b hb).2.1⟩
        · simp only [List.mem_singleton] at hb
          subst hb
          exact ⟨fun hc => absurd (h.lt _ hc) (by omega), .inl h.keep.size⟩
      · have := hF b (by simp [hb])
        exact ⟨this.1, this.2.1⟩
    · rcases hnb with e | e <;> rw [e]
      · exact hnd
      · refine List.nodup_append.2 ⟨by simp, (List.nodup_append.1 hnd).2.1, fun b hb b' hb' e => ?_⟩
        simp only [List.mem_singleton] at hb
        subst hb; subst e
        exact absurd (hF _ (List.mem_append.2 (.inr hb'))).2.2.1 (by omega)
    · rcases List.mem_append.1 hb with hb | hb
      · rcases hnb with e | e <;> rw [e] at hb
        · exact (hv b hb).2.2.2 k
        · simp only [List.mem_singleton] at hb
          subst hb
          exact fun hc => absurd (h.own k _ hc).2.1 (by omega)
      · exact (hF b (by simp [hb])).2.2.2 k
  · rcases hb' with hb' | ⟨k, hb'⟩
    · exact (hv b hc).1 hb'
    · exact (hv b hc).2.2.2 k hb'
end Go.Ev
