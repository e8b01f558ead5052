/- A text of the claim: an evaluator of Go functions, and why it answers as they do. -/
import Derived.Test.YtkkjheildoclgaaEvJ
import Derived.Laws.OwnMore
set_option linter.all false
set_option linter.unusedVariables false
set_option linter.unusedSimpArgs false
set_option autoImplicit false
set_option linter.unusedVariables false
namespace Go.Ev
variable {P : Program} {T : Tab} {C : Ctx} {s : St} {a : Act} {w : World} {R : Nat → Prop} {E : Env}

/-- the world turns where nothing is told -/
theorem Sim.turn (h : Sim C s a w R E) {w' : World} (hb : ∀ b, b < w.heap.size → (R b ∨ ∃ n, b ∈ E.F n) → w'.heap[b]? = w.heap[b]?) (hs : w.heap.size ≤ w'.heap.size) (hk : Keep C.w0 w' C.F0) : Sim C s a w' R E := by
  have mv : Move w R s.st s.us E w' R s.st s.us E :=
    ⟨fun _ h => h, fun _ _ => ⟨rfl, rfl, rfl, rfl⟩, fun b hb' => ⟨hb', hb b (h.lt b hb') (.inl hb')⟩, fun n q' _ hq => ⟨q', hq, Nat.le_refl _, fun _ b hb' => ⟨.inr hb', hb b (h.own n b hb').2.1 (.inr ⟨n, hb'⟩)⟩⟩⟩
  refine ⟨fun t => RV.move mv (h.tm t), h.nt, h.df, fun n => ?_, h.un, h.sub, fun b hb' => Nat.lt_of_lt_of_le (h.lt b hb') hs, fun n b hb' => ⟨(h.own n b hb').1, Nat.lt_of_lt_of_le (h.own n b hb').2.1 hs, (h.own n b hb').2.2⟩, h.nd, h.dj, hk, h.nw⟩
  cases hu : s.us n with
  | false => exact SR.congr (h.un n hu) (h.unF hu)
  | true => exact SR.move mv hu rfl rfl (fun b hb' => hb b (h.own n b hb').2.1 (.inr ⟨n, hb'⟩)) (h.st n)

/-! names given up, several at once -/
def Env.dropL (E : Env) : List Nat → Env
  | [] => E
  | n :: r => Env.dropL (E.drop n) r
theorem dropL_V : ∀ (l : List Nat) (E : Env), (E.dropL l).V = E.V ∧ (E.dropL l).B = E.B ∧ (E.dropL l).L = E.L ∧ (E.dropL l).S = E.S
  | [], _ => ⟨rfl, rfl, rfl, rfl⟩
  | n :: r, E => dropL_V r (E.drop n)
theorem dropL_in : ∀ (l : List Nat) (E : Env) (k : Nat), k ∈ l → (E.dropL l).F k = []
  | n :: r, E, k, h => by
    by_cases hk : k ∈ r
    · exact dropL_in r (E.drop n) k hk
    · have e : k = n := by simpa [hk] using h
      subst e
      have : ∀ (l : List Nat) (E : Env), k ∉ l → (E.dropL l).F k = E.F k := by
        intro l
        induction l with
        | nil => intro E _; rfl
        | cons x r ih =>
          intro E hx
          simp only [List.mem_cons, not_or] at hx
          show ((E.drop x).dropL r).F k = _
          rw [ih _ hx.2, Sim.dropF hx.1]
      show ((E.drop k).dropL r).F k = _
      rw [this r _ hk, Sim.dropAt]
theorem dropL_out : ∀ (l : List Nat) (E : Env) (k : Nat), k ∉ l → (E.dropL l).F k = E.F k
  | [], _, _, _ => rfl
  | x :: r, E, k, hx => by
    simp only [List.mem_cons, not_or] at hx
    show ((E.drop x).dropL r).F k = _
    rw [dropL_out r _ k hx.2, Sim.dropF hx.1]
theorem gone_cons (s : St) (n : Nat) (r : List Nat) : s.write (gone (n :: r)) = ({ s with st := upd s.st n none } : St).write (gone r) := by
  show ({ s with st := upd s.st n none, us := upd s.us n (s.us n || false) } : St).write (gone r) = _
  rw [Bool.or_false, upd_self]
theorem Sim.goneDrop : ∀ (l : List Nat) {s : St} {E : Env}, Sim C s a w R E → Sim C (s.write (gone l)) a w R (E.dropL l)
  | [], _, _, h => h
  | n :: r, s, E, h => by rw [gone_cons]; exact Sim.goneDrop r (h.drop n)
theorem Sim.goneFreeze : ∀ (l : List Nat) {s : St} {R : Nat → Prop} {E : Env}, Sim C s a w R E → Sim C (s.write (gone l)) a w (fun b => R b ∨ ∃ n, n ∈ l ∧ b ∈ E.F n) (E.dropL l)
  | [], s, R, E, h => by
    have : (fun b => R b ∨ ∃ n, n ∈ ([] : List Nat) ∧ b ∈ E.F n) = R := by funext b; simp
    rw [this]; exact h
  | n :: r, s, R, E, h => by
    rw [gone_cons]
    have := Sim.goneFreeze r (h.freeze n)
    have e : (fun b => (R b ∨ b ∈ E.F n) ∨ ∃ k, k ∈ r ∧ b ∈ (E.drop n).F k) = (fun b => R b ∨ ∃ k, k ∈ n :: r ∧ b ∈ E.F k) := by
      funext b
      apply propext
      constructor
      · rintro ((hb | hb) | ⟨k, hk, hb⟩)
        · exact .inl hb
        · exact .inr ⟨n, by simp, hb⟩
        · by_cases hkn : k = n
          · subst hkn; rw [Sim.dropAt] at hb; cases hb
          · rw [Sim.dropF hkn] at hb; exact .inr ⟨k, by simp [hk], hb⟩
      · rintro (hb | ⟨k, hk, hb⟩)
        · exact .inl (.inl hb)
        · by_cases hkn : k = n
          · subst hkn; exact .inl (.inr hb)
          · refine .inr ⟨k, by simpa [hkn] using hk, by rw [Sim.dropF hkn]; exact hb⟩
    rw [e] at this
    exact this
theorem gone_us (l : List Nat) : ∀ (s : St), (s.write (gone l)).us = s.us ∧ (s.write (gone l)).tm = s.tm ∧ (s.write (gone l)).nt = s.nt ∧ (∀ k, k ∉ l → (s.write (gone l)).st k = s.st k) ∧ (∀ k, k ∈ l → (s.write (gone l)).st k = none) := by
  induction l with
  | nil => intro s; exact ⟨rfl, rfl, rfl, fun _ _ => rfl, fun _ h => by cases h⟩
  | cons n r ih =>
    intro s
    rw [gone_cons]
    obtain ⟨h1, h2, h3, h4, h5⟩ := ih { s with st := upd s.st n none }
    refine ⟨h1, h2, h3, fun k hk => ?_, fun k hk => ?_⟩
    · simp only [List.mem_cons, not_or] at hk
      rw [h4 k hk.2]
      exact upd_ne _ _ hk.1
    · by_cases hkr : k ∈ r
      · exact h5 k hkr
      · rw [h4 k hkr]
        have : k = n := by simpa [hkr] using hk
        subst this
        exact upd_at ..

/-- a new row -/
theorem Sim.addRoot (h : Sim C s a w R E) {dn : Nat} (hn : s.us dn = false) {q : Root} {v : Value} {ds : List Value} {Fi : List Nat} (hown : w.ownsRow 0 q.e q.t.sz v q.xs.length ds) (hall : All (Rp w R q.deep q.t) q.xs ds Fi)
    (hF : ∀ b, b ∈ v.ownBlock.toList ++ Fi → ¬ R b ∧ (C.w0.heap.size ≤ b ∨ b ∈ C.F0)) (hnd : (v.ownBlock.toList ++ Fi).Nodup) (hdj : ∀ k b, b ∈ v.ownBlock.toList ++ Fi → b ∉ E.F k) (d : Option Nat) :
    ∃ E', Sim C ((s.write [⟨dn, some (.root q), true⟩]).put d (.ref dn)) (a.put d v) w R E' := by
  have hlt : ∀ b, b ∈ v.ownBlock.toList ++ Fi → b < w.heap.size := by
    intro b hb
    rcases List.mem_append.1 hb with hb | hb
    · exact (hown.lt b (by simpa using hb)).2
    · exact hall.lt b hb
  have h2 := h.add dn hn (.root q) v (v.ownBlock.toList ++ Fi) 0 q.xs.length q.t.sz (fun b hb => ⟨(hF b hb).1, hlt b hb, (hF b hb).2⟩) hnd hdj (fun m us E' mv hus hE hm => by
      subst hE; subst hm
      unfold SR
      rw [upd_at]
      refine ⟨by simp [Env.add, upd_at], by simp [Env.add, upd_at], ds, Fi, ?_, ?_, hall⟩
      · simp only [Env.add, upd_at]; exact hown
      · simp only [Env.add, upd_at])
  rw [write_new]
  refine ⟨_, h2.put d (u := v) (And.intro (upd_at ..) (And.intro ?_ ?_))⟩
  · simp [Env.add, upd_at]
  · rcases hown.2 with ⟨e, _⟩ | ⟨g, cap, cur, e, _⟩
    · exact ⟨_, _, _, e⟩
    · exact ⟨_, _, _, e⟩

/-! zeros -/
theorem zv_rp (d : Bool) : ∀ (t : CT), Rp w R d t t.z (zv t) []
  | .int k => ⟨rfl, rfl⟩
  | .bool => ⟨rfl, rfl⟩
  | .str => ⟨rfl, rfl⟩
  | .sl e t => by
    cases d
    · exact ⟨none, 0, [], rfl, rfl, Nat.le_refl _, ⟨rfl, rfl⟩, fun h => absurd rfl h⟩
    · exact ⟨_, [], [], rfl, World.ownsRow_nil w 0 e t.sz, rfl, rfl, rfl⟩
  | .nil => ⟨rfl, rfl⟩
  | .cons x y => ⟨_, _, [], [], rfl, rfl, zv_rp d x, zv_rp d y⟩
theorem zv_len : ∀ (t : CT), (zv t).length = t.sz
  | .int k => rfl
  | .bool => rfl
  | .str => rfl
  | .sl e t => rfl
  | .nil => rfl
  | .cons x y => by simp [zv, zv_len x, zv_len y, CT.sz]
theorem range_rep (z : List Value) (hz : 0 < z.length) (k : Nat) : (List.range (k * z.length)).map (fun i => z[i % z.length]!) = (List.replicate k z).flatten := by
  induction k with
  | zero => simp
  | succ k ih =>
    rw [Nat.succ_mul, List.range_add, List.map_append, ih, List.replicate_succ', List.flatten_append]
    congr 1
    simp only [List.map_map, List.flatten_cons, List.flatten_nil, List.append_nil]
    apply List.ext_getElem
    · simp
    · intro i h1 h2
      simp only [List.getElem_map, List.getElem_range, Function.comp]
      rw [Nat.mul_comm, Nat.mul_add_mod, Nat.mod_eq_of_lt h2]
      simp [h2]
theorem madeCells_list (z : Array Value) (hz : 0 < z.size) (k : Nat) : (madeCells z (k * z.size)).toList = (List.replicate k z.toList).flatten := by
  unfold madeCells
  rw [Array.toList_map, Array.toList_range]
  rw [← range_rep z.toList (by simpa using hz) k]
  simp
  intro a _
  have : a % z.size < z.size := Nat.mod_lt _ hz
  simp [this]
theorem all_rep (d : Bool) (t : CT) (n : Nat) : All (Rp w R d t) (List.replicate n t.z) (List.replicate n (zv t)).flatten [] := by
  induction n with
  | zero => exact ⟨rfl, rfl⟩
  | succ n ih => exact ⟨_, _, [], [], rfl, rfl, zv_rp d t, ih⟩
theorem g_make (hT : TabOK P T) (h : Sim C s a w R E) {o : Oper} {S : TypeId} {x y : Operand} (ho : o.op = .makeSlice S x y) {n m : Int} (hx : s.op x = .int .i64 n) (hy : s.op y = .int .i64 m) {e : TypeId} (he : lookO S T.elem = some e) {z : Bool × CT} (hl : lookO e T.lay = some z) {by_ : Nat} (hby : lookO e T.byt = some by_)
    (h0 : 0 ≤ n) (h1 : n ≤ m) (h2 : m * (by_ : Int) ≤ 281474976710656) (h3 : 0 < by_) (hsz : 0 < z.2.sz) {dn : Nat} (hn : s.us dn = false) : Goal C P o s a w (.ref dn) [⟨dn, some (.root ⟨e, z.2, List.replicate n.toNat z.2.z, true, false, 0⟩), true⟩] := by
  have hxv := h.op x
  have hyv := h.op y
  rw [hx] at hxv
  rw [hy] at hyv
  obtain ⟨⟨i, zz, hi, his, hz, hzc⟩, _⟩ := hT.lay' hl
  have hb := hT.byt' hby
  rw [hi] at hb
  simp only [Option.map_some, Option.some.injEq] at hb
  have hm : m ≤ 281474976710656 := by
    have : m * 1 ≤ m * (by_ : Int) := Int.mul_le_mul_of_nonneg_left (by omega) (by omega)
    omega
  have hrun := run_make (P := P) w S e i zz (hT.elem' he) hi hz .i64 .i64 n m h0 h1 (by rw [hb, Int.mul_comm]; exact h2) (by omega)
  rw [his] at hrun
  have hzl : zz.cells.size = z.2.sz := by rw [← Array.length_toList, hzc, zv_len]
  have hmc : (madeCells zz.cells (m.toNat * z.2.sz)).toList = (List.replicate m.toNat (zv z.2)).flatten := by
    rw [← hzl, madeCells_list _ (by omega), hzc]
  have hA := h.alloc (.cells (madeCells zz.cells (m.toNat * z.2.sz)) e)
  have hflen : ∀ k, (List.replicate k (zv z.2)).flatten.length = k * z.2.sz := by
    intro k
    induction k with
    | zero => simp
    | succ k ih => rw [List.replicate_succ, List.flatten_cons, List.length_append, ih, zv_len, Nat.succ_mul]; omega
  have htake : (List.replicate m.toNat (zv z.2)).flatten.take (n.toNat * z.2.sz) = (List.replicate n.toNat (zv z.2)).flatten := by
    have e1 : m.toNat = n.toNat + (m.toNat - n.toNat) := by omega
    rw [e1, ← List.replicate_append_replicate, List.flatten_append, ← hflen n.toNat, List.take_left]
  have hown : (w.alloc (.cells (madeCells zz.cells (m.toNat * z.2.sz)) e)).ownsRow 0 e z.2.sz (.slice (some ⟨w.heap.size, 0, none⟩) n.toNat m.toNat) (List.replicate n.toNat z.2.z).length (List.replicate n.toNat (zv z.2)).flatten := by
    rw [List.length_replicate]
    refine ⟨by rw [hflen], .inr ⟨w.heap.size, m.toNat, _, rfl, Nat.zero_le _, heap_alloc_new w _, by omega, by simp only [maxLen]; omega, size_madeCells _ _, by rw [hmc]; exact htake⟩⟩
  obtain ⟨E', hE⟩ := hA.addRoot hn (q := ⟨e, z.2, List.replicate n.toNat z.2.z, true, false, 0⟩) hown (all_rep true z.2 n.toNat) (fun b hb => by
      simp [Value.ownBlock] at hb
      subst hb
      exact ⟨fun hc => absurd (h.lt _ hc) (by omega), .inl h.keep.size⟩) (by simp [Value.ownBlock]) (fun k b hb hc => by
      simp [Value.ownBlock] at hb
      subst hb
      exact absurd (h.own k _ hc).2.1 (by omega)) o.dst
  exact ⟨_, _, R, E', .inl (by simp [execOp, ho, rv_int hxv, rv_int hyv, hrun]), hE⟩
end Go.Ev
