/- A text of the claim: an evaluator of Go functions, and why it answers as they do. -/
import Derived.Test.YtkkjheildoclgaaEvT
set_option linter.all false
set_option linter.unusedVariables false
set_option linter.unusedSimpArgs false
set_option autoImplicit false
set_option linter.unusedVariables false
namespace Go.Ev
variable {P : Program} {T : Tab} {O : Orc} {C : Ctx} {s : St} {a : Act} {w : World} {R : Nat → Prop} {E : Env}

/-- what a call leaves behind -/
def Back (w : World) (R : Nat → Prop) (F0 : List Nat) (fa fr : Fm) (r : DenF fr × DenB fa) (bv : List Value) (v : Value) (w' : World) : Prop :=
  Keep w w' F0 ∧ ∃ R' F' G', (∀ b, R b → R' b) ∧ (∀ b, R' b → b < w'.heap.size ∧ (R b ∨ w.heap.size ≤ b ∨ b ∈ F0)) ∧ RepR w' R' fr r.1 v F' ∧ RepBVs w' R' fa r.2 bv G' ∧ (F' ++ G').Nodup ∧ ∀ b, b ∈ F' ++ G' → ¬ R' b ∧ b < w'.heap.size ∧ (w.heap.size ≤ b ∨ b ∈ F0)
def UponCall (P : Program) (g : FuncId) (vals : List Value) (w : World) (K : Value → World → Prop) : Prop :=
  match (callFunc g vals.toArray).run P w with
  | .ok (.value v) w' => K v w'
  | .ok (.enter f args) w' => Calls P f args w' fun e w'' => ∃ v, e = .returned v ∧ K v w''
  | _ => False
/-- a function keeps what is told of it -/
def SpecOK (P : Program) (g : FuncId) (S : Spec) : Prop :=
  ∀ (w : World) (R : Nat → Prop) (F0 : List Nat) (vals : List Value) (x : DenF S.fa) (r : DenF S.fr × DenB S.fa), S.spec x = some r → RepVs w R S.fa x vals F0 → F0.Nodup → (∀ b, b ∈ F0 → ¬ R b ∧ b < w.heap.size) → (∀ b, R b → b < w.heap.size) →
    UponCall P g vals w fun v w' => Back w R F0 S.fa S.fr r vals v w'
def OrcOK (P : Program) (O : Orc) : Prop := ∀ g S, lookO g O = some S → SpecOK P g S

def GoalW (C : Ctx) (P : Program) (o : Oper) (s : St) (a : Act) (w : World) (v : AV) (ws : List W) : Prop :=
  ∀ (next : Act → World → Prop) (Q : Exit → Act → World → Prop), (∀ u w' R' E', Sim C ((s.write ws).put o.dst v) (a.put o.dst u) w' R' E' → next (a.put o.dst u) w') → o.wp P a w next Q
theorem Goal.gw {o : Oper} {v : AV} {ws : List W} (h : Goal C P o s a w v ws) : GoalW C P o s a w v ws := by
  intro next Q hn
  obtain ⟨u, w', R', E', hr, hs⟩ := h
  unfold Oper.wp
  rcases hr with hr | ⟨rfl, hr⟩
  · rw [hr]; exact hn _ _ _ _ hs
  · rw [hr]; exact hn _ _ _ _ hs

/-- the world turns where nothing is told, and more is told to be read -/
theorem Sim.turnR (h : Sim C s a w R E) {w' : World} {R' : Nat → Prop} (hb : ∀ b, b < w.heap.size → (R b ∨ ∃ n, b ∈ E.F n) → w'.heap[b]? = w.heap[b]?) (hs : w.heap.size ≤ w'.heap.size) (hk : Keep C.w0 w' C.F0)
    (hR : ∀ b, R b → R' b) (hR' : ∀ b, R' b → b < w'.heap.size ∧ (∀ n, b ∉ E.F n) ∧ (C.R0 b ∨ C.w0.heap.size ≤ b ∨ b ∈ C.F0)) : Sim C s a w' R' E := by
  have mv : Move w R s.st s.us E w' R' s.st s.us E :=
    ⟨fun _ h => h, fun _ _ => ⟨rfl, rfl, rfl, rfl⟩, fun b hb' => ⟨hR b hb', hb b (h.lt b hb') (.inl hb')⟩, fun n q' _ hq => ⟨q', hq, Nat.le_refl _, fun _ b hb' => ⟨.inr hb', hb b (h.own n b hb').2.1 (.inr ⟨n, hb'⟩)⟩⟩⟩
  refine ⟨fun t => RV.move mv (h.tm t), h.nt, h.df, fun n => ?_, h.un, fun b hb => hR b (h.sub b hb), fun b hb' => (hR' b hb').1, fun n b hb' => ⟨fun hc => (hR' b hc).2.1 n hb', Nat.lt_of_lt_of_le (h.own n b hb').2.1 hs, (h.own n b hb').2.2⟩, h.nd, h.dj, hk, fun b hb => (hR' b hb).2.2⟩
  cases hu : s.us n with
  | false => exact SR.congr (h.un n hu) (h.unF hu)
  | true => exact SR.move mv hu rfl rfl (fun b hb' => hb b (h.own n b hb').2.1 (.inr ⟨n, hb'⟩)) (h.st n)

theorem bif_some' {α : Type} {c : Bool} {x : Option α} {r : α} (h : (bif c then x else none) = some r) : c = true ∧ x = some r := by
  cases c with
  | true => exact ⟨rfl, h⟩
  | false => cases h
theorem st_eq' {s1 s2 : St} (h1 : s1.tm = s2.tm) (h2 : s1.st = s2.st) (h3 : s1.us = s2.us) (h4 : s1.nt = s2.nt) : s1 = s2 := by
  cases s1; cases s2; simp_all
theorem elemN_iff (x : Nat) : ∀ (l : List Nat), elemN x l = true ↔ x ∈ l
  | [] => by simp [elemN]
  | y :: r => by
    unfold elemN
    by_cases hy : y = x
    · subst hy; simp
    · rw [beq_ne hy]; simp [elemN_iff x r, Ne.symm hy]
theorem anyN_iff : ∀ {l k : List Nat}, anyN l k = false → ∀ n, n ∈ l → n ∉ k
  | [], _, _ => by simp
  | x :: r, k, h => by
    unfold anyN at h
    cases hx : elemN x k with
    | true => rw [hx] at h; simp at h
    | false =>
      rw [hx] at h
      intro n hn
      rcases List.mem_cons.1 hn with rfl | hn
      · intro hc; rw [(elemN_iff n k).2 hc] at hx; cases hx
      · exact anyN_iff h n hn
theorem keep_tr {w0 w w' : World} {F0 F : List Nat} (h : Keep w0 w F0) (k : Keep w w' F) (hF : ∀ b, b ∈ F → w0.heap.size ≤ b ∨ b ∈ F0) : Keep w0 w' F0 :=
  ⟨k.os.trans h.os, k.tape.trans h.tape, k.output.trans h.output, Nat.le_trans h.size k.size, fun b hb hb0 => by
    rw [k.block b (Nat.lt_of_lt_of_le hb h.size) (fun hc => ?_)]
    · exact h.block b hb hb0
    · rcases hF b hc with h1 | h1
      · omega
      · exact hb0 h1⟩

/-! the arguments that come back -/
/-- several names' contents change, and with them the world, in these names' blocks alone -/
theorem Sim.setL (h : Sim C s a w R E) {w' : World} {R' : Nat → Prop} (l : List Nat) (m' : Mem) (F' : Nat → List Nat) (hus : ∀ k, k ∈ l → s.us k = true) (hm : ∀ k, k ∉ l → m' k = s.st k) (hF : ∀ k, k ∉ l → F' k = E.F k)
    (hl : ∀ k, k ∈ l → ∃ q q', s.st k = some (.root q) ∧ m' k = some (.root q') ∧ q.ver < q'.ver ∧ q'.xs.length = q.xs.length ∧ q'.t.sz = q.t.sz ∧ ∃ ds Fi, w'.ownsRow 0 q'.e q'.t.sz (E.V k) q'.xs.length ds ∧ F' k = (E.V k).ownBlock.toList ++ Fi ∧ All (Rp w' R' q'.deep q'.t) q'.xs ds Fi)
    (hb : ∀ b, b < w.heap.size → (R b ∨ ∃ k, k ∉ l ∧ b ∈ E.F k) → w'.heap[b]? = w.heap[b]?) (hs : w.heap.size ≤ w'.heap.size) (hk : Keep C.w0 w' C.F0) (hR : ∀ b, R b → R' b) (hR' : ∀ b, R' b → b < w'.heap.size ∧ (∀ n, b ∉ F' n) ∧ (C.R0 b ∨ C.w0.heap.size ≤ b ∨ b ∈ C.F0))
    (hown : ∀ k b, k ∈ l → b ∈ F' k → b < w'.heap.size ∧ (C.w0.heap.size ≤ b ∨ b ∈ C.F0)) (hnd : ∀ k, k ∈ l → (F' k).Nodup) (hdj : ∀ k j b, k ∈ l → j ≠ k → b ∈ F' k → b ∉ F' j) :
    Sim C { s with st := m' } a w' R' { E with F := F' } := by
  have mv : Move w R s.st s.us E w' R' m' s.us { E with F := F' } := by
    refine ⟨fun _ h => h, fun _ _ => ⟨rfl, rfl, rfl, rfl⟩, fun b hb' => ⟨hR b hb', hb b (h.lt b hb') (.inl hb')⟩, fun n q' _ hq => ?_⟩
    by_cases hn : n ∈ l
    · obtain ⟨q, q2, e1, e2, e3, _⟩ := hl n hn
      rw [e2] at hq
      injection hq with hq
      injection hq with hq
      subst hq
      exact ⟨q, e1, by omega, fun hc => by omega⟩
    · rw [hm n hn] at hq
      exact ⟨q', hq, Nat.le_refl _, fun _ b hb' => ⟨.inr (by show b ∈ F' n; rw [hF n hn]; exact hb'), hb b (h.own n b hb').2.1 (.inr ⟨n, hn, hb'⟩)⟩⟩
  refine ⟨fun t => RV.move mv (h.tm t), h.nt, h.df, fun k => ?_, fun k hk' => ?_, fun b hb => hR b (h.sub b hb), fun b hb' => (hR' b hb').1, fun k b hb' => ?_, fun k => ?_, fun k j b hkj hb1 hb2 => ?_, hk, fun b hb => (hR' b hb).2.2⟩
  · by_cases hn : k ∈ l
    · obtain ⟨q, q', e1, e2, e3, e4, e5, ds, Fi, g1, g2, g3⟩ := hl k hn
      obtain ⟨l1, l2, _⟩ := h.root e1
      unfold SR
      dsimp only
      rw [e2]
      exact ⟨by rw [l1, e4], by rw [l2, e5], ds, Fi, g1, g2, g3⟩
    · cases hu : s.us k with
      | false => exact SR.congr (by simp only; rw [hm k hn]; exact h.un k hu) (by simp only; rw [hF k hn]; exact h.unF hu)
      | true => exact SR.move mv hu (hm k hn) (hF k hn) (fun b hb' => hb b (h.own k b hb').2.1 (.inr ⟨k, hn, hb'⟩)) (h.st k)
  · show m' k = none
    by_cases hn : k ∈ l
    · have := hus k hn
      simp only at hk'
      rw [this] at hk'
      cases hk'
    · rw [hm k hn]; exact h.un k hk'
  · simp only at hb'
    refine ⟨fun hc => (hR' b hc).2.1 k hb', ?_⟩
    by_cases hn : k ∈ l
    · exact hown k b hn hb'
    · rw [hF k hn] at hb'
      exact ⟨Nat.lt_of_lt_of_le (h.own k b hb').2.1 hs, (h.own k b hb').2.2⟩
  · by_cases hn : k ∈ l
    · exact hnd k hn
    · simp only; rw [hF k hn]; exact h.nd k
  · simp only at hb1 hb2
    by_cases hn : k ∈ l
    · exact hdj k j b hn (Ne.symm hkj) hb1 hb2
    · by_cases hj : j ∈ l
      · exact hdj j k b hj hkj hb2 hb1
      · rw [hF k hn] at hb1
        rw [hF j hj] at hb2
        exact h.dj k j b hkj hb1 hb2

theorem minus_mem : ∀ {l k : List Nat} {n : Nat}, n ∈ minus l k ↔ n ∈ l ∧ n ∉ k
  | [], _, _ => by simp [minus]
  | x :: r, k, n => by
    unfold minus
    cases hx : elemN x k with
    | true =>
      have := (elemN_iff x k).1 hx
      simp only [cond_true, List.mem_cons]
      rw [minus_mem]
      constructor
      · rintro ⟨h1, h2⟩; exact ⟨.inr h1, h2⟩
      · rintro ⟨h1 | h1, h2⟩
        · subst h1; exact absurd this h2
        · exact ⟨h1, h2⟩
    | false =>
      have : x ∉ k := fun hc => by rw [(elemN_iff x k).2 hc] at hx; cases hx
      simp only [cond_false, List.mem_cons]
      rw [minus_mem]
      constructor
      · rintro (h1 | ⟨h1, h2⟩)
        · subst h1; exact ⟨.inl rfl, this⟩
        · exact ⟨.inr h1, h2⟩
      · rintro ⟨h1 | h1, h2⟩
        · exact .inl h1
        · exact .inr ⟨h1, h2⟩
theorem subN_iff : ∀ {l k : List Nat}, subN l k = true → ∀ n, n ∈ l → n ∈ k
  | [], _, _ => by simp
  | x :: r, k, h => by
    unfold subN at h
    cases hx : elemN x k with
    | false => rw [hx] at h; cases h
    | true =>
      rw [hx] at h
      intro n hn
      rcases List.mem_cons.1 hn with rfl | hn
      · exact (elemN_iff n k).1 hx
      · exact subN_iff h n hn
theorem write_old_ne : ∀ (ws : List W) (s : St) (k : Nat), k ∉ ws.map (·.n) → (s.write ws).st k = s.st k
  | [], _, _, _ => rfl
  | x :: r, s, k, h => by
    simp only [List.map_cons, List.mem_cons, not_or] at h
    have := write_old_ne r { s with st := upd s.st x.n x.e, us := upd s.us x.n (s.us x.n || x.new) } k h.2
    exact this.trans (upd_ne _ _ h.1)
theorem BackOK.us : ∀ {ws : List W} {w' : World} {R' : Nat → Prop} {m : Mem} {V : Nat → Value} {Fn : Nat → List Nat} {G0 G : List Nat}, BackOK w' R' m V Fn G0 ws G → ∀ (s : St), (s.write ws).us = s.us ∧ (s.write ws).tm = s.tm ∧ (s.write ws).nt = s.nt
  | [], _, _, _, _, _, _, _, _, _ => ⟨rfl, rfl, rfl⟩
  | x :: r, _, _, _, _, _, _, _, ⟨G1, G2, q, q', e, e1, e2, e3, e4, e5, e6, h⟩, s => by
    have e7 : x.new = false := by rw [e1]
    obtain ⟨h1, h2, h3⟩ := h.us { s with st := upd s.st x.n x.e, us := upd s.us x.n (s.us x.n || x.new) }
    refine ⟨h1.trans ?_, h2, h3⟩
    show upd s.us x.n (s.us x.n || x.new) = s.us
    rw [e7, Bool.or_false, upd_self]
/-- the new footprints, name by name -/
theorem BackOK.spread {w' : World} {R' : Nat → Prop} {V : Nat → Value} {Fn : Nat → List Nat} {G0 : List Nat} (F : Nat → List Nat) (hdj : ∀ n k b, n ≠ k → b ∈ Fn n → b ∉ Fn k) : ∀ {ws : List W} {m : Mem} {G : List Nat}, BackOK w' R' m V Fn G0 ws G → (ws.map (·.n)).Nodup → G.Nodup → (∀ b, b ∈ G → ∀ k, b ∈ Fn k → b ∈ G0) → ∀ (s : St),
    ∃ F' : Nat → List Nat, (∀ k, k ∉ ws.map (·.n) → F' k = F k) ∧ (∀ k b, k ∈ ws.map (·.n) → b ∈ F' k → b ∈ G ∨ (b ∈ Fn k ∧ b ∉ G0)) ∧ (∀ k, k ∈ ws.map (·.n) → (F' k).Nodup) ∧ (∀ k j b, k ∈ ws.map (·.n) → j ∈ ws.map (·.n) → j ≠ k → b ∈ F' k → b ∉ F' j) ∧
      (∀ k, k ∈ ws.map (·.n) → ∃ q q', m k = some (.root q) ∧ (s.write ws).st k = some (.root q') ∧ q.ver < q'.ver ∧ q'.xs.length = q.xs.length ∧ q'.t.sz = q.t.sz ∧ ∃ ds Fi, w'.ownsRow 0 q'.e q'.t.sz (V k) q'.xs.length ds ∧ F' k = (V k).ownBlock.toList ++ Fi ∧ All (Rp w' R' q'.deep q'.t) q'.xs ds Fi)
  | [], m, G, _, _, _, _, s => ⟨F, fun _ _ => rfl, by simp, by simp, by simp, by simp⟩
  | x :: r, m, G, ⟨G1, G2, q, q', e, e1, e2, e3, e4, e5, ⟨ds, Fi, e6, e7, e8, e9⟩, h⟩, hn, hG, hsep, s => by
    subst e
    simp only [List.map_cons, List.nodup_cons] at hn
    obtain ⟨n1, n2, n3⟩ := List.nodup_append.1 hG
    obtain ⟨F', f1, f2, f3, f4, f5⟩ := h.spread F hdj hn.2 n2 (fun b hb => hsep b (by simp [hb])) { s with st := upd s.st x.n x.e, us := upd s.us x.n (s.us x.n || x.new) }
    have cross : ∀ j b, j ≠ x.n → (b ∈ G1 ∨ (b ∈ Fn x.n ∧ b ∉ G0)) → (b ∈ G2 ∨ (b ∈ Fn j ∧ b ∉ G0)) → False := fun j b hj h1 h2 => by
      rcases h1 with h1 | ⟨h1, h1'⟩
      · rcases h2 with h2 | ⟨h2, h2'⟩
        · exact n3 b h1 b h2 rfl
        · exact h2' (hsep b (by simp [h1]) j h2)
      · rcases h2 with h2 | ⟨h2, h2'⟩
        · exact h1' (hsep b (by simp [h2]) x.n h1)
        · exact hdj j x.n b hj h2 h1
    refine ⟨upd F' x.n ((V x.n).ownBlock.toList ++ Fi), fun k hk => ?_, fun k b hk hb => ?_, fun k hk => ?_, fun k j b hk hj hjk hb => ?_, fun k hk => ?_⟩
    · simp only [List.map_cons, List.mem_cons, not_or] at hk
      rw [upd_ne _ _ hk.1]
      exact f1 k hk.2
    · by_cases hkx : k = x.n
      · subst hkx; rw [upd_at] at hb; rcases e9 b hb with h | h
        · simp [h]
        · exact .inr h
      · rw [upd_ne _ _ hkx] at hb
        rcases f2 k b (by simpa [hkx] using hk) hb with h | h
        · simp [h]
        · exact .inr h
    · by_cases hkx : k = x.n
      · subst hkx; rw [upd_at]; exact e8
      · rw [upd_ne _ _ hkx]; exact f3 k (by simpa [hkx] using hk)
    · by_cases hkx : k = x.n
      · subst hkx
        rw [upd_at] at hb
        rw [upd_ne _ _ hjk]
        intro hc
        exact cross j b hjk (e9 b hb) (f2 j b (by simpa [hjk] using hj) hc)
      · rw [upd_ne _ _ hkx] at hb
        have hb2 := f2 k b (by simpa [hkx] using hk) hb
        by_cases hjx : j = x.n
        · subst hjx; rw [upd_at]; exact fun hc => cross k b hkx (e9 b hc) hb2
        · rw [upd_ne _ _ hjx]
          exact f4 k j b (by simpa [hkx] using hk) (by simpa [hjx] using hj) hjk hb
    · by_cases hkx : k = x.n
      · subst hkx
        refine ⟨q, q', e2, ?_, e3, e4, e5, ds, Fi, e6, by rw [upd_at], e7⟩
        show (St.write { s with st := upd s.st x.n x.e, us := upd s.us x.n (s.us x.n || x.new) } r).st x.n = _
        rw [write_old_ne _ _ _ hn.1]
        simp only
        rw [upd_at, e1]
      · obtain ⟨a1, a2, a3, a4, a5, a6, a7, ds', Fi', a8, a9, a10⟩ := f5 k (by simpa [hkx] using hk)
        exact ⟨a1, a2, a3, a4, a5, a6, a7, ds', Fi', a8, by rw [upd_ne _ _ hkx]; exact a9, a10⟩

theorem splitAlt_some {ρ : Type} : ∀ {f : Fm} {x : DenF f} {k : (g : Fm) → DenF g → Option ρ} {r : ρ}, splitAlt f x k = some r → ∃ (g : Fm) (y : DenF g), k g y = some r ∧ (∀ (w : World) (R : Nat → Prop) (v : Value) (F : List Nat), RepR w R f x v F → RepR w R g y v F) ∧ (f.hasImm = false → g.hasImm = false) := by
  intro f
  induction f with
  | alt a b iha ihb =>
    intro x k r h
    cases x with
    | inl y =>
      obtain ⟨g, z, h1, h2, h3⟩ := iha (x := y) h
      refine ⟨g, z, h1, fun w R v F hr => h2 w R v F ?_, fun hi => h3 ?_⟩
      · have hr' : RepV w R a y v F := hr
        cases a with
        | tup a => simp only [RepV, RepV0, RepC] at hr'
        | _ => simp only [RepR]; exact hr'
      · simp only [Fm.hasImm, Bool.or_eq_false_iff] at hi; exact hi.1
    | inr y =>
      obtain ⟨g, z, h1, h2, h3⟩ := ihb (x := y) h
      refine ⟨g, z, h1, fun w R v F hr => h2 w R v F ?_, fun hi => h3 ?_⟩
      · have hr' : RepV w R b y v F := hr
        cases b with
        | tup a => simp only [RepV, RepV0, RepC] at hr'
        | _ => simp only [RepR]; exact hr'
      · simp only [Fm.hasImm, Bool.or_eq_false_iff] at hi; exact hi.2
  | _ => intro x k r h; exact ⟨_, x, h, fun w R v F hr => hr, fun hi => hi⟩

/-- behind a call -/
theorem Sim.back (h : Sim C s a w R E) {l wr G0 : List Nat} {rep : Prop} {bk : World → (Nat → Prop) → List W × List BB → List Nat → Prop} (hL : LentV w R s E l wr G0 rep bk) (hwn : wr.Nodup) {fa fr : Fm} {r : DenF fr × DenB fa} {bv : List Value} {v : Value} {w' : World} (hb : Back w (lentR E R l) G0 fa fr r bv v w') (hi : (fr.hasImm = false ∧ fa.immB = false) ∨ l = [])
    {ws : List W × List BB} (hbk : ∀ w' R' G', RepBVs w' R' fa r.2 bv G' → bk w' R' ws G') (hnd : (ws.1.map (·.n) ++ ws.2.map (·.b)).Nodup) (hsw : ∀ n, n ∈ ws.1.map (·.n) ++ ws.2.map (·.b) → n ∈ wr) (d : Option Nat) (n : Nat) {g : Fm} {y : DenF g} (hg : ∀ (w : World) (R : Nat → Prop) (v : Value) (F : List Nat), RepR w R fr r.1 v F → RepR w R g y v F)
    (hf : freshOk s.us (gone (minus wr (ws.1.map (·.n))) ++ (ws.1 ++ (ws.2.flatMap BB.ws ++ (outR g y n).2))) = true) :
    ∃ R' E', Sim C ((s.write (gone (minus wr (ws.1.map (·.n))) ++ (ws.1 ++ (ws.2.flatMap BB.ws ++ (outR g y n).2)))).put d (outR g y n).1) (a.put d v) w' R' E' := by
  obtain ⟨hk, R1, F1, G1, b1, b2, b3, b4, b5, b6⟩ := hb
  obtain ⟨hndw, hndb, hndx⟩ := List.nodup_append.1 hnd
  have hG0 : ∀ b, b ∈ G0 → ¬ R b ∧ b < w.heap.size ∧ (C.w0.heap.size ≤ b ∨ b ∈ C.F0) := fun b hb => by
    obtain ⟨k, hk, hbk⟩ := hL.own b hb
    exact h.own k b hbk
  have hwr : ∀ b, b ∈ G0 → C.w0.heap.size ≤ b ∨ b ∈ C.F0 := fun b hb => (hG0 b hb).2.2
  have hK := keep_tr h.keep hk hwr
  obtain ⟨n1, n2, n3⟩ := List.nodup_append.1 b5
  have h1 := h.goneDrop (minus wr (ws.1.map (·.n)))
  have hE1 : ∀ k b, b ∈ (E.dropL (minus wr (ws.1.map (·.n)))).F k → b ∈ E.F k ∧ (k ∈ wr → k ∈ ws.1.map (·.n)) := fun k b hb => by
    obtain ⟨h2, h3⟩ := dropL_F_le _ E k b hb
    refine ⟨h2, fun hk => ?_⟩
    by_cases hc : k ∈ ws.1.map (·.n)
    · exact hc
    · exact absurd (minus_mem.2 ⟨hk, hc⟩) h3
  have hold : ∀ k b, b ∈ E.F k → k ∉ wr → b ∉ G0 := fun k b hb hk hc => by
    obtain ⟨j, hj, hb'⟩ := hL.own b hc
    exact h.dj k j b (fun e => hk (e ▸ hj)) hb hb'
  have hnew : ∀ b, b ∈ F1 ++ G1 → (C.w0.heap.size ≤ b ∨ b ∈ C.F0) ∧ ∀ k, b ∈ E.F k → b ∈ G0 := fun b hb => by
    obtain ⟨c1, c2, c3⟩ := b6 b hb
    constructor
    · rcases c3 with c3 | c3
      · exact .inl (Nat.le_trans h.keep.size c3)
      · exact hwr b c3
    · intro k hbk
      rcases c3 with c3 | c3
      · exact absurd (h.own k b hbk).2.1 (by omega)
      · exact c3
  rw [freshOk_app, Bool.and_eq_true, freshOk_app, Bool.and_eq_true, freshOk_app, Bool.and_eq_true] at hf
  have fin : ∀ (R' : Nat → Prop), (∀ b, R b → R' b) → (∀ b, R' b → R1 b) → (∀ b, R' b → b < w'.heap.size ∧ (R b ∨ w.heap.size ≤ b ∨ b ∈ G0)) → RepR w' R' fr r.1 v F1 → RepBVs w' R' fa r.2 bv G1 →
      ∃ R' E', Sim C ((s.write (gone (minus wr (ws.1.map (·.n))) ++ (ws.1 ++ (ws.2.flatMap BB.ws ++ (outR g y n).2)))).put d (outR g y n).1) (a.put d v) w' R' E' := by
    intro R' hR hR1 hRn hr1 hr2
    obtain ⟨Gw, Gb, hperm, hbk', hbox⟩ := hL.back hwn G0 w' R' ws G1 ⟨fun b hb => ⟨hR b hb, hk.block b (h.lt b hb) fun hc => (hG0 b hc).1 hb⟩, fun k b _ hb hb0 => hk.block b (h.own k b hb).2.1 hb0, fun _ b _ _ hb0 => hb0⟩ (hbk w' R' G1 hr2) (fun b hb => (b6 b (List.mem_append.2 (.inr hb))).2.2) n2
    have hp : ∀ b, b ∈ Gw ++ Gb → b ∈ G1 := fun b hb => hperm.subset hb
    obtain ⟨q1, q2, q3⟩ := List.nodup_append.1 (hperm.nodup_iff.2 n2)
    obtain ⟨F', f1, f2, f3, f4, f5⟩ := hbk'.spread (E.dropL (minus wr (ws.1.map (·.n)))).F h.dj hndw q1 (fun b hb => (hnew b (List.mem_append.2 (.inr (hp b (List.mem_append.2 (.inl hb)))))).2) (s.write (gone (minus wr (ws.1.map (·.n)))))
    obtain ⟨u1, u2, u3⟩ := hbk'.us (s.write (gone (minus wr (ws.1.map (·.n)))))
    obtain ⟨g1, g2, g3, g4, g5⟩ := gone_us (minus wr (ws.1.map (·.n))) s
    obtain ⟨v1, v2, v3, v4⟩ := dropL_V (minus wr (ws.1.map (·.n))) E
    have hcase : ∀ k b, b ∈ F' k → (k ∈ ws.1.map (·.n) ∧ b ∈ Gw) ∨ (b ∈ E.F k ∧ b ∉ G0) := fun k b hb => by
      by_cases hkn : k ∈ ws.1.map (·.n)
      · rcases f2 k b hkn hb with h2 | h2
        · exact .inl ⟨hkn, h2⟩
        · exact .inr h2
      · rw [f1 k hkn] at hb
        obtain ⟨h2, h3⟩ := hE1 k b hb
        exact .inr ⟨h2, hold k b h2 fun hc => hkn (h3 hc)⟩
    have inW : ∀ b, b ∈ Gw → b ∈ F1 ++ G1 := fun b hb => List.mem_append.2 (.inr (hp b (List.mem_append.2 (.inl hb))))
    have inB : ∀ b, b ∈ Gb → b ∈ F1 ++ G1 := fun b hb => List.mem_append.2 (.inr (hp b (List.mem_append.2 (.inr hb))))
    have h2 := h1.setL (w' := w') (R' := R') (ws.1.map (·.n)) ((s.write (gone (minus wr (ws.1.map (·.n))))).write ws.1).st F' (fun k hk => by rw [g1]; exact hL.us k (.inr (hsw k (List.mem_append.2 (.inl hk))))) (fun k hk => write_old_ne _ _ _ hk) (fun k hk => f1 k hk)
      (fun k hk => by
        obtain ⟨q, q', e1, e2, e3, e4, e5, ds, Fi, e6, e7, e8⟩ := f5 k hk
        refine ⟨q, q', ?_, e2, e3, e4, e5, ds, Fi, by rw [v1]; exact e6, by rw [v1]; exact e7, e8⟩
        rw [g4 k (fun hc => (minus_mem.1 hc).2 hk)]
        exact e1)
      (fun b hb hb' => hk.block b hb (fun hc => by
        rcases hb' with hb' | ⟨k, hkn, hb'⟩
        · exact (hG0 b hc).1 hb'
        · obtain ⟨h2, h3⟩ := hE1 k b hb'
          exact hold k b h2 (fun hc => hkn (h3 hc)) hc)) hk.size hK hR (fun b hb => by
        obtain ⟨c1, c2⟩ := hRn b hb
        refine ⟨c1, fun k hk => ?_, ?_⟩
        · rcases hcase k b hk with ⟨_, hg⟩ | ⟨hbk, hb0⟩
          · exact (b6 b (inW b hg)).1 (hR1 b hb)
          · rcases c2 with c2 | c2 | c2
            · exact (h.own k b hbk).1 c2
            · exact absurd (h.own k b hbk).2.1 (by omega)
            · exact hb0 c2
        · rcases c2 with c2 | c2 | c2
          · exact h.nw b c2
          · exact .inr (.inl (Nat.le_trans h.keep.size c2))
          · exact .inr (hwr b c2))
      (fun k b hk' hb => by
        rcases f2 k b hk' hb with this | ⟨this, _⟩
        · exact ⟨(b6 b (inW b this)).2.1, (hnew b (inW b this)).1⟩
        · exact ⟨Nat.lt_of_lt_of_le (h.own k b this).2.1 hk.size, (h.own k b this).2.2⟩) f3 (fun k j b hk hjk hb hc => by
        by_cases hj : j ∈ ws.1.map (·.n)
        · exact f4 k j b hk hj hjk hb hc
        · rcases hcase j b hc with ⟨hj', _⟩ | ⟨hbj, hb0⟩
          · exact hj hj'
          · rcases f2 k b hk hb with h4 | ⟨h4, _⟩
            · exact hb0 ((hnew b (inW b h4)).2 j hbj)
            · exact h.dj k j b (Ne.symm hjk) h4 hbj)
    have hst : ({ (s.write (gone (minus wr (ws.1.map (·.n))))) with st := ((s.write (gone (minus wr (ws.1.map (·.n))))).write ws.1).st } : St) = (s.write (gone (minus wr (ws.1.map (·.n))))).write ws.1 := by
      exact st_eq' u2.symm rfl u1.symm u3.symm
    rw [hst] at h2
    obtain ⟨E2, s2, m2, k2, _⟩ := boxes_ok h2 (bs := ws.2) (G := Gb) (by rw [u1, g1]; simp only; rw [v2]; exact hbox) ⟨q2, fun b hb => by
      obtain ⟨c1, c2, c3⟩ := b6 b (inB b hb)
      refine ⟨fun hc => c1 (hR1 b hc), (hnew b (inB b hb)).1, c2, fun k hk => ?_⟩
      rcases hcase k b hk with ⟨_, hg⟩ | ⟨hbk, hb0⟩
      · exact q3 b hg b hb rfl
      · exact hb0 ((hnew b (inB b hb)).2 k hbk)⟩ (fun x hx => by
      have hxn : x.b ∉ ws.1.map (·.n) := fun hc => hndx _ hc _ (List.mem_map_of_mem hx) rfl
      rw [write_old_ne _ _ _ hxn]
      exact g5 x.b (minus_mem.2 ⟨hsw _ (List.mem_append.2 (.inr (List.mem_map_of_mem hx))), hxn⟩)) hndb hf.2.2.1
    obtain ⟨E', k1, k2', k3, k4⟩ := outR_ok s2 (hg _ _ _ _ hr1) ⟨n1, fun b hb => by
      obtain ⟨c1, c2, c3⟩ := b6 b (List.mem_append.2 (.inl hb))
      refine ⟨fun hc => c1 (hR1 b hc), (hnew b (List.mem_append.2 (.inl hb))).1, c2, fun k hk => ?_⟩
      rcases k2 k b hk with hk | hk
      · rcases hcase k b hk with ⟨_, hg⟩ | ⟨hbk, hb0⟩
        · exact n3 b hb b (hp b (List.mem_append.2 (.inl hg))) rfl
        · exact hb0 ((hnew b (List.mem_append.2 (.inl hb))).2 k hbk)
      · exact n3 b hb b (hp b (List.mem_append.2 (.inr hk))) rfl⟩ n hf.2.2.2
    rw [write_app, write_app, write_app]
    exact ⟨R', E', k1.put d k4⟩
  rcases hi with hi | hi
  · refine fin R (fun b hb => hb) (fun b hb => b1 b (.inl hb)) (fun b hb => ⟨Nat.lt_of_lt_of_le (h.lt b hb) hk.size, .inl hb⟩) (b3.anyR hi.1) (b4.anyR hi.2)
  · subst hi
    refine fin R1 (fun b hb => b1 b (.inl hb)) (fun b hb => hb) (fun b hb => ?_) b3 b4
    obtain ⟨c1, c2⟩ := b2 b hb
    refine ⟨c1, ?_⟩
    rcases c2 with (c2 | ⟨_, c2, _⟩) | c2 | c2
    · exact .inl c2
    · cases c2
    · exact .inr (.inl c2)
    · exact .inr (.inr c2)

theorem L2.append_inv {α β : Type} {p : α → β → Prop} {l k : List α} {l' k' : List β} (h1 : L2 p l l') (h2 : L2 p k k') : L2 p (l ++ k) (l' ++ k') := h1.app h2

/-- a call of what keeps its contract -/
theorem g_callX (hO : OrcOK P O) (h : Sim C s a w R E) {m : Mem} (hm : Sub m s.st) {o : Oper} {g : FuncId} {vals : List Value} (hexec : (execOp a.eval o).run P w = (callFunc g vals.toArray).run P w) {args : List AV} (hargs : L2 (RV1 w R s.st s.us E) args vals)
    {ρ : Type} {K : AV → List W → Option ρ} {res : ρ} {n : Nat} (he : evCall O n g args m K = some res) : ∃ v ws, K v ws = some res ∧ (freshOk s.us ws = true → GoalW C P o s a w v ws) := by
  unfold evCall at he
  split at he
  · rename_i S hS
    split at he
    · rename_i x l wr hl
      cases hcnd : (((S.fr.hasImm || S.fa.immB) && !l.isEmpty) || (!nodupN wr || anyN l wr)) with
      | true => rw [hcnd] at he; cases he
      | false =>
        rw [hcnd] at he
        dsimp only [cond_false] at he
        simp only [Bool.or_eq_false_iff, Bool.not_eq_false'] at hcnd
        split at he
        · rename_i r hr
          split at he
          · rename_i ws hws
            obtain ⟨hb, he⟩ := bif_some' he
            rw [Bool.and_eq_true] at hb
            obtain ⟨h', y, hK, hsp, _⟩ := splitAlt_some he
            refine ⟨_, _, hK, fun hf next Q hn => ?_⟩
            have hi : (S.fr.hasImm = false ∧ S.fa.immB = false) ∨ l = [] := by
              have := hcnd.1
              cases l with
              | nil => exact .inr rfl
              | cons _ _ => exact .inl (by simpa using this)
            obtain ⟨G0, hL⟩ := lendVs_ok h hm hargs (n + 40) hl
            have hdj := anyN_iff hcnd.2.2
            have hwrn := nodupN_iff hcnd.2.1
            have hU := hO g S hS w (lentR E R l) G0 _ x r hr hL.rep (hL.nd hwrn) (fun b hb => ⟨fun hc => ?_, ?_⟩) (fun b hb => ?_)
            · unfold Oper.wp
              rw [hexec]
              unfold UponCall at hU
              have done : ∀ v w', Back w (lentR E R l) G0 S.fa S.fr r vals v w' → next (a.put o.dst v) w' := fun v w' hb' => by
                obtain ⟨R', E', hs⟩ := h.back hL hwrn hb' hi (fun w' R' G' hG => ⟨r.2, hws, hG⟩) (nodupN_iff hb.1) (subN_iff hb.2) o.dst n hsp hf
                exact hn _ _ _ _ hs
              generalize hres : (callFunc g vals.toArray).run P w = res at hU
              cases res with
              | halt x w' => exact hU.elim
              | ok nx w' =>
                cases nx with
                | value v => exact done v w' hU
                | enter f args => exact Calls.mono hU (fun e w'' ⟨v, he, hb⟩ => by subst he; exact done v w'' hb)
                | _ => exact hU.elim
            · obtain ⟨j, hj, hb'⟩ := hL.own b hb
              rcases hc with hc | ⟨k, hk, hc⟩
              · exact (h.own j b hb').1 hc
              · exact h.dj k j b (fun e => hdj k hk (e ▸ hj)) hc hb'
            · obtain ⟨j, hj, hb'⟩ := hL.own b hb
              exact (h.own j b hb').2.1
            · rcases hb with hb | ⟨k, _, hb⟩
              · exact h.lt b hb
              · exact (h.own k b hb).2.1
          · cases he
        · cases he
    · cases he
  · cases he
/-- a value that is called -/
theorem exec_callv {o : Oper} {c : Call} (ho : o.op = .call c) {fo : Operand} (hc : c.callee = .value fo) {g : FuncId} {cv : List Value} (hfv : a.eval fo = .func (.func g) #[] cv.toArray) : (execOp a.eval o).run P w = (callFunc g ((c.args.toList.map a.eval ++ cv).toArray)).run P w := by
  have e1 : (c.args.map a.eval ++ cv.toArray) = (c.args.toList.map a.eval ++ cv).toArray := by
    apply Array.ext'
    simp
  rw [← e1]
  simp [execOp, ho, resolve, hc, hfv, Deferred.ofValue, invoke]
/-- a method of an interface's value that is called -/
theorem exec_invoke (hT : TabOK P T) {o : Oper} {c : Call} (ho : o.op = .call c) {fo : Operand} {nm : String} (hc : c.callee = .invoke fo nm) {X : TypeId} {u : Value} (hfv : a.eval fo = .iface X u) {ms : List (String × FuncId)} (hms : lookO X T.meth = some ms) {g : FuncId} (hg : lookS nm ms = some g) : (execOp a.eval o).run P w = (callFunc g ((u :: c.args.toList.map a.eval).toArray)).run P w := by
  have h1 := lookO_map _ _ X ms T.meth hT.meth hms
  simp only at h1
  have h2 : methOf P X nm = some g := by
    clear hms
    induction ms with
    | nil => simp [lookS] at hg
    | cons y r ih =>
      simp only [List.map_cons, List.cons.injEq] at h1
      unfold lookS at hg
      cases hy : y.1 == nm with
      | true =>
        rw [hy] at hg
        simp only [cond_true, Option.some.injEq] at hg
        have : y.1 = nm := by simpa using hy
        rw [← this, h1.1, hg]
      | false =>
        rw [hy] at hg
        exact ih hg h1.2
  unfold methOf at h2
  split at h2
  · rename_i i fs hi hst
    split at h2
    · rename_i mm hmm
      split at h2
      · rename_i hpe
        split at h2
        · rename_i f hf
          simp only [Option.some.injEq] at h2
          subst h2
          have e1 : (#[u] ++ c.args.map a.eval) = (u :: c.args.toList.map a.eval).toArray := by
            apply Array.ext'
            simp
          rw [← e1]
          have hp0 : mm.path = #[] := by simpa using hpe
          have hmeth : ∀ n, (method (n + 1) X u nm).run P w = .ok (f, u) w := fun n => by
            unfold method
            simp [typeInfo, hi, hmm, hf, hp0, follow, receiverAt, run_underlying hst, Place.get]
          have hd : ∃ n, P.types.size + Made.depth = n + 1 := ⟨P.types.size + 99, rfl⟩
          obtain ⟨n, hn⟩ := hd
          have harr : ∀ (xs : Array Value), (#[Value.iface X u] ++ xs).extract 1 (#[Value.iface X u] ++ xs).size = xs := fun xs => by
            apply Array.ext'
            simp
          have h0 : ∀ (xs : Array Value), (#[Value.iface X u] ++ xs)[0]? = some (Value.iface X u) := fun xs => by rw [Array.getElem?_append]; simp
          simp only [execOp, ho, resolve, hc, hfv, invoke, Sem.run_bind, Sem.run_pure, Result.andThen_ok, h0, harr, callMethod]
          simp [hn, hmeth]
        · cases h2
      · cases h2
    · cases h2
  · cases h2
end Go.Ev
