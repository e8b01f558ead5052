/- A text of the claim: an evaluator of Go functions, and why it answers as they do. -/
import Derived.Test.YtkkjheildoclgaaEvS
set_option linter.all false
set_option linter.unusedVariables false
set_option linter.unusedSimpArgs false
set_option autoImplicit false
set_option linter.unusedVariables false
namespace Go.Ev
variable {P : Program} {T : Tab} {C : Ctx} {s : St} {a : Act} {w : World} {R : Nat → Prop} {E : Env}

theorem Move.trans {w1 w2 w3 : World} {R1 R2 R3 : Nat → Prop} {m1 m2 m3 : Mem} {u1 u2 u3 : Nat → Bool} {E1 E2 E3 : Env} (h : Move w1 R1 m1 u1 E1 w2 R2 m2 u2 E2) (k : Move w2 R2 m2 u2 E2 w3 R3 m3 u3 E3) : Move w1 R1 m1 u1 E1 w3 R3 m3 u3 E3 := by
  refine ⟨fun n hn => k.fus n (h.fus n hn), fun n hn => ?_, fun b hb => ?_, fun n q3 hn hq => ?_⟩
  · obtain ⟨a1, a2, a3, a4⟩ := h.nm n hn
    obtain ⟨b1, b2, b3, b4⟩ := k.nm n (h.fus n hn)
    exact ⟨b1.trans a1, b2.trans a2, b3.trans a3, b4.trans a4⟩
  · obtain ⟨h1, h2⟩ := h.fR b hb
    obtain ⟨k1, k2⟩ := k.fR b h1
    exact ⟨k1, k2.trans h2⟩
  · obtain ⟨q2, e2, l2, f2⟩ := k.ver n q3 (h.fus n hn) hq
    obtain ⟨q1, e1, l1, f1⟩ := h.ver n q2 hn e2
    refine ⟨q1, e1, Nat.le_trans l1 l2, fun e b hb => ?_⟩
    have e12 : q1.ver = q2.ver := by omega
    have e23 : q2.ver = q3.ver := by omega
    obtain ⟨g1, g2⟩ := f1 e12 b hb
    rcases g1 with g1 | g1
    · obtain ⟨k1, k2⟩ := k.fR b g1
      exact ⟨.inl k1, k2.trans g2⟩
    · obtain ⟨k1, k2⟩ := f2 e23 b g1
      exact ⟨k1, k2.trans g2⟩
theorem Move.refl (w : World) (R : Nat → Prop) (m : Mem) (us : Nat → Bool) (E : Env) : Move w R m us E w R m us E :=
  ⟨fun _ h => h, fun _ _ => ⟨rfl, rfl, rfl, rfl⟩, fun b hb => ⟨hb, rfl⟩, fun n q' _ hq => ⟨q', hq, Nat.le_refl _, fun _ b hb => ⟨.inr hb, rfl⟩⟩⟩

theorem Rp.anyR {w : World} {R R' : Nat → Prop} : ∀ {t : CT} {x : Den t} {cs : List Value} {F : List Nat}, Rp w R true t x cs F → Rp w R' true t x cs F
  | .int _, _, _, _, h => h
  | .bool, _, _, _, h => h
  | .str, _, _, _, h => h
  | .sl e t, x, cs, F, ⟨v, ds, Fi, e1, h1, e2, h2⟩ => by
    have go : ∀ (l : List (Den t)) (ds : List Value) (G : List Nat), All (Rp w R true t) l ds G → All (Rp w R' true t) l ds G := by
      intro l
      induction l with
      | nil => intro ds G h; exact h
      | cons y r ih =>
        rintro ds G ⟨c1, c2, F1, F2, e1, e2, h1, h2⟩
        exact ⟨c1, c2, F1, F2, e1, e2, h1.anyR, ih _ _ h2⟩
    exact ⟨v, ds, Fi, e1, h1, e2, go _ _ _ h2⟩
  | .nil, _, _, _, h => h
  | .cons a b, x, cs, F, ⟨c1, c2, F1, F2, e1, e2, h1, h2⟩ => ⟨c1, c2, F1, F2, e1, e2, h1.anyR, h2.anyR⟩
theorem RepC.anyR {R' : Nat → Prop} {f : Fm} {x : DenF f} {v : Value} {F : List Nat} (hi : f.hasImm = false) (h : RepC w R f x v F) : RepC w R' f x v F := by
  cases f with
  | int | bool | str | mp => exact h
  | sl e t => simp [Fm.hasImm] at hi
  | ptr t => simp [Fm.hasImm] at hi
  | own e t d =>
    obtain ⟨ds, Fi, h1, h2, h3⟩ := h
    simp only [Fm.hasImm, Bool.and_eq_false_iff, Bool.not_eq_false'] at hi
    rcases hi with hd | ht
    · subst hd
      exact ⟨ds, Fi, h1, h2, h3.imp fun x c G _ _ hp => hp.anyR⟩
    · have hf := (All.flatT (d' := d) ht h3).1
      subst hf
      exact ⟨ds, [], h1, h2, h3.flatAny ht⟩
  | pin k e t d =>
    obtain ⟨ds, Fi, h1, h2, h3⟩ := h
    simp only [Fm.hasImm, Bool.and_eq_false_iff, Bool.not_eq_false'] at hi
    rcases hi with hd | ht
    · subst hd
      exact ⟨ds, Fi, h1, h2, h3.imp fun x c G _ _ hp => hp.anyR⟩
    · have hf := (All.flatT (d' := d) ht h3).1
      subst hf
      exact ⟨ds, [], h1, h2, h3.flatAny ht⟩
  | _ => exact h.elim
theorem RepCs.anyR {R' : Nat → Prop} {f : Fm} : ∀ {x : DenF f} {v : List Value} {F : List Nat}, f.hasImm = false → RepCs w R f x v F → RepCs w R' f x v F := by
  induction f with
  | nil => intro x v F _ h; exact h
  | cons a b _ ih =>
    rintro x v F hi ⟨v, r, F1, F2, e1, e2, h1, h2⟩
    simp only [Fm.hasImm, Bool.or_eq_false_iff] at hi
    exact ⟨v, r, F1, F2, e1, e2, h1.anyR hi.1, ih hi.2 h2⟩
  | _ => intro x v F _ h; exact h.elim
theorem RepBox.anyR {R' : Nat → Prop} {f : Fm} {x : DenF f} {v : Value} {F : List Nat} (hi : f.hasImm = false) (h : RepBox w R f x v F) : RepBox w R' f x v F := by
  obtain ⟨b, arr, Ty, F', e1, e2, e3, h⟩ := h; exact ⟨b, arr, Ty, F', e1, e2, e3, h.anyR hi⟩
theorem RepV0.anyR {R' : Nat → Prop} {f : Fm} {x : DenF f} {v : Value} {F : List Nat} (hi : f.hasImm = false) (h : RepV0 w R f x v F) : RepV0 w R' f x v F := by
  cases f with
  | agg f => obtain ⟨vs, e, h⟩ := h; exact ⟨vs, e, h.anyR hi⟩
  | box f => exact RepBox.anyR hi h
  | bx f => exact RepBox.anyR hi h
  | _ => simp only [RepV0] at h ⊢; exact RepC.anyR hi h
theorem RepVs0.anyR {R' : Nat → Prop} {f : Fm} : ∀ {x : DenF f} {v : List Value} {F : List Nat}, f.hasImm = false → RepVs0 w R f x v F → RepVs0 w R' f x v F := by
  induction f with
  | nil => intro x v F _ h; exact h
  | cons a b _ ih =>
    rintro x v F hi ⟨v, r, F1, F2, e1, e2, h1, h2⟩
    simp only [Fm.hasImm, Bool.or_eq_false_iff] at hi
    exact ⟨v, r, F1, F2, e1, e2, h1.anyR hi.1, ih hi.2 h2⟩
  | _ => intro x v F _ h; exact h.elim
theorem RepV.anyR {R' : Nat → Prop} {f : Fm} : ∀ {x : DenF f} {v : Value} {F : List Nat}, f.hasImm = false → RepV w R f x v F → RepV w R' f x v F := by
  induction f with
  | clo f c _ => rintro x v F hi ⟨vs, e, h⟩; exact ⟨vs, e, h.anyR hi⟩
  | ifc X f _ => rintro x v F hi ⟨vs, e, h⟩; exact ⟨vs, e, h.anyR hi⟩
  | alt a b iha ihb =>
    intro x v F hi h
    simp only [Fm.hasImm, Bool.or_eq_false_iff] at hi
    cases x with
    | inl y => exact iha hi.1 h
    | inr y => exact ihb hi.2 h
  | _ => intro x v F hi h; simp only [RepV] at h ⊢; exact RepV0.anyR hi h
theorem RepVs.anyR {R' : Nat → Prop} {f : Fm} : ∀ {x : DenF f} {v : List Value} {F : List Nat}, f.hasImm = false → RepVs w R f x v F → RepVs w R' f x v F := by
  induction f with
  | nil => intro x v F _ h; exact h
  | cons a b _ ih =>
    rintro x v F hi ⟨v, r, F1, F2, e1, e2, h1, h2⟩
    simp only [Fm.hasImm, Bool.or_eq_false_iff] at hi
    exact ⟨v, r, F1, F2, e1, e2, h1.anyR hi.1, ih hi.2 h2⟩
  | _ => intro x v F _ h; exact h.elim
theorem RepR.anyR {R' : Nat → Prop} {f : Fm} {x : DenF f} {v : Value} {F : List Nat} (hi : f.hasImm = false) (h : RepR w R f x v F) : RepR w R' f x v F := by
  cases f with
  | tup f => obtain ⟨vs, e, h⟩ := h; exact ⟨vs, e, h.anyR hi⟩
  | _ => simp only [RepR] at h ⊢; exact RepV.anyR hi h
theorem RepBC.anyR {R' : Nat → Prop} {f : Fm} {x : DenB f} {v : Value} {F : List Nat} (hi : f.immB = false) (h : RepBC w R f x v F) : RepBC w R' f x v F := by
  cases f with
  | pin k e t d =>
    obtain ⟨ds, Fi, h1, h2, h3⟩ := h
    simp only [Fm.immB, Bool.and_eq_false_iff, Bool.not_eq_false'] at hi
    rcases hi with hd | ht
    · subst hd
      exact ⟨ds, Fi, h1, h2, h3.imp fun x c G _ _ hp => hp.anyR⟩
    · have hf := (All.flatT (d' := d) ht h3).1
      subst hf
      exact ⟨ds, [], h1, h2, h3.flatAny ht⟩
  | _ => exact h
theorem RepBCs.anyR {R' : Nat → Prop} {f : Fm} : ∀ {x : DenB f} {v : List Value} {F : List Nat}, f.immB = false → RepBCs w R f x v F → RepBCs w R' f x v F := by
  induction f with
  | nil => intro x v F _ h; exact h
  | cons a b _ ih =>
    rintro x v F hi ⟨v, r, F1, F2, e1, e2, h1, h2⟩
    simp only [Fm.immB, Bool.or_eq_false_iff] at hi
    exact ⟨v, r, F1, F2, e1, e2, h1.anyR hi.1, ih hi.2 h2⟩
  | _ => intro x v F _ h; exact h.elim
theorem RepBV.anyR {R' : Nat → Prop} {f : Fm} {x : DenB f} {v : Value} {F : List Nat} (hi : f.immB = false) (h : RepBV w R f x v F) : RepBV w R' f x v F := by
  cases f with
  | agg f =>
    simp only [Fm.immB] at hi
    simp only [RepBV] at h ⊢
    by_cases hp : f.hasPin = true
    · rw [if_pos hp] at h ⊢
      obtain ⟨vs, e, h⟩ := h; exact ⟨vs, e, h.anyR hi⟩
    · rw [if_neg hp] at h ⊢
      exact h
  | bx f => exact RepBox.anyR hi h
  | _ => simp only [RepBV] at h ⊢; exact RepBC.anyR hi h
theorem RepBVs.anyR {R' : Nat → Prop} {f : Fm} : ∀ {x : DenB f} {v : List Value} {F : List Nat}, f.immB = false → RepBVs w R f x v F → RepBVs w R' f x v F := by
  induction f with
  | nil => intro x v F _ h; exact h
  | cons a b _ ih =>
    rintro x v F hi ⟨v, r, F1, F2, e1, e2, h1, h2⟩
    simp only [Fm.immB, Bool.or_eq_false_iff] at hi
    exact ⟨v, r, F1, F2, e1, e2, h1.anyR hi.1, ih hi.2 h2⟩
  | _ => intro x v F _ h; exact h.elim

/-! results become names -/
theorem freshOk_app : ∀ (l k : List W) (s : St), freshOk s.us (l ++ k) = (freshOk s.us l && freshOk (s.write l).us k)
  | [], _, _ => rfl
  | x :: r, k, s => by
    obtain ⟨n, e, nw⟩ := x
    cases nw with
    | false =>
      have ih := freshOk_app r k ({ s with st := upd s.st n e } : St)
      have : s.write (⟨n, e, false⟩ :: r) = ({ s with st := upd s.st n e } : St).write r := by simp [St.write, upd_self]
      rw [this]
      simpa [freshOk] using ih
    | true =>
      have ih := freshOk_app r k ({ s with st := upd s.st n e, us := upd s.us n true } : St)
      have : s.write (⟨n, e, true⟩ :: r) = ({ s with st := upd s.st n e, us := upd s.us n true } : St).write r := by simp [St.write]
      rw [this]
      cases hu : s.us n with
      | true => simp [freshOk, hu]
      | false => simpa [freshOk, hu] using ih

structure Own (C : Ctx) (w : World) (R : Nat → Prop) (E : Env) (F : List Nat) : Prop where
  nd : F.Nodup
  out : ∀ b, b ∈ F → ¬ R b ∧ (C.w0.heap.size ≤ b ∨ b ∈ C.F0) ∧ b < w.heap.size ∧ ∀ k, b ∉ E.F k
theorem Own.l {F1 F2 : List Nat} (h : Own C w R E (F1 ++ F2)) : Own C w R E F1 := ⟨(List.nodup_append.1 h.nd).1, fun b hb => h.out b (by simp [hb])⟩
theorem Own.r {F1 F2 : List Nat} (h : Own C w R E (F1 ++ F2)) {E' : Env} (he : ∀ k b, b ∈ E'.F k → b ∈ E.F k ∨ b ∈ F1) : Own C w R E' F2 :=
  ⟨(List.nodup_append.1 h.nd).2.1, fun b hb => by
    obtain ⟨h1, h2, h3, h4⟩ := h.out b (by simp [hb])
    refine ⟨h1, h2, h3, fun k hk => ?_⟩
    rcases he k b hk with hk | hk
    · exact h4 k hk
    · exact (List.nodup_append.1 h.nd).2.2 b hk b hb rfl⟩

/-- what a result's part comes to -/
def Out (C : Ctx) (s : St) (a : Act) (w : World) (R : Nat → Prop) (E : Env) (F : List Nat) (ws : List W) (q : Mem → (Nat → Bool) → Env → Prop) : Prop :=
  ∃ E', Sim C (s.write ws) a w R E' ∧ Move w R s.st s.us E w R (s.write ws).st (s.write ws).us E' ∧ (∀ k b, b ∈ E'.F k → b ∈ E.F k ∨ b ∈ F) ∧ q (s.write ws).st (s.write ws).us E'
theorem Out.same (h : Sim C s a w R E) {q : Mem → (Nat → Bool) → Env → Prop} (hq : q s.st s.us E) : Out C s a w R E [] [] q := ⟨E, h, Move.refl .., fun k b hb => .inl hb, hq⟩

theorem outCell_ok (h : Sim C s a w R E) {f : Fm} {x : DenF f} {v : Value} {F : List Nat} (hr : RepC w R f x v F) (ho : Own C w R E F) (n : Nat) (hf : freshOk s.us (outCell f x n).2 = true) :
    Out C s a w R E F (outCell f x n).2 fun m us E' => RC w R m us E' (outCell f x n).1 v := by
  cases f with
  | int k => obtain ⟨rfl, rfl⟩ := hr; exact Out.same h rfl
  | bool => obtain ⟨rfl, rfl⟩ := hr; exact Out.same h rfl
  | str => obtain ⟨rfl, rfl⟩ := hr; exact Out.same h rfl
  | sl e t =>
    obtain ⟨hr, rfl⟩ := hr
    obtain ⟨A, c, ds, e1, e2, h2, h3⟩ := hr
    exact Out.same h ⟨trivial, ⟨A, _, c, e1⟩, fun _ => ⟨A, c, ds, by rw [e1], rfl, e2, h2, h3⟩, fun _ => trivial⟩
  | own e t d =>
    obtain ⟨ds, Fi, h1, rfl, h3⟩ := hr
    have hn : s.us n = false := fresh1 hf
    have h2 := h.add n hn (.root ⟨e, t, x, d, false, 0⟩) v (v.ownBlock.toList ++ Fi) 0 x.length t.sz (fun b hb => ⟨(ho.out b hb).1, (ho.out b hb).2.2.1, (ho.out b hb).2.1⟩) ho.nd (fun k b hb => (ho.out b hb).2.2.2 k) (fun m us E' mv hus hE hm => by
      subst hE; subst hm
      unfold SR
      rw [upd_at]
      refine ⟨by simp [Env.add, upd_at], by simp [Env.add, upd_at], ds, Fi, ?_, ?_, h3⟩
      · simp only [Env.add, upd_at]; exact h1
      · simp only [Env.add, upd_at])
    have hne : ∀ k, s.us k = true → k ≠ n := fun k hk e => by subst e; rw [hn] at hk; cases hk
    have mv : Move w R s.st s.us E w R (upd s.st n (some (.root ⟨e, t, x, d, false, 0⟩))) (upd s.us n true) (E.add n v (v.ownBlock.toList ++ Fi) 0 x.length t.sz) := by
      refine ⟨fun k hk => by rw [upd_ne _ _ (hne k hk)]; exact hk, fun k hk => ?_, fun b hb' => ⟨hb', rfl⟩, fun k q' hk hq => ?_⟩
      · have := hne k hk
        exact ⟨upd_ne _ _ this, upd_ne _ _ this, upd_ne _ _ this, upd_ne _ _ this⟩
      · have hk' := hne k hk
        rw [upd_ne _ _ hk'] at hq
        refine ⟨q', hq, Nat.le_refl _, fun _ b hb' => ⟨.inr ?_, rfl⟩⟩
        show b ∈ upd E.F n _ k
        rw [upd_ne _ _ hk']
        exact hb'
    unfold Out outCell
    simp only [write_new]
    refine ⟨_, h2, mv, fun k b hb => ?_, upd_at .., by simp [Env.add, upd_at], ?_⟩
    · by_cases hk : k = n
      · subst hk
        simp only [Env.add, upd_at] at hb
        exact .inr hb
      · simp only [Env.add] at hb
        rw [upd_ne _ _ hk] at hb
        exact .inl hb
    · rcases h1.2 with ⟨e, _⟩ | ⟨g, cap, cur, e, _⟩
      · exact ⟨_, _, _, e⟩
      · exact ⟨_, _, _, e⟩
  | pin _ e t d =>
    obtain ⟨ds, Fi, h1, rfl, h3⟩ := hr
    have hn : s.us n = false := fresh1 hf
    have h2 := h.add n hn (.root ⟨e, t, x, d, false, 0⟩) v (v.ownBlock.toList ++ Fi) 0 x.length t.sz (fun b hb => ⟨(ho.out b hb).1, (ho.out b hb).2.2.1, (ho.out b hb).2.1⟩) ho.nd (fun k b hb => (ho.out b hb).2.2.2 k) (fun m us E' mv hus hE hm => by
      subst hE; subst hm
      unfold SR
      rw [upd_at]
      refine ⟨by simp [Env.add, upd_at], by simp [Env.add, upd_at], ds, Fi, ?_, ?_, h3⟩
      · simp only [Env.add, upd_at]; exact h1
      · simp only [Env.add, upd_at])
    have hne : ∀ k, s.us k = true → k ≠ n := fun k hk e => by subst e; rw [hn] at hk; cases hk
    have mv : Move w R s.st s.us E w R (upd s.st n (some (.root ⟨e, t, x, d, false, 0⟩))) (upd s.us n true) (E.add n v (v.ownBlock.toList ++ Fi) 0 x.length t.sz) := by
      refine ⟨fun k hk => by rw [upd_ne _ _ (hne k hk)]; exact hk, fun k hk => ?_, fun b hb' => ⟨hb', rfl⟩, fun k q' hk hq => ?_⟩
      · have := hne k hk
        exact ⟨upd_ne _ _ this, upd_ne _ _ this, upd_ne _ _ this, upd_ne _ _ this⟩
      · have hk' := hne k hk
        rw [upd_ne _ _ hk'] at hq
        refine ⟨q', hq, Nat.le_refl _, fun _ b hb' => ⟨.inr ?_, rfl⟩⟩
        show b ∈ upd E.F n _ k
        rw [upd_ne _ _ hk']
        exact hb'
    unfold Out outCell
    simp only [write_new]
    refine ⟨_, h2, mv, fun k b hb => ?_, upd_at .., by simp [Env.add, upd_at], ?_⟩
    · by_cases hk : k = n
      · subst hk
        simp only [Env.add, upd_at] at hb
        exact .inr hb
      · simp only [Env.add] at hb
        rw [upd_ne _ _ hk] at hb
        exact .inl hb
    · rcases h1.2 with ⟨e, _⟩ | ⟨g, cap, cur, e, _⟩
      · exact ⟨_, _, _, e⟩
      · exact ⟨_, _, _, e⟩
  | mp =>
    obtain ⟨g, arr, rfl, hg, ha, rfl⟩ := hr
    have hn : s.us n = false := fresh1 hf
    have h2 := h.add n hn (.mp x) undef [g] g 0 0 (fun b hb => ⟨(ho.out b hb).1, (ho.out b hb).2.2.1, (ho.out b hb).2.1⟩) ho.nd (fun k b hb => (ho.out b hb).2.2.2 k) (fun m us E' mv hus hE hm => by
      subst hE; subst hm
      unfold SR
      rw [upd_at]
      refine ⟨by simp [Env.add, upd_at], arr, ?_, ha⟩
      simp only [Env.add, upd_at]
      exact hg)
    have hne : ∀ k, s.us k = true → k ≠ n := fun k hk e => by subst e; rw [hn] at hk; cases hk
    have mv : Move w R s.st s.us E w R (upd s.st n (some (.mp x))) (upd s.us n true) (E.add n undef [g] g 0 0) := by
      refine ⟨fun k hk => by rw [upd_ne _ _ (hne k hk)]; exact hk, fun k hk => ?_, fun b hb' => ⟨hb', rfl⟩, fun k q' hk hq => ?_⟩
      · have := hne k hk
        exact ⟨upd_ne _ _ this, upd_ne _ _ this, upd_ne _ _ this, upd_ne _ _ this⟩
      · have hk' := hne k hk
        rw [upd_ne _ _ hk'] at hq
        refine ⟨q', hq, Nat.le_refl _, fun _ b hb' => ⟨.inr ?_, rfl⟩⟩
        show b ∈ upd E.F n _ k
        rw [upd_ne _ _ hk']
        exact hb'
    unfold Out outCell
    simp only [write_new]
    refine ⟨_, h2, mv, fun k b hb => ?_, upd_at .., by simp [Env.add, upd_at]⟩
    by_cases hk : k = n
    · subst hk
      simp only [Env.add, upd_at] at hb
      exact .inr hb
    · simp only [Env.add] at hb
      rw [upd_ne _ _ hk] at hb
      exact .inl hb
  | ptr t =>
    obtain ⟨⟨ad, ds, h1, h2, h3, h4⟩, rfl⟩ := hr
    exact Out.same h ⟨trivial, ⟨_, h1⟩, fun _ => ⟨ad, ds, h1, h2, h3, h4⟩⟩
  | _ => exact hr.elim
theorem Out.app {F1 F2 : List Nat} {w1 w2 : List W} {q1 q2 q : Mem → (Nat → Bool) → Env → Prop} (h1 : Out C s a w R E F1 w1 q1) (h2 : ∀ E', Sim C (s.write w1) a w R E' → (∀ k b, b ∈ E'.F k → b ∈ E.F k ∨ b ∈ F1) → Out C (s.write w1) a w R E' F2 w2 q2)
    (hq : ∀ m us E1 m' us' E2, Move w R m us E1 w R m' us' E2 → q1 m us E1 → q2 m' us' E2 → q m' us' E2) : Out C s a w R E (F1 ++ F2) (w1 ++ w2) q := by
  obtain ⟨E1, s1, m1, f1, k1⟩ := h1
  obtain ⟨E2, s2, m2, f2, k2⟩ := h2 E1 s1 f1
  unfold Out
  simp only [write_app]
  refine ⟨E2, s2, m1.trans m2, fun k b hb => ?_, hq _ _ _ _ _ _ m2 k1 k2⟩
  rcases f2 k b hb with hb | hb
  · rcases f1 k b hb with hb | hb
    · exact .inl hb
    · exact .inr (by simp [hb])
  · exact .inr (by simp [hb])
theorem outCells_ok : ∀ {f : Fm} {s : St} {E : Env} (h : Sim C s a w R E) {x : DenF f} {vs : List Value} {F : List Nat} (hr : RepCs w R f x vs F) (ho : Own C w R E F) (n : Nat) (hf : freshOk s.us (outCells f x n).2 = true),
    Out C s a w R E F (outCells f x n).2 fun m us E' => L2 (RC w R m us E') (outCells f x n).1 vs := by
  intro f
  induction f with
  | nil => intro s E h x vs F hr ho n hf; obtain ⟨rfl, rfl⟩ := hr; exact Out.same h rfl
  | cons f1 f2 _ ih =>
    intro s E h x vs F hr ho n hf
    obtain ⟨v, r, F1, F2, rfl, rfl, h1, h2⟩ := hr
    simp only [outCells, freshOk_app, Bool.and_eq_true] at hf
    exact Out.app (outCell_ok h h1 ho.l n hf.1) (fun E' hs he => ih hs h2 (ho.r he) (n + 1) hf.2) (fun m us E1 m' us' E2 mv k1 k2 => ⟨v, r, rfl, RC.move mv k1, k2⟩)
  | _ => intro s E h x vs F hr; exact hr.elim
theorem out_box (h : Sim C s a w R E) {n b : Nat} {cs : List AV} {arr : Array Value} {Ty : TypeId} (hb : w.heap[b]? = some (.cells arr Ty (0, 0))) (hc : L2 (RC w R s.st s.us E) cs arr.toList) (ho : Own C w R E [b]) (hf : freshOk s.us [⟨n, some (.box cs), true⟩] = true) :
    Out C s a w R E [b] [⟨n, some (.box cs), true⟩] fun m us E' => RV0 w R m us E' (.pbox n 0) (.pointer (some ⟨b, 0, none⟩)) := by
  have hn : s.us n = false := fresh1 hf
  have h2 := h.add n hn (.box cs) undef [b] b 0 0 (fun b hb => ⟨(ho.out b hb).1, (ho.out b hb).2.2.1, (ho.out b hb).2.1⟩) ho.nd (fun k b hb => (ho.out b hb).2.2.2 k) (fun m us E' mv hus hE hm => by
    subst hE; subst hm
    unfold SR
    rw [upd_at]
    refine ⟨by simp [Env.add, upd_at], arr, Ty, by simp only [Env.add, upd_at]; exact hb, hc.imp fun _ _ => RC.move mv⟩)
  have hne : ∀ k, s.us k = true → k ≠ n := fun k hk e => by subst e; rw [hn] at hk; cases hk
  have mv : Move w R s.st s.us E w R (upd s.st n (some (.box cs))) (upd s.us n true) (E.add n undef [b] b 0 0) := by
    refine ⟨fun k hk => by rw [upd_ne _ _ (hne k hk)]; exact hk, fun k hk => ?_, fun b hb' => ⟨hb', rfl⟩, fun k q' hk hq => ?_⟩
    · have := hne k hk
      exact ⟨upd_ne _ _ this, upd_ne _ _ this, upd_ne _ _ this, upd_ne _ _ this⟩
    · have hk' := hne k hk
      rw [upd_ne _ _ hk'] at hq
      refine ⟨q', hq, Nat.le_refl _, fun _ b hb' => ⟨.inr ?_, rfl⟩⟩
      show b ∈ upd E.F n _ k
      rw [upd_ne _ _ hk']
      exact hb'
  unfold Out
  simp only [write_new]
  refine ⟨_, h2, mv, fun k b' hb' => ?_, upd_at .., by simp [Env.add, upd_at]⟩
  by_cases hk : k = n
  · subst hk
    simp only [Env.add, upd_at] at hb'
    exact .inr hb'
  · simp only [Env.add] at hb'
    rw [upd_ne _ _ hk] at hb'
    exact .inl hb'
theorem outV0_ok {f : Fm} (h : Sim C s a w R E) {x : DenF f} {v : Value} {F : List Nat} (hr : RepV0 w R f x v F) (ho : Own C w R E F) (n : Nat) (hf : freshOk s.us (outV0 f x n).2 = true) :
    Out C s a w R E F (outV0 f x n).2 fun m us E' => RV0 w R m us E' (outV0 f x n).1 v := by
  have bx : ∀ {f : Fm} {x : DenF f}, RepBox w R f x v F → freshOk s.us ((outCells f x (n + 1)).2 ++ [⟨n, some (.box (outCells f x (n + 1)).1), true⟩]) = true →
      Out C s a w R E F ((outCells f x (n + 1)).2 ++ [⟨n, some (.box (outCells f x (n + 1)).1), true⟩]) fun m us E' => RV0 w R m us E' (.pbox n 0) v := by
    intro f x hr hf
    obtain ⟨b, arr, Ty, F', e1, e2, e3, hrr⟩ := hr
    subst e3
    subst e1
    simp only [freshOk_app, Bool.and_eq_true] at hf
    obtain ⟨E1, s1, m1, f1, k1⟩ := outCells_ok h hrr ho.l (n + 1) hf.1
    obtain ⟨E2, s2, m2, f2, k2⟩ := out_box s1 e2 k1 (ho.r f1) hf.2
    refine ⟨E2, by rw [write_app]; exact s2, by rw [write_app]; exact m1.trans m2, fun k b' hb' => ?_, by rw [write_app]; exact k2⟩
    rcases f2 k b' hb' with h | h
    · rcases f1 k b' h with h | h
      · exact .inl h
      · exact .inr (by simp [h])
    · exact .inr (List.mem_append.2 (.inr h))
  cases f with
  | agg f =>
    obtain ⟨vs, e, hr⟩ := hr
    obtain ⟨E', h1, h2, h3, h4⟩ := outCells_ok h hr ho n hf
    exact ⟨E', h1, h2, h3, vs, e, h4⟩
  | box f => exact bx hr hf
  | bx f => exact bx hr hf
  | _ =>
    simp only [RepV0] at hr
    simp only [outV0] at hf ⊢
    obtain ⟨E', h1, h2, h3, h4⟩ := outCell_ok h hr ho n hf
    exact ⟨E', h1, h2, h3, h4.rv0⟩
theorem outVs0_ok : ∀ {f : Fm} {s : St} {E : Env} (h : Sim C s a w R E) {x : DenF f} {vs : List Value} {F : List Nat} (hr : RepVs0 w R f x vs F) (ho : Own C w R E F) (n : Nat) (hf : freshOk s.us (outVs0 f x n).2 = true),
    Out C s a w R E F (outVs0 f x n).2 fun m us E' => L2 (RV0 w R m us E') (outVs0 f x n).1 vs := by
  intro f
  induction f with
  | nil => intro s E h x vs F hr ho n hf; obtain ⟨rfl, rfl⟩ := hr; exact Out.same h rfl
  | cons f1 f2 _ ih =>
    intro s E h x vs F hr ho n hf
    obtain ⟨v, r, F1, F2, rfl, rfl, h1, h2⟩ := hr
    simp only [outVs0, freshOk_app, Bool.and_eq_true] at hf
    exact Out.app (outV0_ok h h1 ho.l n hf.1) (fun E' hs he => ih hs h2 (ho.r he) (n + 16) hf.2) (fun m us E1 m' us' E2 mv k1 k2 => ⟨v, r, rfl, RV0.move mv k1, k2⟩)
  | _ => intro s E h x vs F hr; exact hr.elim
theorem outV_ok {f : Fm} (h : Sim C s a w R E) : ∀ {x : DenF f} {v : Value} {F : List Nat} (hr : RepV w R f x v F) (ho : Own C w R E F) (n : Nat) (hf : freshOk s.us (outV f x n).2 = true),
    Out C s a w R E F (outV f x n).2 fun m us E' => RV1 w R m us E' (outV f x n).1 v := by
  induction f with
  | clo f c _ =>
    rintro x v F ⟨vs, e, hr⟩ ho n hf
    obtain ⟨E', h1, h2, h3, h4⟩ := outVs0_ok h hr ho n hf
    exact ⟨E', h1, h2, h3, vs, e, h4⟩
  | ifc X f _ =>
    rintro x v F ⟨vs, e, hr⟩ ho n hf
    obtain ⟨E', h1, h2, h3, h4⟩ := outCells_ok h hr ho n hf
    exact ⟨E', h1, h2, h3, vs, e, h4⟩
  | alt a b iha ihb =>
    intro x v F hr ho n hf
    cases x with
    | inl y => exact iha hr ho n hf
    | inr y => exact ihb hr ho n hf
  | _ =>
    intro x v F hr ho n hf
    simp only [RepV] at hr
    simp only [outV] at hf ⊢
    obtain ⟨E', h1, h2, h3, h4⟩ := outV0_ok h hr ho n hf
    exact ⟨E', h1, h2, h3, h4.rv1⟩
theorem outVs_ok : ∀ {f : Fm} {s : St} {E : Env} (h : Sim C s a w R E) {x : DenF f} {vs : List Value} {F : List Nat} (hr : RepVs w R f x vs F) (ho : Own C w R E F) (n : Nat) (hf : freshOk s.us (outVs f x n).2 = true),
    Out C s a w R E F (outVs f x n).2 fun m us E' => L2 (RV1 w R m us E') (outVs f x n).1 vs := by
  intro f
  induction f with
  | nil => intro s E h x vs F hr ho n hf; obtain ⟨rfl, rfl⟩ := hr; exact Out.same h rfl
  | cons f1 f2 _ ih =>
    intro s E h x vs F hr ho n hf
    obtain ⟨v, r, F1, F2, rfl, rfl, h1, h2⟩ := hr
    simp only [outVs, freshOk_app, Bool.and_eq_true] at hf
    exact Out.app (outV_ok h h1 ho.l n hf.1) (fun E' hs he => ih hs h2 (ho.r he) (n + 16) hf.2) (fun m us E1 m' us' E2 mv k1 k2 => ⟨v, r, rfl, RV1.move mv k1, k2⟩)
  | _ => intro s E h x vs F hr; exact hr.elim
theorem RV1.rv {w : World} {R : Nat → Prop} {m : Mem} {us : Nat → Bool} {E : Env} {y : AV} {v : Value} (h : RV1 w R m us E y v) : RV w R m us E y v := by
  cases y with
  | tup l => exact h.elim
  | _ => exact h
theorem outR_ok {f : Fm} (h : Sim C s a w R E) {x : DenF f} {v : Value} {F : List Nat} (hr : RepR w R f x v F) (ho : Own C w R E F) (n : Nat) (hf : freshOk s.us (outR f x n).2 = true) :
    Out C s a w R E F (outR f x n).2 fun m us E' => RV w R m us E' (outR f x n).1 v := by
  cases f with
  | tup f =>
    obtain ⟨vs, e, hr⟩ := hr
    obtain ⟨E', h1, h2, h3, h4⟩ := outVs_ok h hr ho n hf
    exact ⟨E', h1, h2, h3, vs, e, h4⟩
  | _ =>
    simp only [RepR] at hr
    simp only [outR] at hf ⊢
    obtain ⟨E', h1, h2, h3, h4⟩ := outV_ok h hr ho n hf
    exact ⟨E', h1, h2, h3, h4.rv⟩
/-- a name that was given up is told of anew -/
theorem Sim.readd (h : Sim C s a w R E) {n : Nat} (hu : s.us n = true) (hn : s.st n = none) {cs : List AV} {arr : Array Value} {Ty : TypeId} (hg : w.heap[E.B n]? = some (.cells arr Ty (0, 0))) (hrc : L2 (RC w R s.st s.us E) cs arr.toList) (ho : Own C w R E [E.B n]) :
    Sim C { s with st := upd s.st n (some (.box cs)) } a w R { E with F := upd E.F n [E.B n] } ∧ Move w R s.st s.us E w R (upd s.st n (some (.box cs))) s.us { E with F := upd E.F n [E.B n] } := by
  have hF := h.noneF hn
  have mv : Move w R s.st s.us E w R (upd s.st n (some (.box cs))) s.us { E with F := upd E.F n [E.B n] } := by
    refine ⟨fun _ h => h, fun _ _ => ⟨rfl, rfl, rfl, rfl⟩, fun b hb => ⟨hb, rfl⟩, fun k q' hk hq => ?_⟩
    by_cases hkn : k = n
    · subst hkn
      rw [upd_at] at hq
      cases hq
    · rw [upd_ne _ _ hkn] at hq
      exact ⟨q', hq, Nat.le_refl _, fun _ b hb => ⟨.inr (by show b ∈ upd E.F n _ k; rw [upd_ne _ _ hkn]; exact hb), rfl⟩⟩
  have ob := ho.out (E.B n) (by simp)
  have cF : ∀ k b, b ∈ upd E.F n [E.B n] k → (k = n ∧ b = E.B n) ∨ (k ≠ n ∧ b ∈ E.F k) := fun k b hb => by
    by_cases hkn : k = n
    · subst hkn
      rw [upd_at] at hb
      exact .inl ⟨rfl, by simpa using hb⟩
    · rw [upd_ne _ _ hkn] at hb
      exact .inr ⟨hkn, hb⟩
  refine ⟨⟨fun t => RV.move mv (h.tm t), h.nt, h.df, fun k => ?_, fun k hk => ?_, h.sub, h.lt, fun k b hb => ?_, fun k => ?_, fun k j b hkj hb1 hb2 => ?_, h.keep, h.nw⟩, mv⟩
  · by_cases hkn : k = n
    · subst hkn
      unfold SR
      dsimp only
      rw [upd_at]
      exact ⟨by simp [upd_at], arr, Ty, hg, hrc.imp fun _ _ => RC.move mv⟩
    · cases hus : s.us k with
      | false => exact SR.congr (by simp only; rw [upd_ne _ _ hkn]; exact h.un k hus) (by simp only; rw [upd_ne _ _ hkn]; exact h.unF hus)
      | true => exact SR.move mv hus (upd_ne _ _ hkn) (upd_ne _ _ hkn) (fun _ _ => rfl) (h.st k)
  · by_cases hkn : k = n
    · subst hkn
      simp only at hk
      rw [hu] at hk
      cases hk
    · simp only
      rw [upd_ne _ _ hkn]
      exact h.un k hk
  · rcases cF k b hb with ⟨_, rfl⟩ | ⟨_, hb⟩
    · exact ⟨ob.1, ob.2.2.1, ob.2.1⟩
    · exact h.own k b hb
  · simp only
    by_cases hkn : k = n
    · subst hkn; rw [upd_at]; simp
    · rw [upd_ne _ _ hkn]; exact h.nd k
  · rcases cF k b hb1 with ⟨h1, rfl⟩ | ⟨h1, hb1⟩
    · rcases cF j _ hb2 with ⟨h2, _⟩ | ⟨h2, hb2⟩
      · exact hkj (h1.trans h2.symm)
      · exact ob.2.2.2 j hb2
    · rcases cF j b hb2 with ⟨h2, rfl⟩ | ⟨h2, hb2⟩
      · exact ob.2.2.2 k hb1
      · exact h.dj k j b hkj hb1 hb2
theorem write_us_mono : ∀ (ws : List W) (s : St) (k : Nat), s.us k = true → (s.write ws).us k = true
  | [], _, _, h => h
  | x :: r, s, k, h => by
    refine write_us_mono r _ k ?_
    show upd s.us x.n (s.us x.n || x.new) k = true
    by_cases hk : k = x.n
    · subst hk; rw [upd_at, h]; rfl
    · rw [upd_ne _ _ hk]; exact h
theorem outCells_new : ∀ {f : Fm} {x : DenF f} {n : Nat} (y : W), y ∈ (outCells f x n).2 → y.new = true := by
  intro f
  induction f with
  | cons a b _ ih =>
    intro x n y hy
    simp only [outCells, List.mem_append] at hy
    rcases hy with hy | hy
    · cases a <;> simp [outCell] at hy <;> rw [hy]
    · exact ih y hy
  | _ => intro x n y hy; simp [outCells] at hy
theorem write_new_ne : ∀ (ws : List W) (s : St) (k : Nat), (∀ y, y ∈ ws → y.new = true) → freshOk s.us ws = true → s.us k = true → (s.write ws).st k = s.st k
  | [], _, _, _, _, _ => rfl
  | x :: r, s, k, hn, hf, hk => by
    have hx := hn x (by simp)
    have hne : k ≠ x.n := by
      intro e
      subst e
      simp [freshOk, hx, hk] at hf
    have hf2 : freshOk (upd s.us x.n (s.us x.n || x.new)) r = true := by
      simp only [freshOk, hx, cond_true] at hf
      cases hu : s.us x.n with
      | true => rw [hu] at hf; simp at hf
      | false => rw [hu] at hf; simpa [hx] using hf
    have := write_new_ne r { s with st := upd s.st x.n x.e, us := upd s.us x.n (s.us x.n || x.new) } k (fun y hy => hn y (by simp [hy])) hf2 (by
      show upd s.us x.n _ k = true
      rw [upd_ne _ _ hne]
      exact hk)
    exact this.trans (upd_ne _ _ hne)
/-- boxes come back -/
theorem boxes_ok : ∀ {bs : List BB} {s : St} {E : Env} {G : List Nat} (h : Sim C s a w R E) (hb : BoxOK w R s.us E.B bs G) (ho : Own C w R E G) (hn : ∀ x, x ∈ bs → s.st x.b = none) (hnd : (bs.map (·.b)).Nodup) (hf : freshOk s.us (bs.flatMap BB.ws) = true),
    Out C s a w R E G (bs.flatMap BB.ws) fun _ _ _ => True
  | [], s, E, G, h, hb, ho, hn, hnd, hf => by
    rw [show G = [] from hb]
    exact Out.same h trivial
  | x :: r, s, E, G, h, ⟨G1, G2, e, hu, ⟨arr, Ty, F', hg, e1, hr⟩, hb⟩, ho, hn, hnd, hf => by
    subst e
    simp only [List.flatMap_cons, freshOk_app, Bool.and_eq_true, BB.ws] at hf
    simp only [List.map_cons, List.nodup_cons] at hnd
    subst e1
    obtain ⟨E1, s1, m1, f1, k1⟩ := outCells_ok h hr ho.l.l x.n hf.1.1
    have hus1 := write_us_mono (outCells x.f x.y x.n).2 s x.b hu
    have hst1 : (s.write (outCells x.f x.y x.n).2).st x.b = none := by
      rw [write_new_ne _ _ _ (fun y hy => outCells_new y hy) hf.1.1 hu]
      exact hn x (by simp)
    have hB : E1.B x.b = E.B x.b := (m1.nm x.b hu).2.1
    obtain ⟨s2, m2⟩ := s1.readd hus1 hst1 (by rw [hB]; exact hg) k1 (by rw [hB]; exact ho.l.r f1)
    have f2 : ∀ k b, b ∈ upd E1.F x.b [E1.B x.b] k → b ∈ E.F k ∨ b ∈ F' ++ [E.B x.b] := fun k b hb => by
      by_cases hk : k = x.b
      · subst hk
        rw [upd_at, hB] at hb
        exact .inr (List.mem_append.2 (.inr hb))
      · rw [upd_ne _ _ hk] at hb
        rcases f1 k b hb with h | h
        · exact .inl h
        · exact .inr (by simp [h])
    have hw : s.write x.ws = { (s.write (outCells x.f x.y x.n).2) with st := upd (s.write (outCells x.f x.y x.n).2).st x.b (some (.box (outCells x.f x.y x.n).1)) } := by
      rw [BB.ws, write_app]
      simp [St.write, upd_self]
    have hbr : BoxOK w R (s.write x.ws).us (upd E1.B x.b (E1.B x.b)) r G2 := by
      rw [hw]
      have : ∀ {bs : List BB} {G : List Nat}, BoxOK w R s.us E.B bs G → BoxOK w R (s.write (outCells x.f x.y x.n).2).us (upd E1.B x.b (E1.B x.b)) bs G := by
        intro bs
        induction bs with
        | nil => intro G h; exact h
        | cons z r ih =>
          rintro G ⟨G1, G2, e, hu', ⟨arr', Ty', F2, hg', e1', hr'⟩, hb'⟩
          have hBz : upd E1.B x.b (E1.B x.b) z.b = E.B z.b := by
            by_cases hz : z.b = x.b
            · rw [hz, upd_at]; exact hB
            · rw [upd_ne _ _ hz]; exact (m1.nm z.b hu').2.1
          exact ⟨G1, G2, e, write_us_mono _ _ _ hu', ⟨arr', Ty', F2, by rw [hBz]; exact hg', by rw [hBz]; exact e1', hr'⟩, ih hb'⟩
      exact this hb
    have s2' : Sim C (s.write x.ws) a w R { E1 with F := upd E1.F x.b [E1.B x.b], B := upd E1.B x.b (E1.B x.b) } := by
      rw [hw, upd_self]
      exact s2
    have m2' : Move w R s.st s.us E w R (s.write x.ws).st (s.write x.ws).us { E1 with F := upd E1.F x.b [E1.B x.b], B := upd E1.B x.b (E1.B x.b) } := by
      rw [hw, upd_self]
      exact m1.trans m2
    obtain ⟨E3, s3, m3, f3, _⟩ := boxes_ok s2' hbr (ho.r f2) (fun z hz => by
      rw [hw]
      have hzx : z.b ≠ x.b := fun e => hnd.1 (by rw [← e]; exact List.mem_map_of_mem hz)
      simp only
      rw [upd_ne _ _ hzx]
      have huz : s.us z.b = true := by
        have : ∀ {bs : List BB} {G : List Nat}, BoxOK w R s.us E.B bs G → ∀ z, z ∈ bs → s.us z.b = true := by
          intro bs
          induction bs with
          | nil => intro G h z hz; simp at hz
          | cons y r ih =>
            rintro G ⟨G1, G2, e, hu', _, hb'⟩ z hz
            rcases List.mem_cons.1 hz with rfl | hz
            · exact hu'
            · exact ih hb' z hz
        exact this hb z hz
      rw [write_new_ne _ _ _ (fun y hy => outCells_new y hy) hf.1.1 huz]
      exact hn z (by simp [hz])) hnd.2 (by
        have := hf.2
        rw [← BB.ws] at this
        exact this)
    refine ⟨E3, by rw [List.flatMap_cons, write_app]; exact s3, by rw [List.flatMap_cons, write_app]; exact m2'.trans m3, fun k b hb => ?_, trivial⟩
    rcases f3 k b hb with h | h
    · rcases f2 k b h with h | h
      · exact .inl h
      · exact .inr (List.mem_append.2 (.inl h))
    · exact .inr (List.mem_append.2 (.inr h))
end Go.Ev
