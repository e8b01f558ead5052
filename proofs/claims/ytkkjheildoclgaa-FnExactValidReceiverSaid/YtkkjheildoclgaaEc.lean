/- A text of the claim: an evaluator of Go functions, and why it answers as they do. -/
import Derived.Test.YtkkjheildoclgaaEb
set_option linter.all false
set_option linter.unusedVariables false
set_option linter.unusedSimpArgs false
set_option autoImplicit false
set_option linter.unusedVariables false
namespace Go.Ev

/-! ### what is given to a call, and what comes back -/
def RepC (w : World) (R : Nat → Prop) : (f : Fm) → DenF f → Value → List Nat → Prop
  | .int k, x, v, F => v = .int k x ∧ F = []
  | .bool, x, v, F => v = .bool x ∧ F = []
  | .str, x, v, F => v = .string x ∧ F = []
  | .sl e t, x, v, F => RowAt w R t x v ∧ F = []
  | .own e t d, x, v, F => ∃ ds Fi, w.ownsRow 0 e t.sz v x.length ds ∧ F = v.ownBlock.toList ++ Fi ∧ All (Rp w R d t) x ds Fi
  | .pin _ e t d, x, v, F => ∃ ds Fi, w.ownsRow 0 e t.sz v x.length ds ∧ F = v.ownBlock.toList ++ Fi ∧ All (Rp w R d t) x ds Fi
  | .mp, x, v, F => ∃ g arr, v = .map (some g) ∧ w.heap[g]? = some (.map arr x.length) ∧ arr.toList = mpEnt 0 x ∧ F = [g]
  | .ptr t, x, v, F => (∃ ad ds, v = .pointer (some (Addr.add ad 0)) ∧ Rp w R false t x ds [] ∧ Cells w ad ds ∧ (ds ≠ [] → R ad.block)) ∧ F = []
  | _, _, _, _ => False
def RepCs (w : World) (R : Nat → Prop) : (f : Fm) → DenF f → List Value → List Nat → Prop
  | .nil, _, vs, F => vs = [] ∧ F = []
  | .cons a b, x, vs, F => ∃ v r F1 F2, vs = v :: r ∧ F = F1 ++ F2 ∧ RepC w R a x.1 v F1 ∧ RepCs w R b x.2 r F2
  | _, _, _, _ => False
def RepBox (w : World) (R : Nat → Prop) (f : Fm) (x : DenF f) (v : Value) (F : List Nat) : Prop :=
  ∃ b arr Ty F', v = .pointer (some ⟨b, 0, none⟩) ∧ w.heap[b]? = some (.cells arr Ty (0, 0)) ∧ F = F' ++ [b] ∧ RepCs w R f x arr.toList F'
def RepV0 (w : World) (R : Nat → Prop) : (f : Fm) → DenF f → Value → List Nat → Prop
  | .agg f, x, v, F => ∃ vs : List Value, v = .agg vs.toArray ∧ RepCs w R f x vs F
  | .box f, x, v, F => RepBox w R f x v F
  | .bx f, x, v, F => RepBox w R f x v F
  | f, x, v, F => RepC w R f x v F
def RepVs0 (w : World) (R : Nat → Prop) : (f : Fm) → DenF f → List Value → List Nat → Prop
  | .nil, _, vs, F => vs = [] ∧ F = []
  | .cons a b, x, vs, F => ∃ v r F1 F2, vs = v :: r ∧ F = F1 ++ F2 ∧ RepV0 w R a x.1 v F1 ∧ RepVs0 w R b x.2 r F2
  | _, _, _, _ => False
def RepV (w : World) (R : Nat → Prop) : (f : Fm) → DenF f → Value → List Nat → Prop
  | .clo f c, x, v, F => ∃ vs : List Value, v = .func (.func f) #[] vs.toArray ∧ RepVs0 w R c x vs F
  | .ifc X f, x, v, F => ∃ vs : List Value, v = .iface X (.agg vs.toArray) ∧ RepCs w R f x vs F
  | .alt a b, x, v, F => match x with
    | .inl y => RepV w R a y v F
    | .inr y => RepV w R b y v F
  | f, x, v, F => RepV0 w R f x v F
def RepVs (w : World) (R : Nat → Prop) : (f : Fm) → DenF f → List Value → List Nat → Prop
  | .nil, _, vs, F => vs = [] ∧ F = []
  | .cons a b, x, vs, F => ∃ v r F1 F2, vs = v :: r ∧ F = F1 ++ F2 ∧ RepV w R a x.1 v F1 ∧ RepVs w R b x.2 r F2
  | _, _, _, _ => False
def RepR (w : World) (R : Nat → Prop) : (f : Fm) → DenF f → Value → List Nat → Prop
  | .tup f, x, v, F => ∃ vs : List Value, v = .tuple vs.toArray ∧ RepVs w R f x vs F
  | f, x, v, F => RepV w R f x v F
/-- what comes back -/
def RepBC (w : World) (R : Nat → Prop) : (f : Fm) → DenB f → Value → List Nat → Prop
  | .pin _ e t d, x, v, F => ∃ ds Fi, w.ownsRow 0 e t.sz v x.length ds ∧ F = v.ownBlock.toList ++ Fi ∧ All (Rp w R d t) x ds Fi
  | _, _, _, F => F = []
def RepBCs (w : World) (R : Nat → Prop) : (f : Fm) → DenB f → List Value → List Nat → Prop
  | .nil, _, vs, F => vs = [] ∧ F = []
  | .cons a b, x, vs, F => ∃ v r F1 F2, vs = v :: r ∧ F = F1 ++ F2 ∧ RepBC w R a x.1 v F1 ∧ RepBCs w R b x.2 r F2
  | _, _, _, _ => False
def RepBV (w : World) (R : Nat → Prop) : (f : Fm) → DenB f → Value → List Nat → Prop
  | .agg f, x, v, F => if f.hasPin = true then ∃ vs : List Value, v = .agg vs.toArray ∧ RepBCs w R f x vs F else F = []
  | .bx f, x, v, F => RepBox w R f x v F
  | f, x, v, F => RepBC w R f x v F
def RepBVs (w : World) (R : Nat → Prop) : (f : Fm) → DenB f → List Value → List Nat → Prop
  | .nil, _, vs, F => vs = [] ∧ F = []
  | .cons a b, x, vs, F => ∃ v r F1 F2, vs = v :: r ∧ F = F1 ++ F2 ∧ RepBV w R a x.1 v F1 ∧ RepBVs w R b x.2 r F2
  | _, _, _, _ => False

variable {P : Program} {T : Tab} {C : Ctx} {s : St} {a : Act} {w : World} {R : Nat → Prop} {E : Env}

theorem RowAt.mono {R' : Nat → Prop} {t : CT} {xs : List (Den t)} {v : Value} (h : RowAt w R t xs v) (hR : ∀ b, R b → R' b) : RowAt w R' t xs v := by
  obtain ⟨A, c, ds, e, h1, h2, h3⟩ := h
  refine ⟨A, c, ds, e, h1, h2.own _ hR (by simp), fun hd => ?_⟩
  obtain ⟨ad, ea, hb, hc⟩ := h3 hd
  exact ⟨ad, ea, hR _ hb, hc⟩
theorem RepC.mono {R' : Nat → Prop} (hR : ∀ b, R b → R' b) {f : Fm} {x : DenF f} {v : Value} {F : List Nat} (h : RepC w R f x v F) : RepC w R' f x v F := by
  cases f with
  | int | bool | str | mp => exact h
  | sl e t => exact ⟨h.1.mono hR, h.2⟩
  | own e t d => obtain ⟨ds, Fi, h1, h2, h3⟩ := h; exact ⟨ds, Fi, h1, h2, h3.imp fun x c G _ _ hp => hp.keep (w' := w) (fun b hb => ⟨hR b hb, rfl⟩) (fun _ _ => rfl)⟩
  | pin k e t d => obtain ⟨ds, Fi, h1, h2, h3⟩ := h; exact ⟨ds, Fi, h1, h2, h3.imp fun x c G _ _ hp => hp.keep (w' := w) (fun b hb => ⟨hR b hb, rfl⟩) (fun _ _ => rfl)⟩
  | ptr t => obtain ⟨⟨ad, ds, h1, h2, h3, h4⟩, h5⟩ := h; exact ⟨⟨ad, ds, h1, h2.keep (w' := w) (fun b hb => ⟨hR b hb, rfl⟩) (fun _ _ => rfl), h3, fun hd => hR _ (h4 hd)⟩, h5⟩
  | _ => exact h.elim
theorem RepCs.mono {R' : Nat → Prop} (hR : ∀ b, R b → R' b) {f : Fm} : ∀ {x : DenF f} {v : List Value} {F : List Nat}, RepCs w R f x v F → RepCs w R' f x v F := by
  induction f with
  | nil => intro x v F h; exact h
  | cons a b _ ih => rintro x v F ⟨v, r, F1, F2, e1, e2, h1, h2⟩; exact ⟨v, r, F1, F2, e1, e2, h1.mono hR, ih h2⟩
  | _ => intro x v F h; exact h.elim
theorem RepBox.mono {R' : Nat → Prop} (hR : ∀ b, R b → R' b) {f : Fm} {x : DenF f} {v : Value} {F : List Nat} (h : RepBox w R f x v F) : RepBox w R' f x v F := by
  obtain ⟨b, arr, Ty, F', e1, e2, e3, h⟩ := h; exact ⟨b, arr, Ty, F', e1, e2, e3, h.mono hR⟩
theorem RepV0.mono {R' : Nat → Prop} (hR : ∀ b, R b → R' b) {f : Fm} {x : DenF f} {v : Value} {F : List Nat} (h : RepV0 w R f x v F) : RepV0 w R' f x v F := by
  cases f with
  | agg f => obtain ⟨vs, e, h⟩ := h; exact ⟨vs, e, h.mono hR⟩
  | box f => exact RepBox.mono hR h
  | bx f => exact RepBox.mono hR h
  | _ => simp only [RepV0] at h ⊢; exact RepC.mono hR h
theorem RepVs0.mono {R' : Nat → Prop} (hR : ∀ b, R b → R' b) {f : Fm} : ∀ {x : DenF f} {v : List Value} {F : List Nat}, RepVs0 w R f x v F → RepVs0 w R' f x v F := by
  induction f with
  | nil => intro x v F h; exact h
  | cons a b _ ih => rintro x v F ⟨v, r, F1, F2, e1, e2, h1, h2⟩; exact ⟨v, r, F1, F2, e1, e2, h1.mono hR, ih h2⟩
  | _ => intro x v F h; exact h.elim
theorem RepV.mono {R' : Nat → Prop} (hR : ∀ b, R b → R' b) {f : Fm} : ∀ {x : DenF f} {v : Value} {F : List Nat}, RepV w R f x v F → RepV w R' f x v F := by
  induction f with
  | clo f c _ => rintro x v F ⟨vs, e, h⟩; exact ⟨vs, e, h.mono hR⟩
  | ifc X f _ => rintro x v F ⟨vs, e, h⟩; exact ⟨vs, e, h.mono hR⟩
  | alt a b iha ihb =>
    intro x v F h
    cases x with
    | inl y => exact iha h
    | inr y => exact ihb h
  | _ => intro x v F h; simp only [RepV] at h ⊢; exact RepV0.mono hR h
theorem RepVs.mono {R' : Nat → Prop} (hR : ∀ b, R b → R' b) {f : Fm} : ∀ {x : DenF f} {v : List Value} {F : List Nat}, RepVs w R f x v F → RepVs w R' f x v F := by
  induction f with
  | nil => intro x v F h; exact h
  | cons a b _ ih => rintro x v F ⟨v, r, F1, F2, e1, e2, h1, h2⟩; exact ⟨v, r, F1, F2, e1, e2, h1.mono hR, ih h2⟩
  | _ => intro x v F h; exact h.elim

def lentR (E : Env) (R : Nat → Prop) (l : List Nat) : Nat → Prop := fun b => R b ∨ ∃ n, n ∈ l ∧ b ∈ E.F n
theorem lentR_l {l l' : List Nat} (b : Nat) (h : lentR E R l b) : lentR E R (l ++ l') b := h.imp id fun ⟨n, h1, h2⟩ => ⟨n, by simp [h1], h2⟩
theorem lentR_r {l l' : List Nat} (b : Nat) (h : lentR E R l' b) : lentR E R (l ++ l') b := h.imp id fun ⟨n, h1, h2⟩ => ⟨n, by simp [h1], h2⟩

/-- what comes back, name by name -/
def BackOK (w' : World) (R' : Nat → Prop) (m : Mem) (V : Nat → Value) (F : Nat → List Nat) (G0 : List Nat) : List W → List Nat → Prop
  | [], G => G = []
  | x :: r, G => ∃ G1 G2 q q', G = G1 ++ G2 ∧ x = ⟨x.n, some (.root q'), false⟩ ∧ m x.n = some (.root q) ∧ q.ver < q'.ver ∧ q'.xs.length = q.xs.length ∧ q'.t.sz = q.t.sz ∧
      (∃ ds Fi, w'.ownsRow 0 q'.e q'.t.sz (V x.n) q'.xs.length ds ∧ All (Rp w' R' q'.deep q'.t) q'.xs ds Fi ∧ ((V x.n).ownBlock.toList ++ Fi).Nodup ∧ ∀ b, b ∈ (V x.n).ownBlock.toList ++ Fi → b ∈ G1 ∨ (b ∈ F x.n ∧ b ∉ G0)) ∧ BackOK w' R' m V F G0 r G2
theorem BackOK.app {w' : World} {R' : Nat → Prop} {m : Mem} {V : Nat → Value} {Fn : Nat → List Nat} {G0 : List Nat} : ∀ {l k : List W} {G H : List Nat}, BackOK w' R' m V Fn G0 l G → BackOK w' R' m V Fn G0 k H → BackOK w' R' m V Fn G0 (l ++ k) (G ++ H)
  | [], _, _, _, h, h' => by rw [show _ = [] from h]; exact h'
  | _ :: _, _, _, _, ⟨G1, G2, q, q', e, e1, e2, e3, e4, e5, e6, h⟩, h' => ⟨G1, _, q, q', by rw [e, List.append_assoc], e1, e2, e3, e4, e5, e6, h.app h'⟩
/-- from the world at the call to the world behind it -/
structure Behind (w : World) (R : Nat → Prop) (E : Env) (G0 : List Nat) (w' : World) (R' : Nat → Prop) (wr G : List Nat) : Prop where
  rd : ∀ b, R b → R' b ∧ w'.heap[b]? = w.heap[b]?
  same : ∀ n b, n ∈ wr → b ∈ E.F n → b ∉ G0 → w'.heap[b]? = w.heap[b]?
  lent : ∀ n b, n ∈ wr → b ∈ E.F n → b ∈ G0 → b ∈ G
/-- what is lent for an argument, and what may come back for it -/
structure LentOK (w : World) (R : Nat → Prop) (s : St) (E : Env) (l wr G : List Nat) (rep : Prop) (back : World → (Nat → Prop) → List W → List Nat → Prop) : Prop where
  rep : rep
  nd : wr.Nodup → G.Nodup
  own : ∀ b, b ∈ G → ∃ n, n ∈ wr ∧ b ∈ E.F n
  us : ∀ n, n ∈ l ∨ n ∈ wr → s.us n = true
  back : wr.Nodup → ∀ (G0 : List Nat) (w' : World) (R' : Nat → Prop) (ws : List W) (G' : List Nat), Behind w R E G0 w' R' wr G → back w' R' ws G' → (∀ b, b ∈ G' → w.heap.size ≤ b ∨ b ∈ G0) → G'.Nodup → BackOK w' R' s.st E.V E.F G0 ws G'

theorem ownsRow_len {w w' : World} {e e' sz sz' n n' : Nat} {v : Value} {ds ds' : List Value} (h : w.ownsRow 0 e sz v n ds) (h' : w'.ownsRow 0 e' sz' v n' ds') : n = n' := by
  rcases h.2 with ⟨rfl, h1⟩ | ⟨g, cap, cur, rfl, _⟩
  · rcases h'.2 with ⟨_, h2⟩ | ⟨g, cap, cur, e, _⟩
    · rw [h1, h2]
    · cases e
  · rcases h'.2 with ⟨e, _⟩ | ⟨g, cap, cur, e, _⟩
    · cases e
    · injection e
/-- a row inside an element, and what puts another in its place -/
theorem Rp.inner {w : World} {R : Nat → Prop} : ∀ {t : CT} {x : Den t} {cs : List Value} {F : List Nat} {off : Nat} {r : Row}, Rp w R true t x cs F → getRow t x off = some r →
    ∃ v Fa Gi Fb, cs[off]? = some v ∧ F = Fa ++ Gi ++ Fb ∧ Rp w R true (.sl r.e r.t) r.xs [v] Gi ∧
      ∀ (w' : World) (R' : Nat → Prop) (y : List (Den r.t)) (z : Den t) (G' : List Nat), setRow r.t y t x off = some z → (∀ b, R b → R' b ∧ w'.heap[b]? = w.heap[b]?) → (∀ b, b ∈ Fa → w'.heap[b]? = w.heap[b]?) → (∀ b, b ∈ Fb → w'.heap[b]? = w.heap[b]?) → Rp w' R' true (.sl r.e r.t) y [v] G' → Rp w' R' true t z cs (Fa ++ G' ++ Fb)
  | .int _, _, _, _, _, _, _, h => by simp [getRow] at h
  | .bool, _, _, _, _, _, _, h => by simp [getRow] at h
  | .str, _, _, _, _, _, _, h => by simp [getRow] at h
  | .nil, _, _, _, _, _, _, h => by simp [getRow] at h
  | .sl e t, x, cs, F, off, r, h, hg => by
    simp only [getRow] at hg
    cases ho : Nat.beq off 0 with
    | false => rw [ho] at hg; simp at hg
    | true =>
      rw [ho] at hg
      simp only [cond_true, Option.some.injEq] at hg
      subst hg
      obtain rfl := Nat.eq_of_beq_eq_true ho
      obtain ⟨v, ds, Fi, e1, h1, e2, h2⟩ := h
      refine ⟨v, [], F, [], by rw [e1]; rfl, by simp, ⟨v, ds, Fi, rfl, h1, e2, h2⟩, fun w' R' y z G' hs _ _ _ hy => ?_⟩
      simp only [setRow, dite_true, ho, cond_true, Option.some.injEq] at hs
      subst hs
      rw [e1]
      simpa using hy
  | .cons a b, x, cs, F, off, r, ⟨c1, c2, F1, F2, e1, e2, h1, h2⟩, hg => by
    simp only [getRow] at hg
    have l1 := h1.len
    cases hlt : Nat.blt off a.sz with
    | true =>
      rw [hlt] at hg
      have hl : off < a.sz := by rw [Nat.blt_eq] at hlt; exact hlt
      obtain ⟨v, Fa, Gi, Fb, k1, k2, k3, k4⟩ := h1.inner hg
      refine ⟨v, Fa, Gi, Fb ++ F2, by rw [e1, List.getElem?_append_left (by omega)]; exact k1, by rw [e2, k2]; simp, k3, fun w' R' y z G' hs hR ha hb hy => ?_⟩
      simp only [setRow, hlt, cond_true] at hs
      split at hs
      · rename_i z' hz
        simp only [Option.some.injEq] at hs
        subst hs
        exact ⟨c1, c2, Fa ++ G' ++ Fb, F2, e1, by simp, k4 w' R' y z' G' hz hR ha (fun b hb' => hb b (by simp [hb'])) hy, h2.keep hR (fun b hb' => hb b (by simp [hb']))⟩
      · cases hs
    | false =>
      rw [hlt] at hg
      have hl : ¬ off < a.sz := fun hc => by rw [← Nat.blt_eq] at hc; rw [hc] at hlt; cases hlt
      obtain ⟨v, Fa, Gi, Fb, k1, k2, k3, k4⟩ := h2.inner hg
      refine ⟨v, F1 ++ Fa, Gi, Fb, by rw [e1, List.getElem?_append_right (by omega), l1]; exact k1, by rw [e2, k2]; simp, k3, fun w' R' y z G' hs hR ha hb hy => ?_⟩
      simp only [setRow, hlt, cond_false] at hs
      split at hs
      · rename_i z' hz
        simp only [Option.some.injEq] at hs
        subst hs
        exact ⟨c1, c2, F1, Fa ++ G' ++ Fb, e1, by simp, h1.keep hR (fun b hb' => ha b (by simp [hb'])), k4 w' R' y z' G' hz hR (fun b hb' => ha b (by simp [hb'])) hb hy⟩
      · cases hs

/-- nothing is lent to be written -/
theorem LentOK.plain {l : List Nat} {rep : Prop} {back : World → (Nat → Prop) → List W → List Nat → Prop} (hr : rep) (hu : ∀ n, n ∈ l → s.us n = true) (hb : ∀ w' R' ws G', back w' R' ws G' → ws = [] ∧ G' = []) : LentOK w R s E l [] [] rep back :=
  ⟨hr, fun _ => by simp, fun b hb => by simp at hb, fun n hn => hn.elim (hu n) (fun h => by simp at h), fun _ G0 w' R' ws G' _ h _ _ => by
    obtain ⟨rfl, rfl⟩ := hb w' R' ws G' h
    rfl⟩
theorem RC.rv0 {w : World} {R : Nat → Prop} {m : Mem} {us : Nat → Bool} {E : Env} {y : AV} {v : Value} (h : RC w R m us E y v) : RV0 w R m us E y v := by
  cases y with
  | agg cs => exact h.elim
  | _ => exact h
theorem RV0.rv1 {w : World} {R : Nat → Prop} {m : Mem} {us : Nat → Bool} {E : Env} {y : AV} {v : Value} (h : RV0 w R m us E y v) : RV1 w R m us E y v := by
  cases y with
  | clo f cs => exact h.elim
  | ifc f cs => exact h.elim
  | _ => exact h
theorem RC.rv1 {w : World} {R : Nat → Prop} {m : Mem} {us : Nat → Bool} {E : Env} {y : AV} {v : Value} (h : RC w R m us E y v) : RV1 w R m us E y v := h.rv0.rv1
/-- a row that is only read: where it lies -/
theorem Sim.rowOf' (h : Sim C s a w R E) {m : Mem} (hm : Sub m s.st) {x : AV} {v : Value} (hv : RC w R s.st s.us E x v) {r : Row} (hr : Go.Ev.rowOf m x = some r) : RowAt w (lentR E R (names1 x)) r.t r.xs v ∧ ∀ n, n ∈ names1 x → s.us n = true := by
  cases x with
  | sl e t xs src =>
    cases src with
    | imm =>
      simp only [Go.Ev.rowOf, Option.some.injEq] at hr
      subst hr
      exact ⟨(rowAt_of (hv.2.2.1 rfl)).mono (fun b hb => .inl hb), by simp [names1]⟩
    | inn n ver pos =>
      have hl : liveSrc m (.inn n ver pos) = true ∧ r = ⟨e, t, xs⟩ := by
        simp only [Go.Ev.rowOf] at hr
        cases hmn : m n with
        | none => rw [hmn] at hr; simp at hr
        | some en =>
          rw [hmn] at hr
          cases en with
          | box cs | mp es | zb ze => simp at hr
          | root q =>
            simp only at hr
            cases hver : Nat.beq q.ver ver with
            | false => rw [hver] at hr; simp at hr
            | true =>
              rw [hver] at hr
              simp only [cond_true, Option.some.injEq] at hr
              refine ⟨?_, hr.symm⟩
              show (match m n with | some (.root q) => Nat.beq q.ver ver | _ => false) = true
              rw [hmn]
              exact hver
      obtain ⟨hl, rfl⟩ := hl
      exact ⟨(rowAt_of (hv.2.2.1 (hm.live hl))).mono (fun b hb => hb.imp id fun hb => ⟨n, by simp [names1], hb⟩), by simp [names1, hv.1.1]⟩
  | ref n =>
    simp only [Go.Ev.rowOf] at hr
    cases hmn : m n with
    | none => rw [hmn] at hr; simp at hr
    | some en =>
      rw [hmn] at hr
      cases en with
      | box cs | mp es | zb ze => simp at hr
      | root q =>
        simp only [Option.some.injEq] at hr
        subst hr
        obtain ⟨hu, hv', _⟩ := hv
        rw [hv']
        exact ⟨(h.rootRow (hm n _ hmn)).mono (fun b hb => hb.imp id fun hb => ⟨n, by simp [names1], hb⟩), by simp [names1, hu]⟩
  | _ => simp [Go.Ev.rowOf] at hr
theorem viewC_ok (h : Sim C s a w R E) {m : Mem} (hm : Sub m s.st) : ∀ {t : CT} {l : List AV} {x : Den t} {c : List Nat} {rest : List AV} {vs : List Value}, viewC m t l = some (x, c, rest) → L2 (RC w R s.st s.us E) l vs →
    ∃ v1 v2, vs = v1 ++ v2 ∧ L2 (RC w R s.st s.us E) rest v2 ∧ (∀ n, n ∈ c → s.us n = true) ∧ Rp w (lentR E R c) false t x v1 []
  | .int k, l, x, c, rest, vs, he, hl => by
    cases l with
    | nil => simp [viewC] at he
    | cons y r =>
      cases y with
      | int k' n =>
        simp only [viewC] at he
        by_cases hk : k' = k
        · subst hk
          simp only [decide_true, cond_true, Option.some.injEq, Prod.mk.injEq] at he
          obtain ⟨rfl, rfl, rfl⟩ := he
          obtain ⟨v, vs', e, h1, h2⟩ := hl
          exact ⟨[v], vs', e, h2, by simp, by rw [show v = _ from h1], rfl⟩
        · simp [hk] at he
      | _ => simp [viewC] at he
  | .bool, l, x, c, rest, vs, he, hl => by
    cases l with
    | nil => simp [viewC] at he
    | cons y r =>
      cases y with
      | bool b =>
        simp only [viewC, Option.some.injEq, Prod.mk.injEq] at he
        obtain ⟨rfl, rfl, rfl⟩ := he
        obtain ⟨v, vs', e, h1, h2⟩ := hl
        exact ⟨[v], vs', e, h2, by simp, by rw [show v = _ from h1], rfl⟩
      | _ => simp [viewC] at he
  | .str, l, x, c, rest, vs, he, hl => by
    cases l with
    | nil => simp [viewC] at he
    | cons y r =>
      cases y with
      | str b =>
        simp only [viewC, Option.some.injEq, Prod.mk.injEq] at he
        obtain ⟨rfl, rfl, rfl⟩ := he
        obtain ⟨v, vs', e, h1, h2⟩ := hl
        exact ⟨[v], vs', e, h2, by simp, by rw [show v = _ from h1], rfl⟩
      | _ => simp [viewC] at he
  | .sl e t, l, x, c, rest, vs, he, hl => by
    cases l with
    | nil => simp [viewC] at he
    | cons y r =>
      obtain ⟨v, vs', e1, h1, h2⟩ := hl
      have gen : (match Go.Ev.rowOf m y with
          | some q => if h : q.t = t then some (h ▸ q.xs, names1 y, r) else none
          | none => (none : Option (List (Den t) × List Nat × List AV))) = some (x, c, rest) → ∃ v1 v2, vs = v1 ++ v2 ∧ L2 (RC w R s.st s.us E) rest v2 ∧ (∀ n, n ∈ c → s.us n = true) ∧ Rp w (lentR E R c) false (.sl e t) x v1 [] := by
        intro he
        cases hr : Go.Ev.rowOf m y with
        | none => rw [hr] at he; cases he
        | some q =>
          rw [hr] at he
          obtain ⟨qe, qt, qxs⟩ := q
          simp only at he
          by_cases ht : qt = t
          · subst ht
            simp only [dite_true, Option.some.injEq, Prod.mk.injEq] at he
            obtain ⟨rfl, rfl, rfl⟩ := he
            obtain ⟨⟨A, cp, ds, e2, h3, h4, h5⟩, h6⟩ := h.rowOf' hm h1 hr
            refine ⟨[v], vs', e1, h2, h6, A, cp, ds, by rw [e2], rfl, h3, h4, fun hd => ?_⟩
            obtain ⟨ad, ea, hb, hc⟩ := h5 hd
            exact ⟨ad, ea, hb, hc⟩
          · simp [ht] at he
      cases y with
      | nilsl =>
        simp only [viewC, Option.some.injEq, Prod.mk.injEq] at he
        obtain ⟨rfl, rfl, rfl⟩ := he
        exact ⟨[v], vs', e1, h2, by simp, none, 0, [], by rw [show v = _ from h1]; rfl, rfl, Nat.le_refl _, ⟨rfl, rfl⟩, fun hd => absurd rfl hd⟩
      | _ => exact gen he
  | .nil, l, x, c, rest, vs, he, hl => by
    simp only [viewC, Option.some.injEq, Prod.mk.injEq] at he
    obtain ⟨_, rfl, rfl⟩ := he
    exact ⟨[], vs, rfl, hl, by simp, rfl, rfl⟩
  | .cons t1 t2, l, x, c, rest, vs, he, hl => by
    simp only [viewC] at he
    split at he
    · rename_i x1 c1 r1 h1
      split at he
      · rename_i x2 c2 r2 h2
        simp only [Option.some.injEq, Prod.mk.injEq] at he
        obtain ⟨rfl, rfl, rfl⟩ := he
        obtain ⟨v1, v2, e1, k1, k2, k3⟩ := viewC_ok h hm h1 hl
        obtain ⟨v3, v4, e2, k4, k5, k6⟩ := viewC_ok h hm h2 k1
        refine ⟨v1 ++ v3, v4, by rw [e1, e2, List.append_assoc], k4, fun n hn => ?_, v1, v3, [], [], rfl, rfl, k3.keep (w' := w) (fun b hb => ⟨lentR_l b hb, rfl⟩) (fun _ _ => rfl), k6.keep (w' := w) (fun b hb => ⟨lentR_r b hb, rfl⟩) (fun _ _ => rfl)⟩
        rcases List.mem_append.1 hn with hn | hn
        · exact k2 n hn
        · exact k5 n hn
      · cases he
    · cases he
/-- data behind a pointer that are only read -/
theorem lend_ptr (h : Sim C s a w R E) {m : Mem} (hm : Sub m s.st) {t : CT} {y : AV} {v : Value} (hv : RV1 w R s.st s.us E y v) {x : Den t} {l wr : List Nat} (he : lendCell m (.ptr t) y = some (x, l, wr)) :
    wr = [] ∧ RepC w (lentR E R l) (.ptr t) x v [] ∧ ∀ n, n ∈ l → s.us n = true := by
  cases y with
  | pro t' x' o src =>
    have hv' : RC w R s.st s.us E (.pro t' x' o src) v := hv
    cases o with
    | succ o => cases src <;> simp [lendCell] at he
    | zero =>
      cases src with
      | imm =>
        simp only [lendCell] at he
        by_cases ht : t' = t
        · subst ht
          simp only [dite_true, Option.some.injEq, Prod.mk.injEq] at he
          obtain ⟨rfl, rfl, rfl⟩ := he
          obtain ⟨ad, ds, e1, h1, h2, h3⟩ := hv'.2.2 rfl
          exact ⟨rfl, ⟨⟨ad, ds, e1, h1.keep (w' := w) (fun b hb => ⟨.inl hb, rfl⟩) (fun _ _ => rfl), h2, fun hd => .inl (h3 hd)⟩, rfl⟩, by simp⟩
        · simp [ht] at he
      | inn n ver p =>
        simp only [lendCell] at he
        by_cases ht : t' = t
        · subst ht
          simp only [dite_true] at he
          cases hc : liveSrc m (.inn n ver p) with
          | false => rw [hc] at he; simp at he
          | true =>
            rw [hc] at he
            simp only [cond_true, Option.some.injEq, Prod.mk.injEq] at he
            obtain ⟨rfl, rfl, rfl⟩ := he
            obtain ⟨ad, ds, e1, h1, h2, h3⟩ := hv'.2.2 (hm.live hc)
            have hR : ∀ b, RS R E (.inn n ver p) b → lentR E R [n] b := fun b hb => hb.imp id fun hb => ⟨n, by simp, hb⟩
            exact ⟨rfl, ⟨⟨ad, ds, e1, h1.keep (w' := w) (fun b hb => ⟨hR b hb, rfl⟩) (fun _ _ => rfl), h2, fun hd => hR _ (h3 hd)⟩, rfl⟩, by simp [hv'.1.1]⟩
        · simp [ht] at he
  | pbox b o =>
    have hv' : RC w R s.st s.us E (.pbox b o) v := hv
    cases o with
    | succ o => simp [lendCell] at he
    | zero =>
      simp only [lendCell] at he
      split at he
      · rename_i cs hb
        split at he
        · rename_i x1 l1 hvw
          simp only [Option.some.injEq, Prod.mk.injEq] at he
          obtain ⟨rfl, rfl, rfl⟩ := he
          obtain ⟨hF, arr, Ty, hg, hrc⟩ := h.box (hm b _ hb)
          obtain ⟨v1, v2, e1, k1, k2, k3⟩ := viewC_ok h hm hvw hrc
          have k1' : v2 = [] := k1
          subst k1'
          rw [List.append_nil] at e1
          refine ⟨rfl, ⟨⟨⟨E.B b, 0, none⟩, v1, ?_, k3.keep (w' := w) (fun c hc => ⟨hc.imp id fun ⟨n, h1, h2⟩ => ⟨n, by simp [h1], h2⟩, rfl⟩) (fun _ _ => rfl), fun j u hj => ?_, fun _ => .inr ⟨b, by simp, by rw [hF]; simp⟩⟩, rfl⟩, fun n hn => ?_⟩
          · rw [hv'.2]
            simp [Addr.add]
          · have had : (⟨E.B b, 0, none⟩ : Addr).add j = ⟨E.B b, j, none⟩ := by unfold Addr.add; split <;> simp_all
            rw [had]
            unfold World.cell?
            rw [hg]
            simp only [Option.isSome_none, Bool.false_eq_true, if_false]
            rw [← e1, Array.getElem?_toList] at hj
            exact hj
          · rcases List.mem_cons.1 hn with rfl | hn
            · exact hv'.1
            · exact k2 n hn
        · cases he
      · cases he
  | _ => simp [lendCell] at he
/-- an owned row given up -/
theorem LentOK.give (h : Sim C s a w R E) {n : Nat} {rep : Prop} {back : World → (Nat → Prop) → List W → List Nat → Prop} (hr : rep) (hu : s.us n = true) (hb : ∀ w' R' ws G', back w' R' ws G' → ws = [] ∧ G' = []) : LentOK w R s E [] [n] (E.F n) rep back :=
  ⟨hr, fun _ => h.nd n, fun b hb => ⟨n, by simp, hb⟩, fun k hk => by
    rcases hk with hk | hk
    · simp at hk
    · simp only [List.mem_singleton] at hk; subst hk; exact hu, fun _ G0 w' R' ws G' _ h _ _ => by
    obtain ⟨rfl, rfl⟩ := hb w' R' ws G' h
    rfl⟩
theorem repB_nil {w' : World} {R' : Nat → Prop} {n : Nat} {e : TypeId} {t : CT} {d : Bool} {z : List (Den t)} {G' : List Nat} (h : RepBC w' R' (.pin n e t d) z (.slice none 0 0) G') : G' = [] := by
  obtain ⟨ds, Fi, h1, h2, h3⟩ := h
  have hx : z.length = 0 := by
    rcases h1.2 with ⟨_, h4⟩ | ⟨g, cap, cur, e, _⟩
    · exact h4
    · cases e
  have hx2 : z = [] := List.eq_nil_of_length_eq_zero hx
  subst hx2
  rw [h2, h3.2]
  rfl
/-- a whole row lent to be written -/
theorem lend_ref (h : Sim C s a w R E) {m : Mem} (hm : Sub m s.st) {k n : Nat} {e : TypeId} {t : CT} {d : Bool} {v : Value} (hv : RC w R s.st s.us E (.ref n) v) {x : List (Den t)} {l wr : List Nat} (he : lendCell m (.pin k e t d) (.ref n) = some (x, l, wr)) :
    ∃ G, LentOK w R s E l wr G (RepC w (lentR E R l) (.pin k e t d) x v G) (fun w' R' ws G' => ∃ z, backCell m (.pin k e t d) (.ref n) z = some ws ∧ RepBC w' R' (.pin k e t d) z v G') := by
  simp only [lendCell] at he
  cases hmn : m n with
  | none => rw [hmn] at he; simp at he
  | some en =>
    rw [hmn] at he
    cases en with
    | box cs | mp es | zb ze => simp at he
    | root q =>
      obtain ⟨qe, qt, qxs, qd, qp, qv⟩ := q
      simp only at he
      by_cases ht : qt = t
      · subst ht
        simp only [dite_true] at he
        cases hc : (Nat.beq qe e && (qd == d || !qt.hasSl)) with
        | false => rw [hc] at he; simp at he
        | true =>
          rw [hc] at he
          simp only [cond_true, Option.some.injEq, Prod.mk.injEq] at he
          obtain ⟨rfl, rfl, rfl⟩ := he
          simp only [Bool.and_eq_true, Bool.or_eq_true, Bool.not_eq_true', beq_iff_eq] at hc
          obtain rfl := Nat.eq_of_beq_eq_true hc.1
          obtain ⟨hu, hv', _⟩ := hv
          obtain ⟨_, _, ds, Fi, h1, h2, h3⟩ := h.root (hm n _ hmn)
          subst hv'
          have hrep : RepC w (lentR E R []) (.pin k qe qt d) qxs (E.V n) (E.F n) := by
            rcases hc.2 with hd | hd
            · subst hd
              exact ⟨ds, Fi, h1, h2, h3.imp fun x c G _ _ hp => hp.keep (w' := w) (fun b hb => ⟨.inl hb, rfl⟩) (fun _ _ => rfl)⟩
            · have := (All.flatT (d' := qd) hd h3).1
              subst this
              exact ⟨ds, [], h1, h2, h3.flatAny hd⟩
          refine ⟨E.F n, hrep, fun _ => h.nd n, fun b hb => ⟨n, by simp, hb⟩, fun j hj => ?_, fun _ G0 w' R' ws G' _ hb _ hnd => ?_⟩
          · rcases hj with hj | hj
            · simp at hj
            · simp only [List.mem_singleton] at hj; subst hj; exact hu
          · obtain ⟨z, hz, hz2⟩ := hb
            simp only [backCell, hmn] at hz
            cases hsz : Nat.beq qt.sz qt.sz with
            | false => rw [hsz] at hz; simp at hz
            | true =>
              rw [hsz] at hz
              simp only [cond_true, Option.some.injEq] at hz
              subst hz
              obtain ⟨ds', Fi', g1, g2, g3⟩ := hz2
              exact ⟨G', [], _, _, by simp, rfl, hm n _ hmn, Nat.lt_succ_self _, (ownsRow_len h1 g1).symm, rfl, ⟨ds', Fi', g1, g3, by rw [← g2]; exact hnd, fun b hb => .inl (by rw [g2]; exact hb)⟩, rfl⟩
      · simp [ht] at he
/-- a row inside an element lent to be written -/
theorem lend_inn (h : Sim C s a w R E) {m : Mem} (hm : Sub m s.st) {k n ver : Nat} {i : Int} {o : Nat} {e e' : TypeId} {t t' : CT} {xs : List (Den t')} {d : Bool} {v : Value} (hv : RC w R s.st s.us E (.sl e' t' xs (.inn n ver (some (i, o)))) v) {x : List (Den t)} {l wr : List Nat} (he : lendCell m (.pin k e t d) (.sl e' t' xs (.inn n ver (some (i, o)))) = some (x, l, wr)) :
    ∃ G, LentOK w R s E l wr G (RepC w (lentR E R l) (.pin k e t d) x v G) (fun w' R' ws G' => ∃ z, backCell m (.pin k e t d) (.sl e' t' xs (.inn n ver (some (i, o)))) z = some ws ∧ RepBC w' R' (.pin k e t d) z v G') := by
  simp only [lendCell] at he
  cases hmn : m n with
  | none => rw [hmn] at he; simp at he
  | some en =>
    rw [hmn] at he
    cases en with
    | box cs | mp es | zb ze => simp at he
    | root q =>
      simp only at he
      cases hc : (Nat.beq q.ver ver && (q.deep && d)) with
      | false => rw [hc] at he; simp at he
      | true =>
        rw [hc] at he
        simp only [cond_true] at he
        cases hg : getRow q.t (q.xs.getD i.toNat q.t.z) o with
        | none => rw [hg] at he; simp at he
        | some r =>
          rw [hg] at he
          obtain ⟨re, rt, rxs⟩ := r
          simp only at he
          by_cases ht : rt = t
          · subst ht
            simp only [dite_true] at he
            cases hre : Nat.beq re e with
            | false => rw [hre] at he; simp at he
            | true =>
              rw [hre] at he
              simp only [cond_true, Option.some.injEq, Prod.mk.injEq] at he
              obtain ⟨rfl, rfl, rfl⟩ := he
              obtain rfl := Nat.eq_of_beq_eq_true hre
              simp only [Bool.and_eq_true] at hc
              obtain ⟨hver, hdp, rfl⟩ := hc
              have hlive : liveSrc s.st (.inn n ver (some (i, o))) = true := by
                show (match s.st n with | some (.root q) => Nat.beq q.ver ver | _ => false) = true
                rw [hm n _ hmn]
                exact hver
              obtain ⟨⟨hu, _⟩, _, _, hpos⟩ := hv
              obtain ⟨g, p1, p2, p3, p4, p5⟩ := hpos hlive
              obtain ⟨l1, l2, ds, Fi, h1, h2, h3⟩ := h.root (hm n _ hmn)
              rw [hdp] at h3
              have hi : i.toNat < q.xs.length := by omega
              obtain ⟨c1, c, c2, F1, Gx, F2, e1, e2, e3, e4, e5⟩ := h3.focus (n := q.t.sz) (fun x c G hp => hp.len) i.toNat hi
              rw [List.getD_eq_getElem?_getD, List.getElem?_eq_getElem hi, Option.getD_some] at hg
              obtain ⟨v', Fa, Gi, Fb, k1, k2, k3, k4⟩ := e4.inner hg
              have hvv : v' = v := by
                rcases h1.2 with ⟨hv0, _⟩ | ⟨g', cap, cur, hv0, _⟩
                · rw [hv0] at p1; simp [Value.ownBlock] at p1
                · have hgg : g' = g := by rw [hv0] at p1; simpa [Value.ownBlock] using p1
                  subst hgg
                  have hcell := h1.cells (g := g') p1 (i.toNat * q.t.sz + o) v' (by
                    rw [e1, List.append_assoc, List.getElem?_append_right (by omega), e3, Nat.add_sub_cancel_left, List.getElem?_append_left (by
                      have := (List.getElem?_eq_some_iff.1 k1).1
                      exact this)]
                    exact k1)
                  rw [l2] at p5
                  have had : (⟨g', 0, none⟩ : Addr).add (i.toNat * q.t.sz + o) = ⟨g', i.toNat * q.t.sz + o, none⟩ := by unfold Addr.add; split <;> simp_all
                  rw [← had, hcell] at p5
                  exact Option.some.inj p5
              subst hvv
              have hFn : E.F n = (E.V n).ownBlock.toList ++ (F1 ++ (Fa ++ Gi ++ Fb) ++ F2) := by rw [h2, e2, k2]
              have hsub : ∀ b, b ∈ Gi → b ∈ E.F n := fun b hb => by rw [hFn]; simp [hb]
              have hndF := h.nd n
              rw [hFn] at hndF
              refine ⟨Gi, ?_, fun _ => ?_, fun b hb => ⟨n, by simp, hsub b hb⟩, fun j hj => ?_, fun hwn G0 w' R' ws G' hB hb hG' hnd => ?_⟩
              · obtain ⟨v2, ds2, Fi2, a1, a2, a3, a4⟩ := k3
                simp only [List.cons.injEq, and_true] at a1
                subst a1
                exact ⟨ds2, Fi2, a2, a3, a4.imp fun x c G _ _ hp => hp.keep (w' := w) (fun b hb => ⟨.inl hb, rfl⟩) (fun _ _ => rfl)⟩
              · have a1 := (List.nodup_append.1 hndF).2.1
                have a2 := (List.nodup_append.1 (List.nodup_append.1 a1).1).2.1
                exact (List.nodup_append.1 (List.nodup_append.1 a2).1).2.1
              · rcases hj with hj | hj
                · simp at hj
                · simp only [List.mem_singleton] at hj; subst hj; exact hu
              · obtain ⟨z, hz, hz2⟩ := hb
                simp only [backCell, hmn] at hz
                rw [List.getD_eq_getElem?_getD, List.getElem?_eq_getElem hi, Option.getD_some] at hz
                split at hz
                · rename_i y hy
                  simp only [Option.some.injEq] at hz
                  subst hz
                  obtain ⟨n1, n2, n3⟩ := List.nodup_append.1 hndF
                  obtain ⟨n4, n5, n6⟩ := List.nodup_append.1 n2
                  obtain ⟨n7, n8, n9⟩ := List.nodup_append.1 n4
                  obtain ⟨n10, n11, n12⟩ := List.nodup_append.1 n8
                  obtain ⟨n13, n14, n15⟩ := List.nodup_append.1 n10
                  have hnotG : ∀ b, b ∈ E.F n → b ∉ Gi → b ∉ G0 := fun b hb hbG hb0 => hbG (hB.lent n b (by simp) hb hb0)
                  have o0 : ∀ b, b ∈ (E.V n).ownBlock.toList → b ∉ Gi := fun b hb hc => n3 b hb b (by simp [hc]) rfl
                  have o1 : ∀ b, b ∈ F1 → b ∉ Gi := fun b hb hc => n9 b hb b (by simp [hc]) rfl
                  have o2 : ∀ b, b ∈ F2 → b ∉ Gi := fun b hb hc => n6 b (by simp [hc]) b hb rfl
                  have oa : ∀ b, b ∈ Fa → b ∉ Gi := fun b hb hc => n15 b hb b hc rfl
                  have ob : ∀ b, b ∈ Fb → b ∉ Gi := fun b hb hc => n12 b (by simp [hc]) b hb rfl
                  have keepB : ∀ b, b ∈ E.F n → b ∉ Gi → w'.heap[b]? = w.heap[b]? := fun b hb hbG => hB.same n b (by simp) hb (hnotG b hb hbG)
                  have s0 : ∀ b, b ∈ (E.V n).ownBlock.toList → b ∈ E.F n := fun b hb => by rw [hFn]; exact List.mem_append.2 (.inl hb)
                  have s1 : ∀ b, b ∈ F1 → b ∈ E.F n := fun b hb => by rw [hFn]; simp [hb]
                  have s2 : ∀ b, b ∈ F2 → b ∈ E.F n := fun b hb => by rw [hFn]; simp [hb]
                  have sa : ∀ b, b ∈ Fa → b ∈ E.F n := fun b hb => by rw [hFn]; simp [hb]
                  have sb : ∀ b, b ∈ Fb → b ∈ E.F n := fun b hb => by rw [hFn]; simp [hb]
                  obtain ⟨ds2, Fi2, a1, a2, a3⟩ := hz2
                  have hnew : Rp w' R' true q.t y c (Fa ++ G' ++ Fb) := k4 w' R' z y G' hy hB.rd (fun b hb => keepB b (sa b hb) (oa b hb)) (fun b hb => keepB b (sb b hb) (ob b hb)) ⟨v', ds2, Fi2, rfl, a1, a2, a3⟩
                  have hAll := e5 (Rp w' R' true q.t) y c (Fa ++ G' ++ Fb) (fun x c H hH hp => hp.keep hB.rd (fun b hb => by
                    rcases hH b hb with hb | hb
                    · exact keepB b (s1 b hb) (o1 b hb)
                    · exact keepB b (s2 b hb) (o2 b hb))) hnew
                  have hlt : ∀ b, b ∈ E.F n → b < w.heap.size := fun b hb => (h.own n b hb).2.1
                  have hfreshG : ∀ b, b ∈ G' → ∀ b', b' ∈ E.F n → b' ∉ Gi → b ≠ b' := fun b hb b' hb' hbG e => by
                    subst e
                    rcases hG' b hb with hc | hc
                    · have := hlt b hb'; omega
                    · exact hnotG b hb' hbG hc
                  refine ⟨G', [], q, ⟨q.e, q.t, q.xs.set i.toNat y, q.deep, q.pin, q.ver + 1⟩, by simp, rfl, hm n _ hmn, Nat.lt_succ_self _, by simp, rfl, ⟨ds, F1 ++ (Fa ++ G' ++ Fb) ++ F2, ?_, ?_, ?_, fun b hb => ?_⟩, rfl⟩
                  · simp only [List.length_set]
                    exact ownsRow_same h1 (fun b hb => keepB b (s0 b hb) (o0 b hb))
                  · dsimp only
                    rw [hdp]
                    rw [e1]
                    exact hAll
                  · rw [List.nodup_append]
                    refine ⟨n1, ?_, fun b hb b' hb' => ?_⟩
                    · rw [List.nodup_append]
                      refine ⟨?_, n5, fun b hb b' hb' => ?_⟩
                      · rw [List.nodup_append]
                        refine ⟨n7, ?_, fun b hb b' hb' => ?_⟩
                        · rw [List.nodup_append]
                          refine ⟨?_, n11, fun b hb b' hb' => ?_⟩
                          · rw [List.nodup_append]
                            exact ⟨n13, hnd, fun b hb b' hb' => (hfreshG b' hb' b (sa b hb) (oa b hb)).symm⟩
                          · rcases List.mem_append.1 hb with hb | hb
                            · exact n12 b (by simp [hb]) b' hb'
                            · exact hfreshG b hb b' (sb b' hb') (ob b' hb')
                        · simp only [List.mem_append] at hb'
                          rcases hb' with (hb' | hb') | hb'
                          · exact n9 b hb b' (by simp [hb'])
                          · exact (hfreshG b' hb' b (s1 b hb) (o1 b hb)).symm
                          · exact n9 b hb b' (by simp [hb'])
                      · simp only [List.mem_append] at hb
                        rcases hb with hb | (hb | hb) | hb
                        · exact n6 b (by simp [hb]) b' hb'
                        · exact n6 b (by simp [hb]) b' hb'
                        · exact hfreshG b hb b' (s2 b' hb') (o2 b' hb')
                        · exact n6 b (by simp [hb]) b' hb'
                    · simp only [List.mem_append] at hb'
                      rcases hb' with (hb' | (hb' | hb') | hb') | hb'
                      · exact n3 b hb b' (by simp [hb'])
                      · exact n3 b hb b' (by simp [hb'])
                      · exact (hfreshG b' hb' b (s0 b hb) (o0 b hb)).symm
                      · exact n3 b hb b' (by simp [hb'])
                      · exact n3 b hb b' (by simp [hb'])
                  · simp only [List.mem_append] at hb
                    rcases hb with hb | (hb | (hb | hb) | hb) | hb
                    · exact .inr ⟨s0 b hb, hnotG b (s0 b hb) (o0 b hb)⟩
                    · exact .inr ⟨s1 b hb, hnotG b (s1 b hb) (o1 b hb)⟩
                    · exact .inr ⟨sa b hb, hnotG b (sa b hb) (oa b hb)⟩
                    · exact .inl hb
                    · exact .inr ⟨sb b hb, hnotG b (sb b hb) (ob b hb)⟩
                    · exact .inr ⟨s2 b hb, hnotG b (s2 b hb) (o2 b hb)⟩
                · cases hz
          · simp [ht] at he
theorem lendCell_ok (h : Sim C s a w R E) {m : Mem} (hm : Sub m s.st) {f : Fm} {y : AV} {v : Value} (hv : RV1 w R s.st s.us E y v) {x : DenF f} {l wr : List Nat} (he : lendCell m f y = some (x, l, wr)) :
    ∃ G, LentOK w R s E l wr G (RepC w (lentR E R l) f x v G) (fun w' R' ws G' => ∃ z, backCell m f y z = some ws ∧ RepBC w' R' f z v G') := by
  cases f with
  | int k =>
    cases y with
    | int k' n =>
      simp only [lendCell] at he
      by_cases hk : k' = k
      · subst hk
        simp only [decide_true, cond_true, Option.some.injEq, Prod.mk.injEq] at he
        obtain ⟨rfl, rfl, rfl⟩ := he
        exact ⟨[], LentOK.plain ⟨hv, rfl⟩ (by simp) fun w' R' ws G' ⟨z, h1, h2⟩ => ⟨by simpa [backCell] using h1.symm, h2⟩⟩
      · simp [hk] at he
    | _ => simp [lendCell] at he
  | bool =>
    cases y with
    | bool b =>
      simp only [lendCell, Option.some.injEq, Prod.mk.injEq] at he
      obtain ⟨rfl, rfl, rfl⟩ := he
      exact ⟨[], LentOK.plain ⟨hv, rfl⟩ (by simp) fun w' R' ws G' ⟨z, h1, h2⟩ => ⟨by simpa [backCell] using h1.symm, h2⟩⟩
    | _ => simp [lendCell] at he
  | str =>
    cases y with
    | str b =>
      simp only [lendCell, Option.some.injEq, Prod.mk.injEq] at he
      obtain ⟨rfl, rfl, rfl⟩ := he
      exact ⟨[], LentOK.plain ⟨hv, rfl⟩ (by simp) fun w' R' ws G' ⟨z, h1, h2⟩ => ⟨by simpa [backCell] using h1.symm, h2⟩⟩
    | _ => simp [lendCell] at he
  | sl e t =>
    cases y with
    | nilsl =>
      simp only [lendCell, Option.some.injEq, Prod.mk.injEq] at he
      obtain ⟨rfl, rfl, rfl⟩ := he
      exact ⟨[], LentOK.plain ⟨⟨none, 0, [], hv, Nat.le_refl _, ⟨rfl, rfl⟩, fun h => absurd rfl h⟩, rfl⟩ (by simp) fun w' R' ws G' ⟨z, h1, h2⟩ => ⟨by simpa [backCell] using h1.symm, h2⟩⟩
    | sl e' t' xs src =>
      have hv' : RC w R s.st s.us E (.sl e' t' xs src) v := hv
      cases src with
      | imm =>
        simp only [lendCell] at he
        by_cases ht : t' = t
        · subst ht
          simp only [dite_true, Option.some.injEq, Prod.mk.injEq] at he
          obtain ⟨rfl, rfl, rfl⟩ := he
          exact ⟨[], LentOK.plain ⟨(rowAt_of (hv'.2.2.1 rfl)).mono (fun b hb => .inl hb), rfl⟩ (by simp) fun w' R' ws G' ⟨z, h1, h2⟩ => ⟨by simpa [backCell] using h1.symm, h2⟩⟩
        · simp [ht] at he
      | inn n ver p =>
        simp only [lendCell] at he
        by_cases ht : t' = t
        · subst ht
          simp only [dite_true] at he
          cases hc : liveSrc m (.inn n ver p) with
          | false => rw [hc] at he; simp at he
          | true =>
            rw [hc] at he
            simp only [cond_true, Option.some.injEq, Prod.mk.injEq] at he
            obtain ⟨rfl, rfl, rfl⟩ := he
            exact ⟨[], LentOK.plain ⟨(rowAt_of (hv'.2.2.1 (hm.live hc))).mono (fun b hb => hb.imp id fun hb => ⟨n, by simp, hb⟩), rfl⟩ (by simp [hv'.1.1]) fun w' R' ws G' ⟨z, h1, h2⟩ => ⟨by simpa [backCell] using h1.symm, h2⟩⟩
        · simp [ht] at he
    | ref n =>
      simp only [lendCell] at he
      cases hmn : m n with
      | none => rw [hmn] at he; simp at he
      | some en =>
        rw [hmn] at he
        cases en with
        | box cs | mp es | zb ze => simp at he
        | root q =>
          obtain ⟨qe, qt, qxs, qd, qp, qv⟩ := q
          simp only at he
          by_cases ht : qt = t
          · subst ht
            simp only [dite_true, Option.some.injEq, Prod.mk.injEq] at he
            obtain ⟨rfl, rfl, rfl⟩ := he
            obtain ⟨hu, hv', _⟩ : RC w R s.st s.us E (.ref n) v := hv
            rw [hv']
            exact ⟨[], LentOK.plain ⟨(h.rootRow (hm n _ hmn)).mono (fun b hb => hb.imp id fun hb => ⟨n, by simp, hb⟩), rfl⟩ (by simp [hu]) fun w' R' ws G' ⟨z, h1, h2⟩ => ⟨by simpa [backCell] using h1.symm, h2⟩⟩
          · simp [ht] at he
    | _ => simp [lendCell] at he
  | own e t d =>
    cases y with
    | nilsl =>
      simp only [lendCell, Option.some.injEq, Prod.mk.injEq] at he
      obtain ⟨rfl, rfl, rfl⟩ := he
      have hv' : v = .slice none 0 0 := hv
      subst hv'
      exact ⟨[], LentOK.plain ⟨[], [], World.ownsRow_nil w 0 e _, rfl, ⟨rfl, rfl⟩⟩ (by simp) fun w' R' ws G' ⟨z, h1, h2⟩ => ⟨by simpa [backCell] using h1.symm, h2⟩⟩
    | ref n =>
      simp only [lendCell] at he
      cases hmn : m n with
      | none => rw [hmn] at he; simp at he
      | some en =>
        rw [hmn] at he
        cases en with
        | box cs | mp es | zb ze => simp at he
        | root q =>
          obtain ⟨qe, qt, qxs, qd, qp, qv⟩ := q
          simp only at he
          by_cases ht : qt = t
          · subst ht
            simp only [dite_true] at he
            cases hc : ((Nat.beq qe e && !qp) && (qd == d || !qt.hasSl)) with
            | false => rw [hc] at he; simp at he
            | true =>
              rw [hc] at he
              simp only [cond_true, Option.some.injEq, Prod.mk.injEq] at he
              obtain ⟨rfl, rfl, rfl⟩ := he
              simp only [Bool.and_eq_true, Bool.or_eq_true, Bool.not_eq_true', beq_iff_eq] at hc
              obtain rfl := Nat.eq_of_beq_eq_true hc.1.1
              obtain ⟨hu, hv', _⟩ : RC w R s.st s.us E (.ref n) v := hv
              obtain ⟨_, _, ds, Fi, h1, h2, h3⟩ := h.root (hm n _ hmn)
              rw [hv']
              refine ⟨E.F n, LentOK.give h ?_ hu fun w' R' ws G' ⟨z, h1, h2⟩ => ⟨by simpa [backCell] using h1.symm, h2⟩⟩
              rcases hc.2 with hd | hd
              · subst hd
                exact ⟨ds, Fi, h1, h2, h3.imp fun x c G _ _ hp => hp.keep (w' := w) (fun b hb => ⟨.inl hb, rfl⟩) (fun _ _ => rfl)⟩
              · have := (All.flatT (d' := qd) hd h3).1
                subst this
                exact ⟨ds, [], h1, h2, h3.flatAny hd⟩
          · simp [ht] at he
    | _ => simp [lendCell] at he
  | pin k e t d =>
    cases y with
    | nilsl =>
      simp only [lendCell, Option.some.injEq, Prod.mk.injEq] at he
      obtain ⟨rfl, rfl, rfl⟩ := he
      have hv' : v = .slice none 0 0 := hv
      subst hv'
      exact ⟨[], LentOK.plain ⟨[], [], World.ownsRow_nil w 0 e _, rfl, ⟨rfl, rfl⟩⟩ (by simp) fun w' R' ws G' ⟨z, h1, h2⟩ => ⟨by simpa [backCell] using h1.symm, repB_nil h2⟩⟩
    | ref n => exact lend_ref h hm hv he
    | sl e' t' xs src =>
      cases src with
      | imm => simp [lendCell] at he
      | inn n ver p =>
        cases p with
        | none => simp [lendCell] at he
        | some p => obtain ⟨i, o⟩ := p; exact lend_inn h hm hv he
    | _ => simp [lendCell] at he
  | ptr t =>
    obtain ⟨rfl, h1, h2⟩ := lend_ptr h hm hv he
    refine ⟨[], LentOK.plain h1 h2 fun w' R' ws G' ⟨z, h1, h2⟩ => ⟨?_, h2⟩⟩
    have : backCell m (.ptr t) y z = some [] := by cases y <;> rfl
    rw [this] at h1
    injection h1 with h1
    exact h1.symm
  | box | agg | tup | nil | cons | mp | bx | clo | ifc | alt => simp [lendCell] at he

theorem LentOK.mono {l l' wr G : List Nat} {rep rep' : Prop} {back back' : World → (Nat → Prop) → List W → List Nat → Prop} (h : LentOK w R s E l wr G rep back) (hr : rep → rep') (hb : ∀ w' R' ws G', back' w' R' ws G' → back w' R' ws G') : LentOK w R s E l wr G rep' back' :=
  ⟨hr h.rep, h.nd, h.own, h.us, fun hw G0 w' R' ws G' hB hb' h1 h2 => h.back hw G0 w' R' ws G' hB (hb _ _ _ _ hb') h1 h2⟩
theorem LentOK.app (h : Sim C s a w R E) {l1 l2 wr1 wr2 G1 G2 : List Nat} {rep1 rep2 rep : Prop} {b1 b2 b : World → (Nat → Prop) → List W → List Nat → Prop} (h1 : LentOK w R s E l1 wr1 G1 rep1 b1) (h2 : LentOK w R s E l2 wr2 G2 rep2 b2)
    (hr : rep1 → rep2 → rep) (hb : ∀ w' R' ws G', b w' R' ws G' → ∃ ws1 ws2 G1' G2', ws = ws1 ++ ws2 ∧ G' = G1' ++ G2' ∧ b1 w' R' ws1 G1' ∧ b2 w' R' ws2 G2') : LentOK w R s E (l1 ++ l2) (wr1 ++ wr2) (G1 ++ G2) rep b := by
  have dj : (wr1 ++ wr2).Nodup → ∀ b, b ∈ G1 → b ∉ G2 := fun hn b hb1 hb2 => by
    obtain ⟨n, hn1, hbn⟩ := h1.own b hb1
    obtain ⟨k, hk1, hbk⟩ := h2.own b hb2
    exact h.dj n k b (fun e => (List.nodup_append.1 hn).2.2 n hn1 k hk1 e) hbn hbk
  refine ⟨hr h1.rep h2.rep, fun hn => ?_, fun b hb => ?_, fun n hn => ?_, fun hn G0 w' R' ws G' hB hbk hG hnd => ?_⟩
  · obtain ⟨a1, a2, a3⟩ := List.nodup_append.1 hn
    exact List.nodup_append.2 ⟨h1.nd a1, h2.nd a2, fun b hb b' hb' e => dj hn b hb (e ▸ hb')⟩
  · rcases List.mem_append.1 hb with hb | hb
    · obtain ⟨n, a1, a2⟩ := h1.own b hb; exact ⟨n, by simp [a1], a2⟩
    · obtain ⟨n, a1, a2⟩ := h2.own b hb; exact ⟨n, by simp [a1], a2⟩
  · simp only [List.mem_append] at hn
    rcases hn with (hn | hn) | (hn | hn)
    · exact h1.us n (.inl hn)
    · exact h2.us n (.inl hn)
    · exact h1.us n (.inr hn)
    · exact h2.us n (.inr hn)
  · obtain ⟨ws1, ws2, G1', G2', rfl, rfl, e1, e2⟩ := hb w' R' ws G' hbk
    obtain ⟨a1, a2, a3⟩ := List.nodup_append.1 hn
    obtain ⟨c1, c2, c3⟩ := List.nodup_append.1 hnd
    refine (h1.back a1 G0 w' R' ws1 G1' ⟨hB.rd, fun n b hn' => hB.same n b (by simp [hn']), fun n b hn' hbn hb0 => ?_⟩ e1 (fun b hb => hG b (by simp [hb])) c1).app
      (h2.back a2 G0 w' R' ws2 G2' ⟨hB.rd, fun n b hn' => hB.same n b (by simp [hn']), fun n b hn' hbn hb0 => ?_⟩ e2 (fun b hb => hG b (by simp [hb])) c2)
    · rcases List.mem_append.1 (hB.lent n b (by simp [hn']) hbn hb0) with h3 | h3
      · exact h3
      · obtain ⟨k, hk1, hbk⟩ := h2.own b h3
        exact absurd hbk (h.dj n k b (fun e => a3 n hn' k hk1 e) hbn)
    · rcases List.mem_append.1 (hB.lent n b (by simp [hn']) hbn hb0) with h3 | h3
      · obtain ⟨k, hk1, hbk⟩ := h1.own b h3
        exact absurd hbk (h.dj n k b (fun e => a3 k hk1 n hn' e.symm) hbn)
      · exact h3

theorem lendCells_ok (h : Sim C s a w R E) {m : Mem} (hm : Sub m s.st) : ∀ {f : Fm} {ys : List AV} {vs : List Value}, L2 (RC w R s.st s.us E) ys vs → ∀ {x : DenF f} {l wr : List Nat}, lendCells m f ys = some (x, l, wr) →
    ∃ G, LentOK w R s E l wr G (RepCs w (lentR E R l) f x vs G) (fun w' R' ws G' => ∃ z, backCells m f ys z = some ws ∧ RepBCs w' R' f z vs G') := by
  intro f
  induction f with
  | nil =>
    intro ys vs hl x l wr he
    cases ys with
    | nil =>
      simp only [lendCells, Option.some.injEq, Prod.mk.injEq] at he
      obtain ⟨_, rfl, rfl⟩ := he
      rw [show vs = [] from hl]
      exact ⟨[], LentOK.plain ⟨rfl, rfl⟩ (by simp) fun w' R' ws G' ⟨z, h1, h2⟩ => ⟨by simpa [backCells] using h1.symm, h2.2⟩⟩
    | cons y r => simp [lendCells] at he
  | cons f1 f2 _ ih =>
    intro ys vs hl x l wr he
    cases ys with
    | nil => simp [lendCells] at he
    | cons y r =>
      obtain ⟨v, vs', e, h1, h2⟩ := hl
      simp only [lendCells] at he
      cases hp : lendCell m f1 y with
      | none => rw [hp] at he; simp at he
      | some q =>
        obtain ⟨x1, l1, w1⟩ := q
        rw [hp] at he
        simp only at he
        cases hq : lendCells m f2 r with
        | none => rw [hq] at he; simp at he
        | some q2 =>
          obtain ⟨x2, l2, w2⟩ := q2
          rw [hq] at he
          simp only [Option.some.injEq, Prod.mk.injEq] at he
          obtain ⟨rfl, rfl, rfl⟩ := he
          obtain ⟨G1, a1⟩ := lendCell_ok h hm h1.rv1 hp
          obtain ⟨G2, b1⟩ := ih h2 hq
          subst e
          refine ⟨_, LentOK.app h a1 b1 (fun k1 k2 => ⟨v, vs', _, _, rfl, rfl, k1.mono (fun b hb => lentR_l b hb), k2.mono (fun b hb => lentR_r b hb)⟩) fun w' R' ws G' ⟨z, k1, k2⟩ => ?_⟩
          simp only [backCells] at k1
          split at k1
          · rename_i ws1 hw1
            split at k1
            · rename_i ws2 hw2
              simp only [Option.some.injEq] at k1
              obtain ⟨v2, r2, G1', G2', e1, e2, k3, k4⟩ := k2
              simp only [List.cons.injEq] at e1
              obtain ⟨rfl, rfl⟩ := e1
              exact ⟨ws1, ws2, G1', G2', k1.symm, e2, ⟨_, hw1, k3⟩, ⟨_, hw2, k4⟩⟩
            · cases k1
          · cases k1
  | _ => intro ys vs hl x l wr he; cases ys <;> simp [lendCells] at he
/-- boxes that come back -/
def BoxOK (w' : World) (R' : Nat → Prop) (us : Nat → Bool) (B : Nat → Nat) : List BB → List Nat → Prop
  | [], G => G = []
  | x :: r, G => ∃ G1 G2, G = G1 ++ G2 ∧ us x.b = true ∧ (∃ arr Ty F', w'.heap[B x.b]? = some (.cells arr Ty (0, 0)) ∧ G1 = F' ++ [B x.b] ∧ RepCs w' R' x.f x.y arr.toList F') ∧ BoxOK w' R' us B r G2
theorem BoxOK.app {w' : World} {R' : Nat → Prop} {us : Nat → Bool} {B : Nat → Nat} : ∀ {l k : List BB} {G H : List Nat}, BoxOK w' R' us B l G → BoxOK w' R' us B k H → BoxOK w' R' us B (l ++ k) (G ++ H)
  | [], _, _, _, h, h' => by rw [show _ = [] from h]; exact h'
  | _ :: _, _, _, _, ⟨G1, G2, e, e1, e2, h⟩, h' => ⟨G1, _, by rw [e, List.append_assoc], e1, e2, h.app h'⟩
/-- what is lent for the arguments, and what may come back for them -/
structure LentV (w : World) (R : Nat → Prop) (s : St) (E : Env) (l wr G : List Nat) (rep : Prop) (back : World → (Nat → Prop) → List W × List BB → List Nat → Prop) : Prop where
  rep : rep
  nd : wr.Nodup → G.Nodup
  own : ∀ b, b ∈ G → ∃ n, n ∈ wr ∧ b ∈ E.F n
  us : ∀ n, n ∈ l ∨ n ∈ wr → s.us n = true
  back : wr.Nodup → ∀ (G0 : List Nat) (w' : World) (R' : Nat → Prop) (ws : List W × List BB) (G' : List Nat), Behind w R E G0 w' R' wr G → back w' R' ws G' → (∀ b, b ∈ G' → w.heap.size ≤ b ∨ b ∈ G0) → G'.Nodup →
    ∃ Gw Gb, (Gw ++ Gb).Perm G' ∧ BackOK w' R' s.st E.V E.F G0 ws.1 Gw ∧ BoxOK w' R' s.us E.B ws.2 Gb
theorem LentOK.v {l wr G : List Nat} {rep rep' : Prop} {back : World → (Nat → Prop) → List W → List Nat → Prop} {back' : World → (Nat → Prop) → List W × List BB → List Nat → Prop} (h : LentOK w R s E l wr G rep back) (hr : rep → rep') (hb : ∀ w' R' ws G', back' w' R' ws G' → ws.2 = [] ∧ back w' R' ws.1 G') : LentV w R s E l wr G rep' back' :=
  ⟨hr h.rep, h.nd, h.own, h.us, fun hw G0 w' R' ws G' hB hb' h1 h2 => by
    obtain ⟨e, h3⟩ := hb w' R' ws G' hb'
    exact ⟨G', [], by simp, h.back hw G0 w' R' ws.1 G' hB h3 h1 h2, by rw [e]; rfl⟩⟩
theorem LentV.app (h : Sim C s a w R E) {l1 l2 wr1 wr2 G1 G2 : List Nat} {rep1 rep2 rep : Prop} {b1 b2 b : World → (Nat → Prop) → List W × List BB → List Nat → Prop} (h1 : LentV w R s E l1 wr1 G1 rep1 b1) (h2 : LentV w R s E l2 wr2 G2 rep2 b2)
    (hr : rep1 → rep2 → rep) (hb : ∀ w' R' ws G', b w' R' ws G' → ∃ ws1 ws2 G1' G2', ws = (ws1.1 ++ ws2.1, ws1.2 ++ ws2.2) ∧ G' = G1' ++ G2' ∧ b1 w' R' ws1 G1' ∧ b2 w' R' ws2 G2') : LentV w R s E (l1 ++ l2) (wr1 ++ wr2) (G1 ++ G2) rep b := by
  have dj : (wr1 ++ wr2).Nodup → ∀ b, b ∈ G1 → b ∉ G2 := fun hn b hb1 hb2 => by
    obtain ⟨n, hn1, hbn⟩ := h1.own b hb1
    obtain ⟨k, hk1, hbk⟩ := h2.own b hb2
    exact h.dj n k b (fun e => (List.nodup_append.1 hn).2.2 n hn1 k hk1 e) hbn hbk
  refine ⟨hr h1.rep h2.rep, fun hn => ?_, fun b hb => ?_, fun n hn => ?_, fun hn G0 w' R' ws G' hB hbk hG hnd => ?_⟩
  · obtain ⟨a1, a2, a3⟩ := List.nodup_append.1 hn
    exact List.nodup_append.2 ⟨h1.nd a1, h2.nd a2, fun b hb b' hb' e => dj hn b hb (e ▸ hb')⟩
  · rcases List.mem_append.1 hb with hb | hb
    · obtain ⟨n, a1, a2⟩ := h1.own b hb; exact ⟨n, by simp [a1], a2⟩
    · obtain ⟨n, a1, a2⟩ := h2.own b hb; exact ⟨n, by simp [a1], a2⟩
  · simp only [List.mem_append] at hn
    rcases hn with (hn | hn) | (hn | hn)
    · exact h1.us n (.inl hn)
    · exact h2.us n (.inl hn)
    · exact h1.us n (.inr hn)
    · exact h2.us n (.inr hn)
  · obtain ⟨ws1, ws2, G1', G2', rfl, rfl, e1, e2⟩ := hb w' R' ws G' hbk
    obtain ⟨a1, a2, a3⟩ := List.nodup_append.1 hn
    obtain ⟨c1, c2, c3⟩ := List.nodup_append.1 hnd
    obtain ⟨Gw1, Gb1, p1, o1, q1⟩ := h1.back a1 G0 w' R' ws1 G1' ⟨hB.rd, fun n b hn' => hB.same n b (by simp [hn']), fun n b hn' hbn hb0 => by
      rcases List.mem_append.1 (hB.lent n b (by simp [hn']) hbn hb0) with h3 | h3
      · exact h3
      · obtain ⟨k, hk1, hbk⟩ := h2.own b h3
        exact absurd hbk (h.dj n k b (fun e => a3 n hn' k hk1 e) hbn)⟩ e1 (fun b hb => hG b (by simp [hb])) c1
    obtain ⟨Gw2, Gb2, p2, o2, q2⟩ := h2.back a2 G0 w' R' ws2 G2' ⟨hB.rd, fun n b hn' => hB.same n b (by simp [hn']), fun n b hn' hbn hb0 => by
      rcases List.mem_append.1 (hB.lent n b (by simp [hn']) hbn hb0) with h3 | h3
      · obtain ⟨k, hk1, hbk⟩ := h1.own b h3
        exact absurd hbk (h.dj n k b (fun e => a3 k hk1 n hn' e.symm) hbn)
      · exact h3⟩ e2 (fun b hb => hG b (by simp [hb])) c2
    refine ⟨Gw1 ++ Gw2, Gb1 ++ Gb2, ?_, o1.app o2, q1.app q2⟩
    refine List.Perm.trans ?_ (p1.append p2)
    simp only [List.append_assoc]
    refine List.Perm.append_left _ ?_
    rw [← List.append_assoc, ← List.append_assoc]
    exact List.Perm.append_right _ List.perm_append_comm

theorem lendBox_ok (h : Sim C s a w R E) {m : Mem} (hm : Sub m s.st) {f : Fm} {b : Nat} {v : Value} (hv : RC w R s.st s.us E (.pbox b 0) v) {cs : List AV} (hb : m b = some (.box cs)) {x : DenF f} {l wr : List Nat} (he : lendCells m f cs = some (x, l, wr)) (N : Nat) :
    ∃ G, LentV w R s E l (wr ++ [b]) G (RepBox w (lentR E R l) f x v G) (fun w' R' ws G' => ∃ z, ws = ([], [⟨b, f, z, N⟩]) ∧ RepBox w' R' f z v G') := by
  obtain ⟨hF, arr, Ty, hg, hrc⟩ := h.box (hm b _ hb)
  obtain ⟨G, hL⟩ := lendCells_ok h hm hrc he
  refine ⟨G ++ [E.B b], ⟨E.B b, arr, Ty, G, hv.2, hg, rfl, hL.rep⟩, fun hn => ?_, fun c hc => ?_, fun n hn => ?_, fun _ G0 w' R' ws G' hB hbk _ _ => ?_⟩
  · obtain ⟨a1, _, a3⟩ := List.nodup_append.1 hn
    refine List.nodup_append.2 ⟨hL.nd a1, by simp, fun c hc c' hc' e => ?_⟩
    simp only [List.mem_singleton] at hc'
    obtain ⟨n, hn1, hbn⟩ := hL.own c hc
    subst e
    subst hc'
    exact h.dj n b _ (fun e => a3 n hn1 b (by simp) e) hbn (by rw [hF]; simp)
  · rcases List.mem_append.1 hc with hc | hc
    · obtain ⟨n, h1, h2⟩ := hL.own c hc
      exact ⟨n, by simp [h1], h2⟩
    · simp only [List.mem_singleton] at hc
      subst hc
      exact ⟨b, by simp, by rw [hF]; simp⟩
  · rcases hn with hn | hn
    · exact hL.us n (.inl hn)
    · rcases List.mem_append.1 hn with hn | hn
      · exact hL.us n (.inr hn)
      · simp only [List.mem_singleton] at hn; subst hn; exact hv.1
  · obtain ⟨z, e1, b', arr', Ty', F', e2, e3, e4, h1⟩ := hbk
    rw [hv.2] at e2
    simp only [Value.pointer.injEq, Option.some.injEq, Addr.mk.injEq, and_true] at e2
    subst e2
    subst e1
    exact ⟨[], G', by simp, rfl, G', [], by simp, hv.1, ⟨arr', Ty', F', e3, e4, h1⟩, rfl⟩
theorem lendV0_ok (h : Sim C s a w R E) {m : Mem} (hm : Sub m s.st) {f : Fm} {y : AV} {v : Value} (hv : RV0 w R s.st s.us E y v) {x : DenF f} {l wr : List Nat} (he : lendV0 m f y = some (x, l, wr)) (N : Nat) :
    ∃ G, LentV w R s E l wr G (RepV0 w (lentR E R l) f x v G) (fun w' R' ws G' => ∃ z, backV m f y z N = some ws ∧ RepBV w' R' f z v G') := by
  cases f with
  | agg f =>
    cases y with
    | agg cs =>
      simp only [lendV0] at he
      obtain ⟨vs, e, h1⟩ := hv
      obtain ⟨G, a1⟩ := lendCells_ok h hm h1 he
      cases hp : f.hasPin with
      | true =>
        refine ⟨G, a1.v (fun k => ⟨vs, e, k⟩) fun w' R' ws G' ⟨z, k1, k2⟩ => ?_⟩
        simp only [backV, hp, cond_true] at k1
        simp only [RepBV, hp, if_true] at k2
        obtain ⟨vs2, e2, k3⟩ := k2
        rw [e] at e2
        have : vs = vs2 := by simpa using e2
        subst this
        split at k1
        · rename_i l' hl'
          injection k1 with k1
          subst k1
          exact ⟨rfl, z, hl', k3⟩
        · cases k1
      | false =>
        refine ⟨G, ⟨⟨vs, e, a1.rep⟩, a1.nd, a1.own, a1.us, fun hw G0 w' R' ws G' hB ⟨z, k1, k2⟩ _ _ => ?_⟩⟩
        simp only [backV, hp, cond_false, Option.some.injEq] at k1
        simp only [RepBV, hp] at k2
        subst k1
        have k2' : G' = [] := k2
        subst k2'
        exact ⟨[], [], by simp, rfl, rfl⟩
    | _ => simp [lendV0, lendCell] at he
  | bx f =>
    cases y with
    | pbox b o =>
      cases o with
      | succ o => simp [lendV0, lendCell] at he
      | zero =>
        simp only [lendV0] at he
        split at he
        · rename_i cs hb
          split at he
          · rename_i x1 l1 w1 hl
            simp only [Option.some.injEq, Prod.mk.injEq] at he
            obtain ⟨rfl, rfl, rfl⟩ := he
            obtain ⟨G, hG⟩ := lendBox_ok h hm hv hb hl N
            refine ⟨G, hG.rep, hG.nd, hG.own, hG.us, fun hw G0 w' R' ws G' hB ⟨z, k1, k2⟩ a1 a2 => hG.back hw G0 w' R' ws G' hB ⟨z, ?_, k2⟩ a1 a2⟩
            simp only [backV, Option.some.injEq] at k1
            exact k1.symm
          · cases he
        · cases he
    | _ => simp [lendV0, lendCell] at he
  | box f => simp [lendV0, lendCell] at he
  | _ =>
    simp only [lendV0] at he
    obtain ⟨G, hG⟩ := lendCell_ok h hm hv.rv1 he
    refine ⟨G, hG.v (fun k => by simp only [RepV0]; exact k) fun w' R' ws G' ⟨z, k1, k2⟩ => ?_⟩
    simp only [backV] at k1
    split at k1
    · rename_i l' hl'
      injection k1 with k1
      subst k1
      exact ⟨rfl, z, hl', by simpa only [RepBV] using k2⟩
    · cases k1
theorem lendVs0_rep (h : Sim C s a w R E) {m : Mem} (hm : Sub m s.st) : ∀ {f : Fm} {ys : List AV} {vs : List Value}, L2 (RV0 w R s.st s.us E) ys vs → ∀ {x : DenF f} {l wr : List Nat}, lendVs0 m f ys = some (x, l, wr) →
    ∃ G, LentV w R s E l wr G (RepVs0 w (lentR E R l) f x vs G) (fun w' R' ws G' => ws = ([], []) ∧ G' = []) := by
  intro f
  induction f with
  | nil =>
    intro ys vs hl x l wr he
    cases ys with
    | nil =>
      simp only [lendVs0, Option.some.injEq, Prod.mk.injEq] at he
      obtain ⟨_, rfl, rfl⟩ := he
      rw [show vs = [] from hl]
      exact ⟨[], (LentOK.plain (back := fun _ _ ws G' => ws = [] ∧ G' = []) (rep := True) trivial (by simp) fun w' R' ws G' h => h).v (fun _ => ⟨rfl, rfl⟩) fun w' R' ws G' ⟨h1, h2⟩ => by subst h1; exact ⟨rfl, rfl, h2⟩⟩
    | cons y r => simp [lendVs0] at he
  | cons f1 f2 _ ih =>
    intro ys vs hl x l wr he
    cases ys with
    | nil => simp [lendVs0] at he
    | cons y r =>
      obtain ⟨v, vs', e, h1, h2⟩ := hl
      simp only [lendVs0] at he
      cases hp : lendV0 m f1 y with
      | none => rw [hp] at he; simp at he
      | some q =>
        obtain ⟨x1, l1, w1⟩ := q
        rw [hp] at he
        simp only at he
        cases hq : lendVs0 m f2 r with
        | none => rw [hq] at he; simp at he
        | some q2 =>
          obtain ⟨x2, l2, w2⟩ := q2
          rw [hq] at he
          simp only [Option.some.injEq, Prod.mk.injEq] at he
          obtain ⟨rfl, rfl, rfl⟩ := he
          obtain ⟨G1, a1⟩ := lendV0_ok h hm h1 hp 0
          obtain ⟨G2, b1⟩ := ih h2 hq
          subst e
          have a2 : LentV w R s E l1 w1 G1 (RepV0 w (lentR E R l1) f1 x1 v G1) (fun w' R' ws G' => ws = ([], []) ∧ G' = []) := ⟨a1.rep, a1.nd, a1.own, a1.us, fun _ G0 w' R' ws G' _ ⟨e1, e2⟩ _ _ => by subst e1; subst e2; exact ⟨[], [], by simp, rfl, rfl⟩⟩
          refine ⟨_, LentV.app h a2 b1 (fun k1 k2 => ⟨v, vs', _, _, rfl, rfl, k1.mono (fun b hb => lentR_l b hb), k2.mono (fun b hb => lentR_r b hb)⟩) fun w' R' ws G' ⟨k1, k2⟩ => ?_⟩
          subst k1; subst k2
          exact ⟨([], []), ([], []), [], [], rfl, rfl, ⟨rfl, rfl⟩, rfl, rfl⟩
  | _ => intro ys vs hl x l wr he; cases ys <;> simp [lendVs0] at he
theorem lendV_ok (h : Sim C s a w R E) {m : Mem} (hm : Sub m s.st) {f : Fm} {y : AV} {v : Value} (hv : RV1 w R s.st s.us E y v) {x : DenF f} {l wr : List Nat} (he : lendV m f y = some (x, l, wr)) (N : Nat) :
    ∃ G, LentV w R s E l wr G (RepV w (lentR E R l) f x v G) (fun w' R' ws G' => ∃ z, backV m f y z N = some ws ∧ RepBV w' R' f z v G') := by
  have pl : ∀ {f : Fm} {x : DenF f}, (∀ g c, f ≠ .clo g c) → lendV m f y = some (x, l, wr) → lendV0 m f y = some (x, l, wr) := by
    intro f x hf he
    cases f <;> first | exact absurd rfl (hf _ _) | (simp only [lendV] at he; exact he)
  have r0 : ∀ {f : Fm} {x : DenF f}, lendV0 m f y = some (x, l, wr) → RV0 w R s.st s.us E y v := by
    intro f x he
    cases y with
    | clo g cs => cases f <;> simp [lendV0, lendCell] at he
    | ifc g cs => cases f <;> simp [lendV0, lendCell] at he
    | _ => exact hv
  cases f with
  | clo g c =>
    have fin : ∀ {vs : List Value} {cs : List AV}, v = .func (.func g) #[] vs.toArray → L2 (RV0 w R s.st s.us E) cs vs → lendVs0 m c cs = some (x, l, wr) → ∃ G, LentV w R s E l wr G (RepV w (lentR E R l) (.clo g c) x v G) (fun w' R' ws G' => ∃ z, backV m (.clo g c) y z N = some ws ∧ RepBV w' R' (.clo g c) z v G') := by
      intro vs cs e h1 hl
      obtain ⟨G, hG⟩ := lendVs0_rep h hm h1 hl
      refine ⟨G, ⟨vs, e, hG.rep⟩, hG.nd, hG.own, hG.us, fun hw G0 w' R' ws G' hB ⟨z, k1, k2⟩ a1 a2 => hG.back hw G0 w' R' ws G' hB ⟨?_, k2⟩ a1 a2⟩
      have hb : backCell m (.clo g c) y z = some [] := by cases y <;> rfl
      simp only [backV, hb, Option.some.injEq] at k1
      exact k1.symm
    cases y with
    | clo f' cs =>
      simp only [lendV] at he
      cases hg : Nat.beq f' g with
      | false => rw [hg] at he; simp at he
      | true =>
        rw [hg] at he
        obtain rfl := Nat.eq_of_beq_eq_true hg
        obtain ⟨vs, e, h1⟩ := hv
        exact fin e h1 he
    | fn f' =>
      simp only [lendV] at he
      cases hg : Nat.beq f' g with
      | false => rw [hg] at he; simp at he
      | true =>
        rw [hg] at he
        obtain rfl := Nat.eq_of_beq_eq_true hg
        exact fin (vs := []) (cs := []) hv rfl he
    | _ => simp [lendV, lendV0, lendCell] at he
  | ifc g c => have := pl (by simp) he; cases y <;> simp [lendV0, lendCell] at this
  | alt g c => have := pl (by simp) he; cases y <;> simp [lendV0, lendCell] at this
  | _ =>
    have he0 := pl (by simp) he
    obtain ⟨G, hG⟩ := lendV0_ok h hm (r0 he0) he0 N
    exact ⟨G, (by simp only [RepV]; exact hG.rep), hG.nd, hG.own, hG.us, hG.back⟩
theorem lendVs_ok (h : Sim C s a w R E) {m : Mem} (hm : Sub m s.st) : ∀ {f : Fm} {ys : List AV} {vs : List Value}, L2 (RV1 w R s.st s.us E) ys vs → ∀ {x : DenF f} {l wr : List Nat} (N : Nat), lendVs m f ys = some (x, l, wr) →
    ∃ G, LentV w R s E l wr G (RepVs w (lentR E R l) f x vs G) (fun w' R' ws G' => ∃ z, backVs m f ys z N = some ws ∧ RepBVs w' R' f z vs G') := by
  intro f
  induction f with
  | nil =>
    intro ys vs hl x l wr N he
    cases ys with
    | nil =>
      simp only [lendVs, Option.some.injEq, Prod.mk.injEq] at he
      obtain ⟨_, rfl, rfl⟩ := he
      rw [show vs = [] from hl]
      exact ⟨[], (LentOK.plain (back := fun _ _ ws G' => ws = [] ∧ G' = []) (rep := True) trivial (by simp) fun w' R' ws G' h => h).v (fun _ => ⟨rfl, rfl⟩) fun w' R' ws G' ⟨z, h1, h2⟩ => by simp only [backVs, Option.some.injEq] at h1; subst h1; exact ⟨rfl, rfl, h2.2⟩⟩
    | cons y r => simp [lendVs] at he
  | cons f1 f2 _ ih =>
    intro ys vs hl x l wr N he
    cases ys with
    | nil => simp [lendVs] at he
    | cons y r =>
      obtain ⟨v, vs', e, h1, h2⟩ := hl
      simp only [lendVs] at he
      cases hp : lendV m f1 y with
      | none => rw [hp] at he; simp at he
      | some q =>
        obtain ⟨x1, l1, w1⟩ := q
        rw [hp] at he
        simp only at he
        cases hq : lendVs m f2 r with
        | none => rw [hq] at he; simp at he
        | some q2 =>
          obtain ⟨x2, l2, w2⟩ := q2
          rw [hq] at he
          simp only [Option.some.injEq, Prod.mk.injEq] at he
          obtain ⟨rfl, rfl, rfl⟩ := he
          obtain ⟨G1, a1⟩ := lendV_ok h hm h1 hp N
          obtain ⟨G2, b1⟩ := ih h2 (N + 16) hq
          subst e
          refine ⟨_, LentV.app h a1 b1 (fun k1 k2 => ⟨v, vs', _, _, rfl, rfl, k1.mono (fun b hb => lentR_l b hb), k2.mono (fun b hb => lentR_r b hb)⟩) fun w' R' ws G' ⟨z, k1, k2⟩ => ?_⟩
          simp only [backVs] at k1
          split at k1
          · rename_i ws1 hw1
            split at k1
            · rename_i ws2 hw2
              simp only [Option.some.injEq] at k1
              obtain ⟨v2, r2, G1', G2', e1, e2, k3, k4⟩ := k2
              simp only [List.cons.injEq] at e1
              obtain ⟨rfl, rfl⟩ := e1
              exact ⟨ws1, ws2, G1', G2', k1.symm, e2, ⟨_, hw1, k3⟩, ⟨_, hw2, k4⟩⟩
            · cases k1
          · cases k1
  | _ => intro ys vs hl x l wr N he; cases ys <;> simp [lendVs] at he
end Go.Ev

set_option autoImplicit false
set_option linter.unusedVariables false
namespace Go.Ev
variable {P : Program} {T : Tab} {C : Ctx} {s : St} {a : Act} {w : World} {R : Nat → Prop} {E : Env}

theorem Move.trans {w1 w2 w3 : World} {R1 R2 R3 : Nat → Prop} {m1 m2 m3 : Mem} {u1 u2 u3 : Nat → Bool} {E1 E2 E3 : Env} (h : Move w1 R1 m1 u1 E1 w2 R2 m2 u2 E2) (k : Move w2 R2 m2 u2 E2 w3 R3 m3 u3 E3) : Move w1 R1 m1 u1 E1 w3 R3 m3 u3 E3 := by
  refine ⟨fun n hn => k.fus n (h.fus n hn), fun n hn => ?_, fun b hb => ?_, fun n q3 hn hq => ?_⟩
  · obtain ⟨a1, a2, a3, a4⟩ := h.nm n hn
    obtain ⟨b1, b2, b3, b4⟩ := k.nm n (h.fus n hn)
    exact ⟨b1.trans a1, b2.trans a2, b3.trans a3, b4.trans a4⟩
  · obtain ⟨h1, h2⟩ := h.fR b hb
    obtain ⟨k1, k2⟩ := k.fR b h1
    exact ⟨k1, k2.trans h2⟩
  · obtain ⟨q2, e2, l2, f2⟩ := k.ver n q3 (h.fus n hn) hq
    obtain ⟨q1, e1, l1, f1⟩ := h.ver n q2 hn e2
    refine ⟨q1, e1, Nat.le_trans l1 l2, fun e b hb => ?_⟩
    have e12 : q1.ver = q2.ver := by omega
    have e23 : q2.ver = q3.ver := by omega
    obtain ⟨g1, g2⟩ := f1 e12 b hb
    rcases g1 with g1 | g1
    · obtain ⟨k1, k2⟩ := k.fR b g1
      exact ⟨.inl k1, k2.trans g2⟩
    · obtain ⟨k1, k2⟩ := f2 e23 b g1
      exact ⟨k1, k2.trans g2⟩
theorem Move.refl (w : World) (R : Nat → Prop) (m : Mem) (us : Nat → Bool) (E : Env) : Move w R m us E w R m us E :=
  ⟨fun _ h => h, fun _ _ => ⟨rfl, rfl, rfl, rfl⟩, fun b hb => ⟨hb, rfl⟩, fun n q' _ hq => ⟨q', hq, Nat.le_refl _, fun _ b hb => ⟨.inr hb, rfl⟩⟩⟩

theorem Rp.anyR {w : World} {R R' : Nat → Prop} : ∀ {t : CT} {x : Den t} {cs : List Value} {F : List Nat}, Rp w R true t x cs F → Rp w R' true t x cs F
  | .int _, _, _, _, h => h
  | .bool, _, _, _, h => h
  | .str, _, _, _, h => h
  | .sl e t, x, cs, F, ⟨v, ds, Fi, e1, h1, e2, h2⟩ => by
    have go : ∀ (l : List (Den t)) (ds : List Value) (G : List Nat), All (Rp w R true t) l ds G → All (Rp w R' true t) l ds G := by
      intro l
      induction l with
      | nil => intro ds G h; exact h
      | cons y r ih =>
        rintro ds G ⟨c1, c2, F1, F2, e1, e2, h1, h2⟩
        exact ⟨c1, c2, F1, F2, e1, e2, h1.anyR, ih _ _ h2⟩
    exact ⟨v, ds, Fi, e1, h1, e2, go _ _ _ h2⟩
  | .nil, _, _, _, h => h
  | .cons a b, x, cs, F, ⟨c1, c2, F1, F2, e1, e2, h1, h2⟩ => ⟨c1, c2, F1, F2, e1, e2, h1.anyR, h2.anyR⟩
theorem RepC.anyR {R' : Nat → Prop} {f : Fm} {x : DenF f} {v : Value} {F : List Nat} (hi : f.hasImm = false) (h : RepC w R f x v F) : RepC w R' f x v F := by
  cases f with
  | int | bool | str | mp => exact h
  | sl e t => simp [Fm.hasImm] at hi
  | ptr t => simp [Fm.hasImm] at hi
  | own e t d =>
    obtain ⟨ds, Fi, h1, h2, h3⟩ := h
    simp only [Fm.hasImm, Bool.and_eq_false_iff, Bool.not_eq_false'] at hi
    rcases hi with hd | ht
    · subst hd
      exact ⟨ds, Fi, h1, h2, h3.imp fun x c G _ _ hp => hp.anyR⟩
    · have hf := (All.flatT (d' := d) ht h3).1
      subst hf
      exact ⟨ds, [], h1, h2, h3.flatAny ht⟩
  | pin k e t d =>
    obtain ⟨ds, Fi, h1, h2, h3⟩ := h
    simp only [Fm.hasImm, Bool.and_eq_false_iff, Bool.not_eq_false'] at hi
    rcases hi with hd | ht
    · subst hd
      exact ⟨ds, Fi, h1, h2, h3.imp fun x c G _ _ hp => hp.anyR⟩
    · have hf := (All.flatT (d' := d) ht h3).1
      subst hf
      exact ⟨ds, [], h1, h2, h3.flatAny ht⟩
  | _ => exact h.elim
theorem RepCs.anyR {R' : Nat → Prop} {f : Fm} : ∀ {x : DenF f} {v : List Value} {F : List Nat}, f.hasImm = false → RepCs w R f x v F → RepCs w R' f x v F := by
  induction f with
  | nil => intro x v F _ h; exact h
  | cons a b _ ih =>
    rintro x v F hi ⟨v, r, F1, F2, e1, e2, h1, h2⟩
    simp only [Fm.hasImm, Bool.or_eq_false_iff] at hi
    exact ⟨v, r, F1, F2, e1, e2, h1.anyR hi.1, ih hi.2 h2⟩
  | _ => intro x v F _ h; exact h.elim
theorem RepBox.anyR {R' : Nat → Prop} {f : Fm} {x : DenF f} {v : Value} {F : List Nat} (hi : f.hasImm = false) (h : RepBox w R f x v F) : RepBox w R' f x v F := by
  obtain ⟨b, arr, Ty, F', e1, e2, e3, h⟩ := h; exact ⟨b, arr, Ty, F', e1, e2, e3, h.anyR hi⟩
theorem RepV0.anyR {R' : Nat → Prop} {f : Fm} {x : DenF f} {v : Value} {F : List Nat} (hi : f.hasImm = false) (h : RepV0 w R f x v F) : RepV0 w R' f x v F := by
  cases f with
  | agg f => obtain ⟨vs, e, h⟩ := h; exact ⟨vs, e, h.anyR hi⟩
  | box f => exact RepBox.anyR hi h
  | bx f => exact RepBox.anyR hi h
  | _ => simp only [RepV0] at h ⊢; exact RepC.anyR hi h
theorem RepVs0.anyR {R' : Nat → Prop} {f : Fm} : ∀ {x : DenF f} {v : List Value} {F : List Nat}, f.hasImm = false → RepVs0 w R f x v F → RepVs0 w R' f x v F := by
  induction f with
  | nil => intro x v F _ h; exact h
  | cons a b _ ih =>
    rintro x v F hi ⟨v, r, F1, F2, e1, e2, h1, h2⟩
    simp only [Fm.hasImm, Bool.or_eq_false_iff] at hi
    exact ⟨v, r, F1, F2, e1, e2, h1.anyR hi.1, ih hi.2 h2⟩
  | _ => intro x v F _ h; exact h.elim
theorem RepV.anyR {R' : Nat → Prop} {f : Fm} : ∀ {x : DenF f} {v : Value} {F : List Nat}, f.hasImm = false → RepV w R f x v F → RepV w R' f x v F := by
  induction f with
  | clo f c _ => rintro x v F hi ⟨vs, e, h⟩; exact ⟨vs, e, h.anyR hi⟩
  | ifc X f _ => rintro x v F hi ⟨vs, e, h⟩; exact ⟨vs, e, h.anyR hi⟩
  | alt a b iha ihb =>
    intro x v F hi h
    simp only [Fm.hasImm, Bool.or_eq_false_iff] at hi
    cases x with
    | inl y => exact iha hi.1 h
    | inr y => exact ihb hi.2 h
  | _ => intro x v F hi h; simp only [RepV] at h ⊢; exact RepV0.anyR hi h
theorem RepVs.anyR {R' : Nat → Prop} {f : Fm} : ∀ {x : DenF f} {v : List Value} {F : List Nat}, f.hasImm = false → RepVs w R f x v F → RepVs w R' f x v F := by
  induction f with
  | nil => intro x v F _ h; exact h
  | cons a b _ ih =>
    rintro x v F hi ⟨v, r, F1, F2, e1, e2, h1, h2⟩
    simp only [Fm.hasImm, Bool.or_eq_false_iff] at hi
    exact ⟨v, r, F1, F2, e1, e2, h1.anyR hi.1, ih hi.2 h2⟩
  | _ => intro x v F _ h; exact h.elim
theorem RepR.anyR {R' : Nat → Prop} {f : Fm} {x : DenF f} {v : Value} {F : List Nat} (hi : f.hasImm = false) (h : RepR w R f x v F) : RepR w R' f x v F := by
  cases f with
  | tup f => obtain ⟨vs, e, h⟩ := h; exact ⟨vs, e, h.anyR hi⟩
  | _ => simp only [RepR] at h ⊢; exact RepV.anyR hi h
theorem RepBC.anyR {R' : Nat → Prop} {f : Fm} {x : DenB f} {v : Value} {F : List Nat} (hi : f.immB = false) (h : RepBC w R f x v F) : RepBC w R' f x v F := by
  cases f with
  | pin k e t d =>
    obtain ⟨ds, Fi, h1, h2, h3⟩ := h
    simp only [Fm.immB, Bool.and_eq_false_iff, Bool.not_eq_false'] at hi
    rcases hi with hd | ht
    · subst hd
      exact ⟨ds, Fi, h1, h2, h3.imp fun x c G _ _ hp => hp.anyR⟩
    · have hf := (All.flatT (d' := d) ht h3).1
      subst hf
      exact ⟨ds, [], h1, h2, h3.flatAny ht⟩
  | _ => exact h
theorem RepBCs.anyR {R' : Nat → Prop} {f : Fm} : ∀ {x : DenB f} {v : List Value} {F : List Nat}, f.immB = false → RepBCs w R f x v F → RepBCs w R' f x v F := by
  induction f with
  | nil => intro x v F _ h; exact h
  | cons a b _ ih =>
    rintro x v F hi ⟨v, r, F1, F2, e1, e2, h1, h2⟩
    simp only [Fm.immB, Bool.or_eq_false_iff] at hi
    exact ⟨v, r, F1, F2, e1, e2, h1.anyR hi.1, ih hi.2 h2⟩
  | _ => intro x v F _ h; exact h.elim
theorem RepBV.anyR {R' : Nat → Prop} {f : Fm} {x : DenB f} {v : Value} {F : List Nat} (hi : f.immB = false) (h : RepBV w R f x v F) : RepBV w R' f x v F := by
  cases f with
  | agg f =>
    simp only [Fm.immB] at hi
    simp only [RepBV] at h ⊢
    by_cases hp : f.hasPin = true
    · rw [if_pos hp] at h ⊢
      obtain ⟨vs, e, h⟩ := h; exact ⟨vs, e, h.anyR hi⟩
    · rw [if_neg hp] at h ⊢
      exact h
  | bx f => exact RepBox.anyR hi h
  | _ => simp only [RepBV] at h ⊢; exact RepBC.anyR hi h
theorem RepBVs.anyR {R' : Nat → Prop} {f : Fm} : ∀ {x : DenB f} {v : List Value} {F : List Nat}, f.immB = false → RepBVs w R f x v F → RepBVs w R' f x v F := by
  induction f with
  | nil => intro x v F _ h; exact h
  | cons a b _ ih =>
    rintro x v F hi ⟨v, r, F1, F2, e1, e2, h1, h2⟩
    simp only [Fm.immB, Bool.or_eq_false_iff] at hi
    exact ⟨v, r, F1, F2, e1, e2, h1.anyR hi.1, ih hi.2 h2⟩
  | _ => intro x v F _ h; exact h.elim

/-! results become names -/
theorem freshOk_app : ∀ (l k : List W) (s : St), freshOk s.us (l ++ k) = (freshOk s.us l && freshOk (s.write l).us k)
  | [], _, _ => rfl
  | x :: r, k, s => by
    obtain ⟨n, e, nw⟩ := x
    cases nw with
    | false =>
      have ih := freshOk_app r k ({ s with st := upd s.st n e } : St)
      have : s.write (⟨n, e, false⟩ :: r) = ({ s with st := upd s.st n e } : St).write r := by simp [St.write, upd_self]
      rw [this]
      simpa [freshOk] using ih
    | true =>
      have ih := freshOk_app r k ({ s with st := upd s.st n e, us := upd s.us n true } : St)
      have : s.write (⟨n, e, true⟩ :: r) = ({ s with st := upd s.st n e, us := upd s.us n true } : St).write r := by simp [St.write]
      rw [this]
      cases hu : s.us n with
      | true => simp [freshOk, hu]
      | false => simpa [freshOk, hu] using ih

structure Own (C : Ctx) (w : World) (R : Nat → Prop) (E : Env) (F : List Nat) : Prop where
  nd : F.Nodup
  out : ∀ b, b ∈ F → ¬ R b ∧ (C.w0.heap.size ≤ b ∨ b ∈ C.F0) ∧ b < w.heap.size ∧ ∀ k, b ∉ E.F k
theorem Own.l {F1 F2 : List Nat} (h : Own C w R E (F1 ++ F2)) : Own C w R E F1 := ⟨(List.nodup_append.1 h.nd).1, fun b hb => h.out b (by simp [hb])⟩
theorem Own.r {F1 F2 : List Nat} (h : Own C w R E (F1 ++ F2)) {E' : Env} (he : ∀ k b, b ∈ E'.F k → b ∈ E.F k ∨ b ∈ F1) : Own C w R E' F2 :=
  ⟨(List.nodup_append.1 h.nd).2.1, fun b hb => by
    obtain ⟨h1, h2, h3, h4⟩ := h.out b (by simp [hb])
    refine ⟨h1, h2, h3, fun k hk => ?_⟩
    rcases he k b hk with hk | hk
    · exact h4 k hk
    · exact (List.nodup_append.1 h.nd).2.2 b hk b hb rfl⟩

/-- what a result's part comes to -/
def Out (C : Ctx) (s : St) (a : Act) (w : World) (R : Nat → Prop) (E : Env) (F : List Nat) (ws : List W) (q : Mem → (Nat → Bool) → Env → Prop) : Prop :=
  ∃ E', Sim C (s.write ws) a w R E' ∧ Move w R s.st s.us E w R (s.write ws).st (s.write ws).us E' ∧ (∀ k b, b ∈ E'.F k → b ∈ E.F k ∨ b ∈ F) ∧ q (s.write ws).st (s.write ws).us E'
theorem Out.same (h : Sim C s a w R E) {q : Mem → (Nat → Bool) → Env → Prop} (hq : q s.st s.us E) : Out C s a w R E [] [] q := ⟨E, h, Move.refl .., fun k b hb => .inl hb, hq⟩

theorem outCell_ok (h : Sim C s a w R E) {f : Fm} {x : DenF f} {v : Value} {F : List Nat} (hr : RepC w R f x v F) (ho : Own C w R E F) (n : Nat) (hf : freshOk s.us (outCell f x n).2 = true) :
    Out C s a w R E F (outCell f x n).2 fun m us E' => RC w R m us E' (outCell f x n).1 v := by
  cases f with
  | int k => obtain ⟨rfl, rfl⟩ := hr; exact Out.same h rfl
  | bool => obtain ⟨rfl, rfl⟩ := hr; exact Out.same h rfl
  | str => obtain ⟨rfl, rfl⟩ := hr; exact Out.same h rfl
  | sl e t =>
    obtain ⟨hr, rfl⟩ := hr
    obtain ⟨A, c, ds, e1, e2, h2, h3⟩ := hr
    exact Out.same h ⟨trivial, ⟨A, _, c, e1⟩, fun _ => ⟨A, c, ds, by rw [e1], rfl, e2, h2, h3⟩, fun _ => trivial⟩
  | own e t d =>
    obtain ⟨ds, Fi, h1, rfl, h3⟩ := hr
    have hn : s.us n = false := fresh1 hf
    have h2 := h.add n hn (.root ⟨e, t, x, d, false, 0⟩) v (v.ownBlock.toList ++ Fi) 0 x.length t.sz (fun b hb => ⟨(ho.out b hb).1, (ho.out b hb).2.2.1, (ho.out b hb).2.1⟩) ho.nd (fun k b hb => (ho.out b hb).2.2.2 k) (fun m us E' mv hus hE hm => by
      subst hE; subst hm
      unfold SR
      rw [upd_at]
      refine ⟨by simp [Env.add, upd_at], by simp [Env.add, upd_at], ds, Fi, ?_, ?_, h3⟩
      · simp only [Env.add, upd_at]; exact h1
      · simp only [Env.add, upd_at])
    have hne : ∀ k, s.us k = true → k ≠ n := fun k hk e => by subst e; rw [hn] at hk; cases hk
    have mv : Move w R s.st s.us E w R (upd s.st n (some (.root ⟨e, t, x, d, false, 0⟩))) (upd s.us n true) (E.add n v (v.ownBlock.toList ++ Fi) 0 x.length t.sz) := by
      refine ⟨fun k hk => by rw [upd_ne _ _ (hne k hk)]; exact hk, fun k hk => ?_, fun b hb' => ⟨hb', rfl⟩, fun k q' hk hq => ?_⟩
      · have := hne k hk
        exact ⟨upd_ne _ _ this, upd_ne _ _ this, upd_ne _ _ this, upd_ne _ _ this⟩
      · have hk' := hne k hk
        rw [upd_ne _ _ hk'] at hq
        refine ⟨q', hq, Nat.le_refl _, fun _ b hb' => ⟨.inr ?_, rfl⟩⟩
        show b ∈ upd E.F n _ k
        rw [upd_ne _ _ hk']
        exact hb'
    unfold Out outCell
    simp only [write_new]
    refine ⟨_, h2, mv, fun k b hb => ?_, upd_at .., by simp [Env.add, upd_at], ?_⟩
    · by_cases hk : k = n
      · subst hk
        simp only [Env.add, upd_at] at hb
        exact .inr hb
      · simp only [Env.add] at hb
        rw [upd_ne _ _ hk] at hb
        exact .inl hb
    · rcases h1.2 with ⟨e, _⟩ | ⟨g, cap, cur, e, _⟩
      · exact ⟨_, _, _, e⟩
      · exact ⟨_, _, _, e⟩
  | pin _ e t d =>
    obtain ⟨ds, Fi, h1, rfl, h3⟩ := hr
    have hn : s.us n = false := fresh1 hf
    have h2 := h.add n hn (.root ⟨e, t, x, d, false, 0⟩) v (v.ownBlock.toList ++ Fi) 0 x.length t.sz (fun b hb => ⟨(ho.out b hb).1, (ho.out b hb).2.2.1, (ho.out b hb).2.1⟩) ho.nd (fun k b hb => (ho.out b hb).2.2.2 k) (fun m us E' mv hus hE hm => by
      subst hE; subst hm
      unfold SR
      rw [upd_at]
      refine ⟨by simp [Env.add, upd_at], by simp [Env.add, upd_at], ds, Fi, ?_, ?_, h3⟩
      · simp only [Env.add, upd_at]; exact h1
      · simp only [Env.add, upd_at])
    have hne : ∀ k, s.us k = true → k ≠ n := fun k hk e => by subst e; rw [hn] at hk; cases hk
    have mv : Move w R s.st s.us E w R (upd s.st n (some (.root ⟨e, t, x, d, false, 0⟩))) (upd s.us n true) (E.add n v (v.ownBlock.toList ++ Fi) 0 x.length t.sz) := by
      refine ⟨fun k hk => by rw [upd_ne _ _ (hne k hk)]; exact hk, fun k hk => ?_, fun b hb' => ⟨hb', rfl⟩, fun k q' hk hq => ?_⟩
      · have := hne k hk
        exact ⟨upd_ne _ _ this, upd_ne _ _ this, upd_ne _ _ this, upd_ne _ _ this⟩
      · have hk' := hne k hk
        rw [upd_ne _ _ hk'] at hq
        refine ⟨q', hq, Nat.le_refl _, fun _ b hb' => ⟨.inr ?_, rfl⟩⟩
        show b ∈ upd E.F n _ k
        rw [upd_ne _ _ hk']
        exact hb'
    unfold Out outCell
    simp only [write_new]
    refine ⟨_, h2, mv, fun k b hb => ?_, upd_at .., by simp [Env.add, upd_at], ?_⟩
    · by_cases hk : k = n
      · subst hk
        simp only [Env.add, upd_at] at hb
        exact .inr hb
      · simp only [Env.add] at hb
        rw [upd_ne _ _ hk] at hb
        exact .inl hb
    · rcases h1.2 with ⟨e, _⟩ | ⟨g, cap, cur, e, _⟩
      · exact ⟨_, _, _, e⟩
      · exact ⟨_, _, _, e⟩
  | mp =>
    obtain ⟨g, arr, rfl, hg, ha, rfl⟩ := hr
    have hn : s.us n = false := fresh1 hf
    have h2 := h.add n hn (.mp x) undef [g] g 0 0 (fun b hb => ⟨(ho.out b hb).1, (ho.out b hb).2.2.1, (ho.out b hb).2.1⟩) ho.nd (fun k b hb => (ho.out b hb).2.2.2 k) (fun m us E' mv hus hE hm => by
      subst hE; subst hm
      unfold SR
      rw [upd_at]
      refine ⟨by simp [Env.add, upd_at], arr, ?_, ha⟩
      simp only [Env.add, upd_at]
      exact hg)
    have hne : ∀ k, s.us k = true → k ≠ n := fun k hk e => by subst e; rw [hn] at hk; cases hk
    have mv : Move w R s.st s.us E w R (upd s.st n (some (.mp x))) (upd s.us n true) (E.add n undef [g] g 0 0) := by
      refine ⟨fun k hk => by rw [upd_ne _ _ (hne k hk)]; exact hk, fun k hk => ?_, fun b hb' => ⟨hb', rfl⟩, fun k q' hk hq => ?_⟩
      · have := hne k hk
        exact ⟨upd_ne _ _ this, upd_ne _ _ this, upd_ne _ _ this, upd_ne _ _ this⟩
      · have hk' := hne k hk
        rw [upd_ne _ _ hk'] at hq
        refine ⟨q', hq, Nat.le_refl _, fun _ b hb' => ⟨.inr ?_, rfl⟩⟩
        show b ∈ upd E.F n _ k
        rw [upd_ne _ _ hk']
        exact hb'
    unfold Out outCell
    simp only [write_new]
    refine ⟨_, h2, mv, fun k b hb => ?_, upd_at .., by simp [Env.add, upd_at]⟩
    by_cases hk : k = n
    · subst hk
      simp only [Env.add, upd_at] at hb
      exact .inr hb
    · simp only [Env.add] at hb
      rw [upd_ne _ _ hk] at hb
      exact .inl hb
  | ptr t =>
    obtain ⟨⟨ad, ds, h1, h2, h3, h4⟩, rfl⟩ := hr
    exact Out.same h ⟨trivial, ⟨_, h1⟩, fun _ => ⟨ad, ds, h1, h2, h3, h4⟩⟩
  | _ => exact hr.elim
theorem Out.app {F1 F2 : List Nat} {w1 w2 : List W} {q1 q2 q : Mem → (Nat → Bool) → Env → Prop} (h1 : Out C s a w R E F1 w1 q1) (h2 : ∀ E', Sim C (s.write w1) a w R E' → (∀ k b, b ∈ E'.F k → b ∈ E.F k ∨ b ∈ F1) → Out C (s.write w1) a w R E' F2 w2 q2)
    (hq : ∀ m us E1 m' us' E2, Move w R m us E1 w R m' us' E2 → q1 m us E1 → q2 m' us' E2 → q m' us' E2) : Out C s a w R E (F1 ++ F2) (w1 ++ w2) q := by
  obtain ⟨E1, s1, m1, f1, k1⟩ := h1
  obtain ⟨E2, s2, m2, f2, k2⟩ := h2 E1 s1 f1
  unfold Out
  simp only [write_app]
  refine ⟨E2, s2, m1.trans m2, fun k b hb => ?_, hq _ _ _ _ _ _ m2 k1 k2⟩
  rcases f2 k b hb with hb | hb
  · rcases f1 k b hb with hb | hb
    · exact .inl hb
    · exact .inr (by simp [hb])
  · exact .inr (by simp [hb])
theorem outCells_ok : ∀ {f : Fm} {s : St} {E : Env} (h : Sim C s a w R E) {x : DenF f} {vs : List Value} {F : List Nat} (hr : RepCs w R f x vs F) (ho : Own C w R E F) (n : Nat) (hf : freshOk s.us (outCells f x n).2 = true),
    Out C s a w R E F (outCells f x n).2 fun m us E' => L2 (RC w R m us E') (outCells f x n).1 vs := by
  intro f
  induction f with
  | nil => intro s E h x vs F hr ho n hf; obtain ⟨rfl, rfl⟩ := hr; exact Out.same h rfl
  | cons f1 f2 _ ih =>
    intro s E h x vs F hr ho n hf
    obtain ⟨v, r, F1, F2, rfl, rfl, h1, h2⟩ := hr
    simp only [outCells, freshOk_app, Bool.and_eq_true] at hf
    exact Out.app (outCell_ok h h1 ho.l n hf.1) (fun E' hs he => ih hs h2 (ho.r he) (n + 1) hf.2) (fun m us E1 m' us' E2 mv k1 k2 => ⟨v, r, rfl, RC.move mv k1, k2⟩)
  | _ => intro s E h x vs F hr; exact hr.elim
theorem out_box (h : Sim C s a w R E) {n b : Nat} {cs : List AV} {arr : Array Value} {Ty : TypeId} (hb : w.heap[b]? = some (.cells arr Ty (0, 0))) (hc : L2 (RC w R s.st s.us E) cs arr.toList) (ho : Own C w R E [b]) (hf : freshOk s.us [⟨n, some (.box cs), true⟩] = true) :
    Out C s a w R E [b] [⟨n, some (.box cs), true⟩] fun m us E' => RV0 w R m us E' (.pbox n 0) (.pointer (some ⟨b, 0, none⟩)) := by
  have hn : s.us n = false := fresh1 hf
  have h2 := h.add n hn (.box cs) undef [b] b 0 0 (fun b hb => ⟨(ho.out b hb).1, (ho.out b hb).2.2.1, (ho.out b hb).2.1⟩) ho.nd (fun k b hb => (ho.out b hb).2.2.2 k) (fun m us E' mv hus hE hm => by
    subst hE; subst hm
    unfold SR
    rw [upd_at]
    refine ⟨by simp [Env.add, upd_at], arr, Ty, by simp only [Env.add, upd_at]; exact hb, hc.imp fun _ _ => RC.move mv⟩)
  have hne : ∀ k, s.us k = true → k ≠ n := fun k hk e => by subst e; rw [hn] at hk; cases hk
  have mv : Move w R s.st s.us E w R (upd s.st n (some (.box cs))) (upd s.us n true) (E.add n undef [b] b 0 0) := by
    refine ⟨fun k hk => by rw [upd_ne _ _ (hne k hk)]; exact hk, fun k hk => ?_, fun b hb' => ⟨hb', rfl⟩, fun k q' hk hq => ?_⟩
    · have := hne k hk
      exact ⟨upd_ne _ _ this, upd_ne _ _ this, upd_ne _ _ this, upd_ne _ _ this⟩
    · have hk' := hne k hk
      rw [upd_ne _ _ hk'] at hq
      refine ⟨q', hq, Nat.le_refl _, fun _ b hb' => ⟨.inr ?_, rfl⟩⟩
      show b ∈ upd E.F n _ k
      rw [upd_ne _ _ hk']
      exact hb'
  unfold Out
  simp only [write_new]
  refine ⟨_, h2, mv, fun k b' hb' => ?_, upd_at .., by simp [Env.add, upd_at]⟩
  by_cases hk : k = n
  · subst hk
    simp only [Env.add, upd_at] at hb'
    exact .inr hb'
  · simp only [Env.add] at hb'
    rw [upd_ne _ _ hk] at hb'
    exact .inl hb'
theorem outV0_ok {f : Fm} (h : Sim C s a w R E) {x : DenF f} {v : Value} {F : List Nat} (hr : RepV0 w R f x v F) (ho : Own C w R E F) (n : Nat) (hf : freshOk s.us (outV0 f x n).2 = true) :
    Out C s a w R E F (outV0 f x n).2 fun m us E' => RV0 w R m us E' (outV0 f x n).1 v := by
  have bx : ∀ {f : Fm} {x : DenF f}, RepBox w R f x v F → freshOk s.us ((outCells f x (n + 1)).2 ++ [⟨n, some (.box (outCells f x (n + 1)).1), true⟩]) = true →
      Out C s a w R E F ((outCells f x (n + 1)).2 ++ [⟨n, some (.box (outCells f x (n + 1)).1), true⟩]) fun m us E' => RV0 w R m us E' (.pbox n 0) v := by
    intro f x hr hf
    obtain ⟨b, arr, Ty, F', e1, e2, e3, hrr⟩ := hr
    subst e3
    subst e1
    simp only [freshOk_app, Bool.and_eq_true] at hf
    obtain ⟨E1, s1, m1, f1, k1⟩ := outCells_ok h hrr ho.l (n + 1) hf.1
    obtain ⟨E2, s2, m2, f2, k2⟩ := out_box s1 e2 k1 (ho.r f1) hf.2
    refine ⟨E2, by rw [write_app]; exact s2, by rw [write_app]; exact m1.trans m2, fun k b' hb' => ?_, by rw [write_app]; exact k2⟩
    rcases f2 k b' hb' with h | h
    · rcases f1 k b' h with h | h
      · exact .inl h
      · exact .inr (by simp [h])
    · exact .inr (List.mem_append.2 (.inr h))
  cases f with
  | agg f =>
    obtain ⟨vs, e, hr⟩ := hr
    obtain ⟨E', h1, h2, h3, h4⟩ := outCells_ok h hr ho n hf
    exact ⟨E', h1, h2, h3, vs, e, h4⟩
  | box f => exact bx hr hf
  | bx f => exact bx hr hf
  | _ =>
    simp only [RepV0] at hr
    simp only [outV0] at hf ⊢
    obtain ⟨E', h1, h2, h3, h4⟩ := outCell_ok h hr ho n hf
    exact ⟨E', h1, h2, h3, h4.rv0⟩
theorem outVs0_ok : ∀ {f : Fm} {s : St} {E : Env} (h : Sim C s a w R E) {x : DenF f} {vs : List Value} {F : List Nat} (hr : RepVs0 w R f x vs F) (ho : Own C w R E F) (n : Nat) (hf : freshOk s.us (outVs0 f x n).2 = true),
    Out C s a w R E F (outVs0 f x n).2 fun m us E' => L2 (RV0 w R m us E') (outVs0 f x n).1 vs := by
  intro f
  induction f with
  | nil => intro s E h x vs F hr ho n hf; obtain ⟨rfl, rfl⟩ := hr; exact Out.same h rfl
  | cons f1 f2 _ ih =>
    intro s E h x vs F hr ho n hf
    obtain ⟨v, r, F1, F2, rfl, rfl, h1, h2⟩ := hr
    simp only [outVs0, freshOk_app, Bool.and_eq_true] at hf
    exact Out.app (outV0_ok h h1 ho.l n hf.1) (fun E' hs he => ih hs h2 (ho.r he) (n + 16) hf.2) (fun m us E1 m' us' E2 mv k1 k2 => ⟨v, r, rfl, RV0.move mv k1, k2⟩)
  | _ => intro s E h x vs F hr; exact hr.elim
theorem outV_ok {f : Fm} (h : Sim C s a w R E) : ∀ {x : DenF f} {v : Value} {F : List Nat} (hr : RepV w R f x v F) (ho : Own C w R E F) (n : Nat) (hf : freshOk s.us (outV f x n).2 = true),
    Out C s a w R E F (outV f x n).2 fun m us E' => RV1 w R m us E' (outV f x n).1 v := by
  induction f with
  | clo f c _ =>
    rintro x v F ⟨vs, e, hr⟩ ho n hf
    obtain ⟨E', h1, h2, h3, h4⟩ := outVs0_ok h hr ho n hf
    exact ⟨E', h1, h2, h3, vs, e, h4⟩
  | ifc X f _ =>
    rintro x v F ⟨vs, e, hr⟩ ho n hf
    obtain ⟨E', h1, h2, h3, h4⟩ := outCells_ok h hr ho n hf
    exact ⟨E', h1, h2, h3, vs, e, h4⟩
  | alt a b iha ihb =>
    intro x v F hr ho n hf
    cases x with
    | inl y => exact iha hr ho n hf
    | inr y => exact ihb hr ho n hf
  | _ =>
    intro x v F hr ho n hf
    simp only [RepV] at hr
    simp only [outV] at hf ⊢
    obtain ⟨E', h1, h2, h3, h4⟩ := outV0_ok h hr ho n hf
    exact ⟨E', h1, h2, h3, h4.rv1⟩
theorem outVs_ok : ∀ {f : Fm} {s : St} {E : Env} (h : Sim C s a w R E) {x : DenF f} {vs : List Value} {F : List Nat} (hr : RepVs w R f x vs F) (ho : Own C w R E F) (n : Nat) (hf : freshOk s.us (outVs f x n).2 = true),
    Out C s a w R E F (outVs f x n).2 fun m us E' => L2 (RV1 w R m us E') (outVs f x n).1 vs := by
  intro f
  induction f with
  | nil => intro s E h x vs F hr ho n hf; obtain ⟨rfl, rfl⟩ := hr; exact Out.same h rfl
  | cons f1 f2 _ ih =>
    intro s E h x vs F hr ho n hf
    obtain ⟨v, r, F1, F2, rfl, rfl, h1, h2⟩ := hr
    simp only [outVs, freshOk_app, Bool.and_eq_true] at hf
    exact Out.app (outV_ok h h1 ho.l n hf.1) (fun E' hs he => ih hs h2 (ho.r he) (n + 16) hf.2) (fun m us E1 m' us' E2 mv k1 k2 => ⟨v, r, rfl, RV1.move mv k1, k2⟩)
  | _ => intro s E h x vs F hr; exact hr.elim
theorem RV1.rv {w : World} {R : Nat → Prop} {m : Mem} {us : Nat → Bool} {E : Env} {y : AV} {v : Value} (h : RV1 w R m us E y v) : RV w R m us E y v := by
  cases y with
  | tup l => exact h.elim
  | _ => exact h
theorem outR_ok {f : Fm} (h : Sim C s a w R E) {x : DenF f} {v : Value} {F : List Nat} (hr : RepR w R f x v F) (ho : Own C w R E F) (n : Nat) (hf : freshOk s.us (outR f x n).2 = true) :
    Out C s a w R E F (outR f x n).2 fun m us E' => RV w R m us E' (outR f x n).1 v := by
  cases f with
  | tup f =>
    obtain ⟨vs, e, hr⟩ := hr
    obtain ⟨E', h1, h2, h3, h4⟩ := outVs_ok h hr ho n hf
    exact ⟨E', h1, h2, h3, vs, e, h4⟩
  | _ =>
    simp only [RepR] at hr
    simp only [outR] at hf ⊢
    obtain ⟨E', h1, h2, h3, h4⟩ := outV_ok h hr ho n hf
    exact ⟨E', h1, h2, h3, h4.rv⟩
/-- a name that was given up is told of anew -/
theorem Sim.readd (h : Sim C s a w R E) {n : Nat} (hu : s.us n = true) (hn : s.st n = none) {cs : List AV} {arr : Array Value} {Ty : TypeId} (hg : w.heap[E.B n]? = some (.cells arr Ty (0, 0))) (hrc : L2 (RC w R s.st s.us E) cs arr.toList) (ho : Own C w R E [E.B n]) :
    Sim C { s with st := upd s.st n (some (.box cs)) } a w R { E with F := upd E.F n [E.B n] } ∧ Move w R s.st s.us E w R (upd s.st n (some (.box cs))) s.us { E with F := upd E.F n [E.B n] } := by
  have hF := h.noneF hn
  have mv : Move w R s.st s.us E w R (upd s.st n (some (.box cs))) s.us { E with F := upd E.F n [E.B n] } := by
    refine ⟨fun _ h => h, fun _ _ => ⟨rfl, rfl, rfl, rfl⟩, fun b hb => ⟨hb, rfl⟩, fun k q' hk hq => ?_⟩
    by_cases hkn : k = n
    · subst hkn
      rw [upd_at] at hq
      cases hq
    · rw [upd_ne _ _ hkn] at hq
      exact ⟨q', hq, Nat.le_refl _, fun _ b hb => ⟨.inr (by show b ∈ upd E.F n _ k; rw [upd_ne _ _ hkn]; exact hb), rfl⟩⟩
  have ob := ho.out (E.B n) (by simp)
  have cF : ∀ k b, b ∈ upd E.F n [E.B n] k → (k = n ∧ b = E.B n) ∨ (k ≠ n ∧ b ∈ E.F k) := fun k b hb => by
    by_cases hkn : k = n
    · subst hkn
      rw [upd_at] at hb
      exact .inl ⟨rfl, by simpa using hb⟩
    · rw [upd_ne _ _ hkn] at hb
      exact .inr ⟨hkn, hb⟩
  refine ⟨⟨fun t => RV.move mv (h.tm t), h.nt, h.df, fun k => ?_, fun k hk => ?_, h.sub, h.lt, fun k b hb => ?_, fun k => ?_, fun k j b hkj hb1 hb2 => ?_, h.keep, h.nw⟩, mv⟩
  · by_cases hkn : k = n
    · subst hkn
      unfold SR
      dsimp only
      rw [upd_at]
      exact ⟨by simp [upd_at], arr, Ty, hg, hrc.imp fun _ _ => RC.move mv⟩
    · cases hus : s.us k with
      | false => exact SR.congr (by simp only; rw [upd_ne _ _ hkn]; exact h.un k hus) (by simp only; rw [upd_ne _ _ hkn]; exact h.unF hus)
      | true => exact SR.move mv hus (upd_ne _ _ hkn) (upd_ne _ _ hkn) (fun _ _ => rfl) (h.st k)
  · by_cases hkn : k = n
    · subst hkn
      simp only at hk
      rw [hu] at hk
      cases hk
    · simp only
      rw [upd_ne _ _ hkn]
      exact h.un k hk
  · rcases cF k b hb with ⟨_, rfl⟩ | ⟨_, hb⟩
    · exact ⟨ob.1, ob.2.2.1, ob.2.1⟩
    · exact h.own k b hb
  · simp only
    by_cases hkn : k = n
    · subst hkn; rw [upd_at]; simp
    · rw [upd_ne _ _ hkn]; exact h.nd k
  · rcases cF k b hb1 with ⟨h1, rfl⟩ | ⟨h1, hb1⟩
    · rcases cF j _ hb2 with ⟨h2, _⟩ | ⟨h2, hb2⟩
      · exact hkj (h1.trans h2.symm)
      · exact ob.2.2.2 j hb2
    · rcases cF j b hb2 with ⟨h2, rfl⟩ | ⟨h2, hb2⟩
      · exact ob.2.2.2 k hb1
      · exact h.dj k j b hkj hb1 hb2
theorem write_us_mono : ∀ (ws : List W) (s : St) (k : Nat), s.us k = true → (s.write ws).us k = true
  | [], _, _, h => h
  | x :: r, s, k, h => by
    refine write_us_mono r _ k ?_
    show upd s.us x.n (s.us x.n || x.new) k = true
    by_cases hk : k = x.n
    · subst hk; rw [upd_at, h]; rfl
    · rw [upd_ne _ _ hk]; exact h
theorem outCells_new : ∀ {f : Fm} {x : DenF f} {n : Nat} (y : W), y ∈ (outCells f x n).2 → y.new = true := by
  intro f
  induction f with
  | cons a b _ ih =>
    intro x n y hy
    simp only [outCells, List.mem_append] at hy
    rcases hy with hy | hy
    · cases a <;> simp [outCell] at hy <;> rw [hy]
    · exact ih y hy
  | _ => intro x n y hy; simp [outCells] at hy
theorem write_new_ne : ∀ (ws : List W) (s : St) (k : Nat), (∀ y, y ∈ ws → y.new = true) → freshOk s.us ws = true → s.us k = true → (s.write ws).st k = s.st k
  | [], _, _, _, _, _ => rfl
  | x :: r, s, k, hn, hf, hk => by
    have hx := hn x (by simp)
    have hne : k ≠ x.n := by
      intro e
      subst e
      simp [freshOk, hx, hk] at hf
    have hf2 : freshOk (upd s.us x.n (s.us x.n || x.new)) r = true := by
      simp only [freshOk, hx, cond_true] at hf
      cases hu : s.us x.n with
      | true => rw [hu] at hf; simp at hf
      | false => rw [hu] at hf; simpa [hx] using hf
    have := write_new_ne r { s with st := upd s.st x.n x.e, us := upd s.us x.n (s.us x.n || x.new) } k (fun y hy => hn y (by simp [hy])) hf2 (by
      show upd s.us x.n _ k = true
      rw [upd_ne _ _ hne]
      exact hk)
    exact this.trans (upd_ne _ _ hne)
/-- boxes come back -/
theorem boxes_ok : ∀ {bs : List BB} {s : St} {E : Env} {G : List Nat} (h : Sim C s a w R E) (hb : BoxOK w R s.us E.B bs G) (ho : Own C w R E G) (hn : ∀ x, x ∈ bs → s.st x.b = none) (hnd : (bs.map (·.b)).Nodup) (hf : freshOk s.us (bs.flatMap BB.ws) = true),
    Out C s a w R E G (bs.flatMap BB.ws) fun _ _ _ => True
  | [], s, E, G, h, hb, ho, hn, hnd, hf => by
    rw [show G = [] from hb]
    exact Out.same h trivial
  | x :: r, s, E, G, h, ⟨G1, G2, e, hu, ⟨arr, Ty, F', hg, e1, hr⟩, hb⟩, ho, hn, hnd, hf => by
    subst e
    simp only [List.flatMap_cons, freshOk_app, Bool.and_eq_true, BB.ws] at hf
    simp only [List.map_cons, List.nodup_cons] at hnd
    subst e1
    obtain ⟨E1, s1, m1, f1, k1⟩ := outCells_ok h hr ho.l.l x.n hf.1.1
    have hus1 := write_us_mono (outCells x.f x.y x.n).2 s x.b hu
    have hst1 : (s.write (outCells x.f x.y x.n).2).st x.b = none := by
      rw [write_new_ne _ _ _ (fun y hy => outCells_new y hy) hf.1.1 hu]
      exact hn x (by simp)
    have hB : E1.B x.b = E.B x.b := (m1.nm x.b hu).2.1
    obtain ⟨s2, m2⟩ := s1.readd hus1 hst1 (by rw [hB]; exact hg) k1 (by rw [hB]; exact ho.l.r f1)
    have f2 : ∀ k b, b ∈ upd E1.F x.b [E1.B x.b] k → b ∈ E.F k ∨ b ∈ F' ++ [E.B x.b] := fun k b hb => by
      by_cases hk : k = x.b
      · subst hk
        rw [upd_at, hB] at hb
        exact .inr (List.mem_append.2 (.inr hb))
      · rw [upd_ne _ _ hk] at hb
        rcases f1 k b hb with h | h
        · exact .inl h
        · exact .inr (by simp [h])
    have hw : s.write x.ws = { (s.write (outCells x.f x.y x.n).2) with st := upd (s.write (outCells x.f x.y x.n).2).st x.b (some (.box (outCells x.f x.y x.n).1)) } := by
      rw [BB.ws, write_app]
      simp [St.write, upd_self]
    have hbr : BoxOK w R (s.write x.ws).us (upd E1.B x.b (E1.B x.b)) r G2 := by
      rw [hw]
      have : ∀ {bs : List BB} {G : List Nat}, BoxOK w R s.us E.B bs G → BoxOK w R (s.write (outCells x.f x.y x.n).2).us (upd E1.B x.b (E1.B x.b)) bs G := by
        intro bs
        induction bs with
        | nil => intro G h; exact h
        | cons z r ih =>
          rintro G ⟨G1, G2, e, hu', ⟨arr', Ty', F2, hg', e1', hr'⟩, hb'⟩
          have hBz : upd E1.B x.b (E1.B x.b) z.b = E.B z.b := by
            by_cases hz : z.b = x.b
            · rw [hz, upd_at]; exact hB
            · rw [upd_ne _ _ hz]; exact (m1.nm z.b hu').2.1
          exact ⟨G1, G2, e, write_us_mono _ _ _ hu', ⟨arr', Ty', F2, by rw [hBz]; exact hg', by rw [hBz]; exact e1', hr'⟩, ih hb'⟩
      exact this hb
    have s2' : Sim C (s.write x.ws) a w R { E1 with F := upd E1.F x.b [E1.B x.b], B := upd E1.B x.b (E1.B x.b) } := by
      rw [hw, upd_self]
      exact s2
    have m2' : Move w R s.st s.us E w R (s.write x.ws).st (s.write x.ws).us { E1 with F := upd E1.F x.b [E1.B x.b], B := upd E1.B x.b (E1.B x.b) } := by
      rw [hw, upd_self]
      exact m1.trans m2
    obtain ⟨E3, s3, m3, f3, _⟩ := boxes_ok s2' hbr (ho.r f2) (fun z hz => by
      rw [hw]
      have hzx : z.b ≠ x.b := fun e => hnd.1 (by rw [← e]; exact List.mem_map_of_mem hz)
      simp only
      rw [upd_ne _ _ hzx]
      have huz : s.us z.b = true := by
        have : ∀ {bs : List BB} {G : List Nat}, BoxOK w R s.us E.B bs G → ∀ z, z ∈ bs → s.us z.b = true := by
          intro bs
          induction bs with
          | nil => intro G h z hz; simp at hz
          | cons y r ih =>
            rintro G ⟨G1, G2, e, hu', _, hb'⟩ z hz
            rcases List.mem_cons.1 hz with rfl | hz
            · exact hu'
            · exact ih hb' z hz
        exact this hb z hz
      rw [write_new_ne _ _ _ (fun y hy => outCells_new y hy) hf.1.1 huz]
      exact hn z (by simp [hz])) hnd.2 (by
        have := hf.2
        rw [← BB.ws] at this
        exact this)
    refine ⟨E3, by rw [List.flatMap_cons, write_app]; exact s3, by rw [List.flatMap_cons, write_app]; exact m2'.trans m3, fun k b hb => ?_, trivial⟩
    rcases f3 k b hb with h | h
    · rcases f2 k b h with h | h
      · exact .inl h
      · exact .inr (List.mem_append.2 (.inl h))
    · exact .inr (List.mem_append.2 (.inr h))
end Go.Ev

set_option autoImplicit false
set_option linter.unusedVariables false
namespace Go.Ev
variable {P : Program} {T : Tab} {O : Orc} {C : Ctx} {s : St} {a : Act} {w : World} {R : Nat → Prop} {E : Env}

/-- what a call leaves behind -/
def Back (w : World) (R : Nat → Prop) (F0 : List Nat) (fa fr : Fm) (r : DenF fr × DenB fa) (bv : List Value) (v : Value) (w' : World) : Prop :=
  Keep w w' F0 ∧ ∃ R' F' G', (∀ b, R b → R' b) ∧ (∀ b, R' b → b < w'.heap.size ∧ (R b ∨ w.heap.size ≤ b ∨ b ∈ F0)) ∧ RepR w' R' fr r.1 v F' ∧ RepBVs w' R' fa r.2 bv G' ∧ (F' ++ G').Nodup ∧ ∀ b, b ∈ F' ++ G' → ¬ R' b ∧ b < w'.heap.size ∧ (w.heap.size ≤ b ∨ b ∈ F0)
def UponCall (P : Program) (g : FuncId) (vals : List Value) (w : World) (K : Value → World → Prop) : Prop :=
  match (callFunc g vals.toArray).run P w with
  | .ok (.value v) w' => K v w'
  | .ok (.enter f args) w' => Calls P f args w' fun e w'' => ∃ v, e = .returned v ∧ K v w''
  | _ => False
/-- a function keeps what is told of it -/
def SpecOK (P : Program) (g : FuncId) (S : Spec) : Prop :=
  ∀ (w : World) (R : Nat → Prop) (F0 : List Nat) (vals : List Value) (x : DenF S.fa) (r : DenF S.fr × DenB S.fa), S.spec x = some r → RepVs w R S.fa x vals F0 → F0.Nodup → (∀ b, b ∈ F0 → ¬ R b ∧ b < w.heap.size) → (∀ b, R b → b < w.heap.size) →
    UponCall P g vals w fun v w' => Back w R F0 S.fa S.fr r vals v w'
def OrcOK (P : Program) (O : Orc) : Prop := ∀ g S, lookO g O = some S → SpecOK P g S

def GoalW (C : Ctx) (P : Program) (o : Oper) (s : St) (a : Act) (w : World) (v : AV) (ws : List W) : Prop :=
  ∀ (next : Act → World → Prop) (Q : Exit → Act → World → Prop), (∀ u w' R' E', Sim C ((s.write ws).put o.dst v) (a.put o.dst u) w' R' E' → next (a.put o.dst u) w') → o.wp P a w next Q
theorem Goal.gw {o : Oper} {v : AV} {ws : List W} (h : Goal C P o s a w v ws) : GoalW C P o s a w v ws := by
  intro next Q hn
  obtain ⟨u, w', R', E', hr, hs⟩ := h
  unfold Oper.wp
  rcases hr with hr | ⟨rfl, hr⟩
  · rw [hr]; exact hn _ _ _ _ hs
  · rw [hr]; exact hn _ _ _ _ hs

/-- the world turns where nothing is told, and more is told to be read -/
theorem Sim.turnR (h : Sim C s a w R E) {w' : World} {R' : Nat → Prop} (hb : ∀ b, b < w.heap.size → (R b ∨ ∃ n, b ∈ E.F n) → w'.heap[b]? = w.heap[b]?) (hs : w.heap.size ≤ w'.heap.size) (hk : Keep C.w0 w' C.F0)
    (hR : ∀ b, R b → R' b) (hR' : ∀ b, R' b → b < w'.heap.size ∧ (∀ n, b ∉ E.F n) ∧ (C.R0 b ∨ C.w0.heap.size ≤ b ∨ b ∈ C.F0)) : Sim C s a w' R' E := by
  have mv : Move w R s.st s.us E w' R' s.st s.us E :=
    ⟨fun _ h => h, fun _ _ => ⟨rfl, rfl, rfl, rfl⟩, fun b hb' => ⟨hR b hb', hb b (h.lt b hb') (.inl hb')⟩, fun n q' _ hq => ⟨q', hq, Nat.le_refl _, fun _ b hb' => ⟨.inr hb', hb b (h.own n b hb').2.1 (.inr ⟨n, hb'⟩)⟩⟩⟩
  refine ⟨fun t => RV.move mv (h.tm t), h.nt, h.df, fun n => ?_, h.un, fun b hb => hR b (h.sub b hb), fun b hb' => (hR' b hb').1, fun n b hb' => ⟨fun hc => (hR' b hc).2.1 n hb', Nat.lt_of_lt_of_le (h.own n b hb').2.1 hs, (h.own n b hb').2.2⟩, h.nd, h.dj, hk, fun b hb => (hR' b hb).2.2⟩
  cases hu : s.us n with
  | false => exact SR.congr (h.un n hu) (h.unF hu)
  | true => exact SR.move mv hu rfl rfl (fun b hb' => hb b (h.own n b hb').2.1 (.inr ⟨n, hb'⟩)) (h.st n)

theorem bif_some' {α : Type} {c : Bool} {x : Option α} {r : α} (h : (bif c then x else none) = some r) : c = true ∧ x = some r := by
  cases c with
  | true => exact ⟨rfl, h⟩
  | false => cases h
theorem st_eq' {s1 s2 : St} (h1 : s1.tm = s2.tm) (h2 : s1.st = s2.st) (h3 : s1.us = s2.us) (h4 : s1.nt = s2.nt) : s1 = s2 := by
  cases s1; cases s2; simp_all
theorem elemN_iff (x : Nat) : ∀ (l : List Nat), elemN x l = true ↔ x ∈ l
  | [] => by simp [elemN]
  | y :: r => by
    unfold elemN
    by_cases hy : y = x
    · subst hy; simp
    · rw [beq_ne hy]; simp [elemN_iff x r, Ne.symm hy]
theorem anyN_iff : ∀ {l k : List Nat}, anyN l k = false → ∀ n, n ∈ l → n ∉ k
  | [], _, _ => by simp
  | x :: r, k, h => by
    unfold anyN at h
    cases hx : elemN x k with
    | true => rw [hx] at h; simp at h
    | false =>
      rw [hx] at h
      intro n hn
      rcases List.mem_cons.1 hn with rfl | hn
      · intro hc; rw [(elemN_iff n k).2 hc] at hx; cases hx
      · exact anyN_iff h n hn
theorem keep_tr {w0 w w' : World} {F0 F : List Nat} (h : Keep w0 w F0) (k : Keep w w' F) (hF : ∀ b, b ∈ F → w0.heap.size ≤ b ∨ b ∈ F0) : Keep w0 w' F0 :=
  ⟨k.os.trans h.os, k.tape.trans h.tape, k.output.trans h.output, Nat.le_trans h.size k.size, fun b hb hb0 => by
    rw [k.block b (Nat.lt_of_lt_of_le hb h.size) (fun hc => ?_)]
    · exact h.block b hb hb0
    · rcases hF b hc with h1 | h1
      · omega
      · exact hb0 h1⟩

/-! the arguments that come back -/
/-- several names' contents change, and with them the world, in these names' blocks alone -/
theorem Sim.setL (h : Sim C s a w R E) {w' : World} {R' : Nat → Prop} (l : List Nat) (m' : Mem) (F' : Nat → List Nat) (hus : ∀ k, k ∈ l → s.us k = true) (hm : ∀ k, k ∉ l → m' k = s.st k) (hF : ∀ k, k ∉ l → F' k = E.F k)
    (hl : ∀ k, k ∈ l → ∃ q q', s.st k = some (.root q) ∧ m' k = some (.root q') ∧ q.ver < q'.ver ∧ q'.xs.length = q.xs.length ∧ q'.t.sz = q.t.sz ∧ ∃ ds Fi, w'.ownsRow 0 q'.e q'.t.sz (E.V k) q'.xs.length ds ∧ F' k = (E.V k).ownBlock.toList ++ Fi ∧ All (Rp w' R' q'.deep q'.t) q'.xs ds Fi)
    (hb : ∀ b, b < w.heap.size → (R b ∨ ∃ k, k ∉ l ∧ b ∈ E.F k) → w'.heap[b]? = w.heap[b]?) (hs : w.heap.size ≤ w'.heap.size) (hk : Keep C.w0 w' C.F0) (hR : ∀ b, R b → R' b) (hR' : ∀ b, R' b → b < w'.heap.size ∧ (∀ n, b ∉ F' n) ∧ (C.R0 b ∨ C.w0.heap.size ≤ b ∨ b ∈ C.F0))
    (hown : ∀ k b, k ∈ l → b ∈ F' k → b < w'.heap.size ∧ (C.w0.heap.size ≤ b ∨ b ∈ C.F0)) (hnd : ∀ k, k ∈ l → (F' k).Nodup) (hdj : ∀ k j b, k ∈ l → j ≠ k → b ∈ F' k → b ∉ F' j) :
    Sim C { s with st := m' } a w' R' { E with F := F' } := by
  have mv : Move w R s.st s.us E w' R' m' s.us { E with F := F' } := by
    refine ⟨fun _ h => h, fun _ _ => ⟨rfl, rfl, rfl, rfl⟩, fun b hb' => ⟨hR b hb', hb b (h.lt b hb') (.inl hb')⟩, fun n q' _ hq => ?_⟩
    by_cases hn : n ∈ l
    · obtain ⟨q, q2, e1, e2, e3, _⟩ := hl n hn
      rw [e2] at hq
      injection hq with hq
      injection hq with hq
      subst hq
      exact ⟨q, e1, by omega, fun hc => by omega⟩
    · rw [hm n hn] at hq
      exact ⟨q', hq, Nat.le_refl _, fun _ b hb' => ⟨.inr (by show b ∈ F' n; rw [hF n hn]; exact hb'), hb b (h.own n b hb').2.1 (.inr ⟨n, hn, hb'⟩)⟩⟩
  refine ⟨fun t => RV.move mv (h.tm t), h.nt, h.df, fun k => ?_, fun k hk' => ?_, fun b hb => hR b (h.sub b hb), fun b hb' => (hR' b hb').1, fun k b hb' => ?_, fun k => ?_, fun k j b hkj hb1 hb2 => ?_, hk, fun b hb => (hR' b hb).2.2⟩
  · by_cases hn : k ∈ l
    · obtain ⟨q, q', e1, e2, e3, e4, e5, ds, Fi, g1, g2, g3⟩ := hl k hn
      obtain ⟨l1, l2, _⟩ := h.root e1
      unfold SR
      dsimp only
      rw [e2]
      exact ⟨by rw [l1, e4], by rw [l2, e5], ds, Fi, g1, g2, g3⟩
    · cases hu : s.us k with
      | false => exact SR.congr (by simp only; rw [hm k hn]; exact h.un k hu) (by simp only; rw [hF k hn]; exact h.unF hu)
      | true => exact SR.move mv hu (hm k hn) (hF k hn) (fun b hb' => hb b (h.own k b hb').2.1 (.inr ⟨k, hn, hb'⟩)) (h.st k)
  · show m' k = none
    by_cases hn : k ∈ l
    · have := hus k hn
      simp only at hk'
      rw [this] at hk'
      cases hk'
    · rw [hm k hn]; exact h.un k hk'
  · simp only at hb'
    refine ⟨fun hc => (hR' b hc).2.1 k hb', ?_⟩
    by_cases hn : k ∈ l
    · exact hown k b hn hb'
    · rw [hF k hn] at hb'
      exact ⟨Nat.lt_of_lt_of_le (h.own k b hb').2.1 hs, (h.own k b hb').2.2⟩
  · by_cases hn : k ∈ l
    · exact hnd k hn
    · simp only; rw [hF k hn]; exact h.nd k
  · simp only at hb1 hb2
    by_cases hn : k ∈ l
    · exact hdj k j b hn (Ne.symm hkj) hb1 hb2
    · by_cases hj : j ∈ l
      · exact hdj j k b hj hkj hb2 hb1
      · rw [hF k hn] at hb1
        rw [hF j hj] at hb2
        exact h.dj k j b hkj hb1 hb2

theorem minus_mem : ∀ {l k : List Nat} {n : Nat}, n ∈ minus l k ↔ n ∈ l ∧ n ∉ k
  | [], _, _ => by simp [minus]
  | x :: r, k, n => by
    unfold minus
    cases hx : elemN x k with
    | true =>
      have := (elemN_iff x k).1 hx
      simp only [cond_true, List.mem_cons]
      rw [minus_mem]
      constructor
      · rintro ⟨h1, h2⟩; exact ⟨.inr h1, h2⟩
      · rintro ⟨h1 | h1, h2⟩
        · subst h1; exact absurd this h2
        · exact ⟨h1, h2⟩
    | false =>
      have : x ∉ k := fun hc => by rw [(elemN_iff x k).2 hc] at hx; cases hx
      simp only [cond_false, List.mem_cons]
      rw [minus_mem]
      constructor
      · rintro (h1 | ⟨h1, h2⟩)
        · subst h1; exact ⟨.inl rfl, this⟩
        · exact ⟨.inr h1, h2⟩
      · rintro ⟨h1 | h1, h2⟩
        · exact .inl h1
        · exact .inr ⟨h1, h2⟩
theorem subN_iff : ∀ {l k : List Nat}, subN l k = true → ∀ n, n ∈ l → n ∈ k
  | [], _, _ => by simp
  | x :: r, k, h => by
    unfold subN at h
    cases hx : elemN x k with
    | false => rw [hx] at h; cases h
    | true =>
      rw [hx] at h
      intro n hn
      rcases List.mem_cons.1 hn with rfl | hn
      · exact (elemN_iff n k).1 hx
      · exact subN_iff h n hn
theorem write_old_ne : ∀ (ws : List W) (s : St) (k : Nat), k ∉ ws.map (·.n) → (s.write ws).st k = s.st k
  | [], _, _, _ => rfl
  | x :: r, s, k, h => by
    simp only [List.map_cons, List.mem_cons, not_or] at h
    have := write_old_ne r { s with st := upd s.st x.n x.e, us := upd s.us x.n (s.us x.n || x.new) } k h.2
    exact this.trans (upd_ne _ _ h.1)
theorem BackOK.us : ∀ {ws : List W} {w' : World} {R' : Nat → Prop} {m : Mem} {V : Nat → Value} {Fn : Nat → List Nat} {G0 G : List Nat}, BackOK w' R' m V Fn G0 ws G → ∀ (s : St), (s.write ws).us = s.us ∧ (s.write ws).tm = s.tm ∧ (s.write ws).nt = s.nt
  | [], _, _, _, _, _, _, _, _, _ => ⟨rfl, rfl, rfl⟩
  | x :: r, _, _, _, _, _, _, _, ⟨G1, G2, q, q', e, e1, e2, e3, e4, e5, e6, h⟩, s => by
    have e7 : x.new = false := by rw [e1]
    obtain ⟨h1, h2, h3⟩ := h.us { s with st := upd s.st x.n x.e, us := upd s.us x.n (s.us x.n || x.new) }
    refine ⟨h1.trans ?_, h2, h3⟩
    show upd s.us x.n (s.us x.n || x.new) = s.us
    rw [e7, Bool.or_false, upd_self]
/-- the new footprints, name by name -/
theorem BackOK.spread {w' : World} {R' : Nat → Prop} {V : Nat → Value} {Fn : Nat → List Nat} {G0 : List Nat} (F : Nat → List Nat) (hdj : ∀ n k b, n ≠ k → b ∈ Fn n → b ∉ Fn k) : ∀ {ws : List W} {m : Mem} {G : List Nat}, BackOK w' R' m V Fn G0 ws G → (ws.map (·.n)).Nodup → G.Nodup → (∀ b, b ∈ G → ∀ k, b ∈ Fn k → b ∈ G0) → ∀ (s : St),
    ∃ F' : Nat → List Nat, (∀ k, k ∉ ws.map (·.n) → F' k = F k) ∧ (∀ k b, k ∈ ws.map (·.n) → b ∈ F' k → b ∈ G ∨ (b ∈ Fn k ∧ b ∉ G0)) ∧ (∀ k, k ∈ ws.map (·.n) → (F' k).Nodup) ∧ (∀ k j b, k ∈ ws.map (·.n) → j ∈ ws.map (·.n) → j ≠ k → b ∈ F' k → b ∉ F' j) ∧
      (∀ k, k ∈ ws.map (·.n) → ∃ q q', m k = some (.root q) ∧ (s.write ws).st k = some (.root q') ∧ q.ver < q'.ver ∧ q'.xs.length = q.xs.length ∧ q'.t.sz = q.t.sz ∧ ∃ ds Fi, w'.ownsRow 0 q'.e q'.t.sz (V k) q'.xs.length ds ∧ F' k = (V k).ownBlock.toList ++ Fi ∧ All (Rp w' R' q'.deep q'.t) q'.xs ds Fi)
  | [], m, G, _, _, _, _, s => ⟨F, fun _ _ => rfl, by simp, by simp, by simp, by simp⟩
  | x :: r, m, G, ⟨G1, G2, q, q', e, e1, e2, e3, e4, e5, ⟨ds, Fi, e6, e7, e8, e9⟩, h⟩, hn, hG, hsep, s => by
    subst e
    simp only [List.map_cons, List.nodup_cons] at hn
    obtain ⟨n1, n2, n3⟩ := List.nodup_append.1 hG
    obtain ⟨F', f1, f2, f3, f4, f5⟩ := h.spread F hdj hn.2 n2 (fun b hb => hsep b (by simp [hb])) { s with st := upd s.st x.n x.e, us := upd s.us x.n (s.us x.n || x.new) }
    have cross : ∀ j b, j ≠ x.n → (b ∈ G1 ∨ (b ∈ Fn x.n ∧ b ∉ G0)) → (b ∈ G2 ∨ (b ∈ Fn j ∧ b ∉ G0)) → False := fun j b hj h1 h2 => by
      rcases h1 with h1 | ⟨h1, h1'⟩
      · rcases h2 with h2 | ⟨h2, h2'⟩
        · exact n3 b h1 b h2 rfl
        · exact h2' (hsep b (by simp [h1]) j h2)
      · rcases h2 with h2 | ⟨h2, h2'⟩
        · exact h1' (hsep b (by simp [h2]) x.n h1)
        · exact hdj j x.n b hj h2 h1
    refine ⟨upd F' x.n ((V x.n).ownBlock.toList ++ Fi), fun k hk => ?_, fun k b hk hb => ?_, fun k hk => ?_, fun k j b hk hj hjk hb => ?_, fun k hk => ?_⟩
    · simp only [List.map_cons, List.mem_cons, not_or] at hk
      rw [upd_ne _ _ hk.1]
      exact f1 k hk.2
    · by_cases hkx : k = x.n
      · subst hkx; rw [upd_at] at hb; rcases e9 b hb with h | h
        · simp [h]
        · exact .inr h
      · rw [upd_ne _ _ hkx] at hb
        rcases f2 k b (by simpa [hkx] using hk) hb with h | h
        · simp [h]
        · exact .inr h
    · by_cases hkx : k = x.n
      · subst hkx; rw [upd_at]; exact e8
      · rw [upd_ne _ _ hkx]; exact f3 k (by simpa [hkx] using hk)
    · by_cases hkx : k = x.n
      · subst hkx
        rw [upd_at] at hb
        rw [upd_ne _ _ hjk]
        intro hc
        exact cross j b hjk (e9 b hb) (f2 j b (by simpa [hjk] using hj) hc)
      · rw [upd_ne _ _ hkx] at hb
        have hb2 := f2 k b (by simpa [hkx] using hk) hb
        by_cases hjx : j = x.n
        · subst hjx; rw [upd_at]; exact fun hc => cross k b hkx (e9 b hc) hb2
        · rw [upd_ne _ _ hjx]
          exact f4 k j b (by simpa [hkx] using hk) (by simpa [hjx] using hj) hjk hb
    · by_cases hkx : k = x.n
      · subst hkx
        refine ⟨q, q', e2, ?_, e3, e4, e5, ds, Fi, e6, by rw [upd_at], e7⟩
        show (St.write { s with st := upd s.st x.n x.e, us := upd s.us x.n (s.us x.n || x.new) } r).st x.n = _
        rw [write_old_ne _ _ _ hn.1]
        simp only
        rw [upd_at, e1]
      · obtain ⟨a1, a2, a3, a4, a5, a6, a7, ds', Fi', a8, a9, a10⟩ := f5 k (by simpa [hkx] using hk)
        exact ⟨a1, a2, a3, a4, a5, a6, a7, ds', Fi', a8, by rw [upd_ne _ _ hkx]; exact a9, a10⟩

theorem splitAlt_some {ρ : Type} : ∀ {f : Fm} {x : DenF f} {k : (g : Fm) → DenF g → Option ρ} {r : ρ}, splitAlt f x k = some r → ∃ (g : Fm) (y : DenF g), k g y = some r ∧ (∀ (w : World) (R : Nat → Prop) (v : Value) (F : List Nat), RepR w R f x v F → RepR w R g y v F) ∧ (f.hasImm = false → g.hasImm = false) := by
  intro f
  induction f with
  | alt a b iha ihb =>
    intro x k r h
    cases x with
    | inl y =>
      obtain ⟨g, z, h1, h2, h3⟩ := iha (x := y) h
      refine ⟨g, z, h1, fun w R v F hr => h2 w R v F ?_, fun hi => h3 ?_⟩
      · have hr' : RepV w R a y v F := hr
        cases a with
        | tup a => simp only [RepV, RepV0, RepC] at hr'
        | _ => simp only [RepR]; exact hr'
      · simp only [Fm.hasImm, Bool.or_eq_false_iff] at hi; exact hi.1
    | inr y =>
      obtain ⟨g, z, h1, h2, h3⟩ := ihb (x := y) h
      refine ⟨g, z, h1, fun w R v F hr => h2 w R v F ?_, fun hi => h3 ?_⟩
      · have hr' : RepV w R b y v F := hr
        cases b with
        | tup a => simp only [RepV, RepV0, RepC] at hr'
        | _ => simp only [RepR]; exact hr'
      · simp only [Fm.hasImm, Bool.or_eq_false_iff] at hi; exact hi.2
  | _ => intro x k r h; exact ⟨_, x, h, fun w R v F hr => hr, fun hi => hi⟩

/-- behind a call -/
theorem Sim.back (h : Sim C s a w R E) {l wr G0 : List Nat} {rep : Prop} {bk : World → (Nat → Prop) → List W × List BB → List Nat → Prop} (hL : LentV w R s E l wr G0 rep bk) (hwn : wr.Nodup) {fa fr : Fm} {r : DenF fr × DenB fa} {bv : List Value} {v : Value} {w' : World} (hb : Back w (lentR E R l) G0 fa fr r bv v w') (hi : (fr.hasImm = false ∧ fa.immB = false) ∨ l = [])
    {ws : List W × List BB} (hbk : ∀ w' R' G', RepBVs w' R' fa r.2 bv G' → bk w' R' ws G') (hnd : (ws.1.map (·.n) ++ ws.2.map (·.b)).Nodup) (hsw : ∀ n, n ∈ ws.1.map (·.n) ++ ws.2.map (·.b) → n ∈ wr) (d : Option Nat) (n : Nat) {g : Fm} {y : DenF g} (hg : ∀ (w : World) (R : Nat → Prop) (v : Value) (F : List Nat), RepR w R fr r.1 v F → RepR w R g y v F)
    (hf : freshOk s.us (gone (minus wr (ws.1.map (·.n))) ++ (ws.1 ++ (ws.2.flatMap BB.ws ++ (outR g y n).2))) = true) :
    ∃ R' E', Sim C ((s.write (gone (minus wr (ws.1.map (·.n))) ++ (ws.1 ++ (ws.2.flatMap BB.ws ++ (outR g y n).2)))).put d (outR g y n).1) (a.put d v) w' R' E' := by
  obtain ⟨hk, R1, F1, G1, b1, b2, b3, b4, b5, b6⟩ := hb
  obtain ⟨hndw, hndb, hndx⟩ := List.nodup_append.1 hnd
  have hG0 : ∀ b, b ∈ G0 → ¬ R b ∧ b < w.heap.size ∧ (C.w0.heap.size ≤ b ∨ b ∈ C.F0) := fun b hb => by
    obtain ⟨k, hk, hbk⟩ := hL.own b hb
    exact h.own k b hbk
  have hwr : ∀ b, b ∈ G0 → C.w0.heap.size ≤ b ∨ b ∈ C.F0 := fun b hb => (hG0 b hb).2.2
  have hK := keep_tr h.keep hk hwr
  obtain ⟨n1, n2, n3⟩ := List.nodup_append.1 b5
  have h1 := h.goneDrop (minus wr (ws.1.map (·.n)))
  have hE1 : ∀ k b, b ∈ (E.dropL (minus wr (ws.1.map (·.n)))).F k → b ∈ E.F k ∧ (k ∈ wr → k ∈ ws.1.map (·.n)) := fun k b hb => by
    obtain ⟨h2, h3⟩ := dropL_F_le _ E k b hb
    refine ⟨h2, fun hk => ?_⟩
    by_cases hc : k ∈ ws.1.map (·.n)
    · exact hc
    · exact absurd (minus_mem.2 ⟨hk, hc⟩) h3
  have hold : ∀ k b, b ∈ E.F k → k ∉ wr → b ∉ G0 := fun k b hb hk hc => by
    obtain ⟨j, hj, hb'⟩ := hL.own b hc
    exact h.dj k j b (fun e => hk (e ▸ hj)) hb hb'
  have hnew : ∀ b, b ∈ F1 ++ G1 → (C.w0.heap.size ≤ b ∨ b ∈ C.F0) ∧ ∀ k, b ∈ E.F k → b ∈ G0 := fun b hb => by
    obtain ⟨c1, c2, c3⟩ := b6 b hb
    constructor
    · rcases c3 with c3 | c3
      · exact .inl (Nat.le_trans h.keep.size c3)
      · exact hwr b c3
    · intro k hbk
      rcases c3 with c3 | c3
      · exact absurd (h.own k b hbk).2.1 (by omega)
      · exact c3
  rw [freshOk_app, Bool.and_eq_true, freshOk_app, Bool.and_eq_true, freshOk_app, Bool.and_eq_true] at hf
  have fin : ∀ (R' : Nat → Prop), (∀ b, R b → R' b) → (∀ b, R' b → R1 b) → (∀ b, R' b → b < w'.heap.size ∧ (R b ∨ w.heap.size ≤ b ∨ b ∈ G0)) → RepR w' R' fr r.1 v F1 → RepBVs w' R' fa r.2 bv G1 →
      ∃ R' E', Sim C ((s.write (gone (minus wr (ws.1.map (·.n))) ++ (ws.1 ++ (ws.2.flatMap BB.ws ++ (outR g y n).2)))).put d (outR g y n).1) (a.put d v) w' R' E' := by
    intro R' hR hR1 hRn hr1 hr2
    obtain ⟨Gw, Gb, hperm, hbk', hbox⟩ := hL.back hwn G0 w' R' ws G1 ⟨fun b hb => ⟨hR b hb, hk.block b (h.lt b hb) fun hc => (hG0 b hc).1 hb⟩, fun k b _ hb hb0 => hk.block b (h.own k b hb).2.1 hb0, fun _ b _ _ hb0 => hb0⟩ (hbk w' R' G1 hr2) (fun b hb => (b6 b (List.mem_append.2 (.inr hb))).2.2) n2
    have hp : ∀ b, b ∈ Gw ++ Gb → b ∈ G1 := fun b hb => hperm.subset hb
    obtain ⟨q1, q2, q3⟩ := List.nodup_append.1 (hperm.nodup_iff.2 n2)
    obtain ⟨F', f1, f2, f3, f4, f5⟩ := hbk'.spread (E.dropL (minus wr (ws.1.map (·.n)))).F h.dj hndw q1 (fun b hb => (hnew b (List.mem_append.2 (.inr (hp b (List.mem_append.2 (.inl hb)))))).2) (s.write (gone (minus wr (ws.1.map (·.n)))))
    obtain ⟨u1, u2, u3⟩ := hbk'.us (s.write (gone (minus wr (ws.1.map (·.n)))))
    obtain ⟨g1, g2, g3, g4, g5⟩ := gone_us (minus wr (ws.1.map (·.n))) s
    obtain ⟨v1, v2, v3, v4⟩ := dropL_V (minus wr (ws.1.map (·.n))) E
    have hcase : ∀ k b, b ∈ F' k → (k ∈ ws.1.map (·.n) ∧ b ∈ Gw) ∨ (b ∈ E.F k ∧ b ∉ G0) := fun k b hb => by
      by_cases hkn : k ∈ ws.1.map (·.n)
      · rcases f2 k b hkn hb with h2 | h2
        · exact .inl ⟨hkn, h2⟩
        · exact .inr h2
      · rw [f1 k hkn] at hb
        obtain ⟨h2, h3⟩ := hE1 k b hb
        exact .inr ⟨h2, hold k b h2 fun hc => hkn (h3 hc)⟩
    have inW : ∀ b, b ∈ Gw → b ∈ F1 ++ G1 := fun b hb => List.mem_append.2 (.inr (hp b (List.mem_append.2 (.inl hb))))
    have inB : ∀ b, b ∈ Gb → b ∈ F1 ++ G1 := fun b hb => List.mem_append.2 (.inr (hp b (List.mem_append.2 (.inr hb))))
    have h2 := h1.setL (w' := w') (R' := R') (ws.1.map (·.n)) ((s.write (gone (minus wr (ws.1.map (·.n))))).write ws.1).st F' (fun k hk => by rw [g1]; exact hL.us k (.inr (hsw k (List.mem_append.2 (.inl hk))))) (fun k hk => write_old_ne _ _ _ hk) (fun k hk => f1 k hk)
      (fun k hk => by
        obtain ⟨q, q', e1, e2, e3, e4, e5, ds, Fi, e6, e7, e8⟩ := f5 k hk
        refine ⟨q, q', ?_, e2, e3, e4, e5, ds, Fi, by rw [v1]; exact e6, by rw [v1]; exact e7, e8⟩
        rw [g4 k (fun hc => (minus_mem.1 hc).2 hk)]
        exact e1)
      (fun b hb hb' => hk.block b hb (fun hc => by
        rcases hb' with hb' | ⟨k, hkn, hb'⟩
        · exact (hG0 b hc).1 hb'
        · obtain ⟨h2, h3⟩ := hE1 k b hb'
          exact hold k b h2 (fun hc => hkn (h3 hc)) hc)) hk.size hK hR (fun b hb => by
        obtain ⟨c1, c2⟩ := hRn b hb
        refine ⟨c1, fun k hk => ?_, ?_⟩
        · rcases hcase k b hk with ⟨_, hg⟩ | ⟨hbk, hb0⟩
          · exact (b6 b (inW b hg)).1 (hR1 b hb)
          · rcases c2 with c2 | c2 | c2
            · exact (h.own k b hbk).1 c2
            · exact absurd (h.own k b hbk).2.1 (by omega)
            · exact hb0 c2
        · rcases c2 with c2 | c2 | c2
          · exact h.nw b c2
          · exact .inr (.inl (Nat.le_trans h.keep.size c2))
          · exact .inr (hwr b c2))
      (fun k b hk' hb => by
        rcases f2 k b hk' hb with this | ⟨this, _⟩
        · exact ⟨(b6 b (inW b this)).2.1, (hnew b (inW b this)).1⟩
        · exact ⟨Nat.lt_of_lt_of_le (h.own k b this).2.1 hk.size, (h.own k b this).2.2⟩) f3 (fun k j b hk hjk hb hc => by
        by_cases hj : j ∈ ws.1.map (·.n)
        · exact f4 k j b hk hj hjk hb hc
        · rcases hcase j b hc with ⟨hj', _⟩ | ⟨hbj, hb0⟩
          · exact hj hj'
          · rcases f2 k b hk hb with h4 | ⟨h4, _⟩
            · exact hb0 ((hnew b (inW b h4)).2 j hbj)
            · exact h.dj k j b (Ne.symm hjk) h4 hbj)
    have hst : ({ (s.write (gone (minus wr (ws.1.map (·.n))))) with st := ((s.write (gone (minus wr (ws.1.map (·.n))))).write ws.1).st } : St) = (s.write (gone (minus wr (ws.1.map (·.n))))).write ws.1 := by
      exact st_eq' u2.symm rfl u1.symm u3.symm
    rw [hst] at h2
    obtain ⟨E2, s2, m2, k2, _⟩ := boxes_ok h2 (bs := ws.2) (G := Gb) (by rw [u1, g1]; simp only; rw [v2]; exact hbox) ⟨q2, fun b hb => by
      obtain ⟨c1, c2, c3⟩ := b6 b (inB b hb)
      refine ⟨fun hc => c1 (hR1 b hc), (hnew b (inB b hb)).1, c2, fun k hk => ?_⟩
      rcases hcase k b hk with ⟨_, hg⟩ | ⟨hbk, hb0⟩
      · exact q3 b hg b hb rfl
      · exact hb0 ((hnew b (inB b hb)).2 k hbk)⟩ (fun x hx => by
      have hxn : x.b ∉ ws.1.map (·.n) := fun hc => hndx _ hc _ (List.mem_map_of_mem hx) rfl
      rw [write_old_ne _ _ _ hxn]
      exact g5 x.b (minus_mem.2 ⟨hsw _ (List.mem_append.2 (.inr (List.mem_map_of_mem hx))), hxn⟩)) hndb hf.2.2.1
    obtain ⟨E', k1, k2', k3, k4⟩ := outR_ok s2 (hg _ _ _ _ hr1) ⟨n1, fun b hb => by
      obtain ⟨c1, c2, c3⟩ := b6 b (List.mem_append.2 (.inl hb))
      refine ⟨fun hc => c1 (hR1 b hc), (hnew b (List.mem_append.2 (.inl hb))).1, c2, fun k hk => ?_⟩
      rcases k2 k b hk with hk | hk
      · rcases hcase k b hk with ⟨_, hg⟩ | ⟨hbk, hb0⟩
        · exact n3 b hb b (hp b (List.mem_append.2 (.inl hg))) rfl
        · exact hb0 ((hnew b (List.mem_append.2 (.inl hb))).2 k hbk)
      · exact n3 b hb b (hp b (List.mem_append.2 (.inr hk))) rfl⟩ n hf.2.2.2
    rw [write_app, write_app, write_app]
    exact ⟨R', E', k1.put d k4⟩
  rcases hi with hi | hi
  · refine fin R (fun b hb => hb) (fun b hb => b1 b (.inl hb)) (fun b hb => ⟨Nat.lt_of_lt_of_le (h.lt b hb) hk.size, .inl hb⟩) (b3.anyR hi.1) (b4.anyR hi.2)
  · subst hi
    refine fin R1 (fun b hb => b1 b (.inl hb)) (fun b hb => hb) (fun b hb => ?_) b3 b4
    obtain ⟨c1, c2⟩ := b2 b hb
    refine ⟨c1, ?_⟩
    rcases c2 with (c2 | ⟨_, c2, _⟩) | c2 | c2
    · exact .inl c2
    · cases c2
    · exact .inr (.inl c2)
    · exact .inr (.inr c2)

theorem L2.append_inv {α β : Type} {p : α → β → Prop} {l k : List α} {l' k' : List β} (h1 : L2 p l l') (h2 : L2 p k k') : L2 p (l ++ k) (l' ++ k') := h1.app h2

/-- a call of what keeps its contract -/
theorem g_callX (hO : OrcOK P O) (h : Sim C s a w R E) {m : Mem} (hm : Sub m s.st) {o : Oper} {g : FuncId} {vals : List Value} (hexec : (execOp a.eval o).run P w = (callFunc g vals.toArray).run P w) {args : List AV} (hargs : L2 (RV1 w R s.st s.us E) args vals)
    {ρ : Type} {K : AV → List W → Option ρ} {res : ρ} {n : Nat} (he : evCall O n g args m K = some res) : ∃ v ws, K v ws = some res ∧ (freshOk s.us ws = true → GoalW C P o s a w v ws) := by
  unfold evCall at he
  split at he
  · rename_i S hS
    split at he
    · rename_i x l wr hl
      cases hcnd : (((S.fr.hasImm || S.fa.immB) && !l.isEmpty) || (!nodupN wr || anyN l wr)) with
      | true => rw [hcnd] at he; cases he
      | false =>
        rw [hcnd] at he
        dsimp only [cond_false] at he
        simp only [Bool.or_eq_false_iff, Bool.not_eq_false'] at hcnd
        split at he
        · rename_i r hr
          split at he
          · rename_i ws hws
            obtain ⟨hb, he⟩ := bif_some' he
            rw [Bool.and_eq_true] at hb
            obtain ⟨h', y, hK, hsp, _⟩ := splitAlt_some he
            refine ⟨_, _, hK, fun hf next Q hn => ?_⟩
            have hi : (S.fr.hasImm = false ∧ S.fa.immB = false) ∨ l = [] := by
              have := hcnd.1
              cases l with
              | nil => exact .inr rfl
              | cons _ _ => exact .inl (by simpa using this)
            obtain ⟨G0, hL⟩ := lendVs_ok h hm hargs (n + 40) hl
            have hdj := anyN_iff hcnd.2.2
            have hwrn := nodupN_iff hcnd.2.1
            have hU := hO g S hS w (lentR E R l) G0 _ x r hr hL.rep (hL.nd hwrn) (fun b hb => ⟨fun hc => ?_, ?_⟩) (fun b hb => ?_)
            · unfold Oper.wp
              rw [hexec]
              unfold UponCall at hU
              have done : ∀ v w', Back w (lentR E R l) G0 S.fa S.fr r vals v w' → next (a.put o.dst v) w' := fun v w' hb' => by
                obtain ⟨R', E', hs⟩ := h.back hL hwrn hb' hi (fun w' R' G' hG => ⟨r.2, hws, hG⟩) (nodupN_iff hb.1) (subN_iff hb.2) o.dst n hsp hf
                exact hn _ _ _ _ hs
              generalize hres : (callFunc g vals.toArray).run P w = res at hU
              cases res with
              | halt x w' => exact hU.elim
              | ok nx w' =>
                cases nx with
                | value v => exact done v w' hU
                | enter f args => exact Calls.mono hU (fun e w'' ⟨v, he, hb⟩ => by subst he; exact done v w'' hb)
                | _ => exact hU.elim
            · obtain ⟨j, hj, hb'⟩ := hL.own b hb
              rcases hc with hc | ⟨k, hk, hc⟩
              · exact (h.own j b hb').1 hc
              · exact h.dj k j b (fun e => hdj k hk (e ▸ hj)) hc hb'
            · obtain ⟨j, hj, hb'⟩ := hL.own b hb
              exact (h.own j b hb').2.1
            · rcases hb with hb | ⟨k, _, hb⟩
              · exact h.lt b hb
              · exact (h.own k b hb).2.1
          · cases he
        · cases he
    · cases he
  · cases he
/-- a value that is called -/
theorem exec_callv {o : Oper} {c : Call} (ho : o.op = .call c) {fo : Operand} (hc : c.callee = .value fo) {g : FuncId} {cv : List Value} (hfv : a.eval fo = .func (.func g) #[] cv.toArray) : (execOp a.eval o).run P w = (callFunc g ((c.args.toList.map a.eval ++ cv).toArray)).run P w := by
  have e1 : (c.args.map a.eval ++ cv.toArray) = (c.args.toList.map a.eval ++ cv).toArray := by
    apply Array.ext'
    simp
  rw [← e1]
  simp [execOp, ho, resolve, hc, hfv, Deferred.ofValue, invoke]
/-- a method of an interface's value that is called -/
theorem exec_invoke (hT : TabOK P T) {o : Oper} {c : Call} (ho : o.op = .call c) {fo : Operand} {nm : String} (hc : c.callee = .invoke fo nm) {X : TypeId} {u : Value} (hfv : a.eval fo = .iface X u) {ms : List (String × FuncId)} (hms : lookO X T.meth = some ms) {g : FuncId} (hg : lookS nm ms = some g) : (execOp a.eval o).run P w = (callFunc g ((u :: c.args.toList.map a.eval).toArray)).run P w := by
  have h1 := lookO_map _ _ X ms T.meth hT.meth hms
  simp only at h1
  have h2 : methOf P X nm = some g := by
    clear hms
    induction ms with
    | nil => simp [lookS] at hg
    | cons y r ih =>
      simp only [List.map_cons, List.cons.injEq] at h1
      unfold lookS at hg
      cases hy : y.1 == nm with
      | true =>
        rw [hy] at hg
        simp only [cond_true, Option.some.injEq] at hg
        have : y.1 = nm := by simpa using hy
        rw [← this, h1.1, hg]
      | false =>
        rw [hy] at hg
        exact ih hg h1.2
  unfold methOf at h2
  split at h2
  · rename_i i fs hi hst
    split at h2
    · rename_i mm hmm
      split at h2
      · rename_i hpe
        split at h2
        · rename_i f hf
          simp only [Option.some.injEq] at h2
          subst h2
          have e1 : (#[u] ++ c.args.map a.eval) = (u :: c.args.toList.map a.eval).toArray := by
            apply Array.ext'
            simp
          rw [← e1]
          have hp0 : mm.path = #[] := by simpa using hpe
          have hmeth : ∀ n, (method (n + 1) X u nm).run P w = .ok (f, u) w := fun n => by
            unfold method
            simp [typeInfo, hi, hmm, hf, hp0, follow, receiverAt, run_underlying hst, Place.get]
          have hd : ∃ n, P.types.size + Made.depth = n + 1 := ⟨P.types.size + 99, rfl⟩
          obtain ⟨n, hn⟩ := hd
          have harr : ∀ (xs : Array Value), (#[Value.iface X u] ++ xs).extract 1 (#[Value.iface X u] ++ xs).size = xs := fun xs => by
            apply Array.ext'
            simp
          have h0 : ∀ (xs : Array Value), (#[Value.iface X u] ++ xs)[0]? = some (Value.iface X u) := fun xs => by rw [Array.getElem?_append]; simp
          simp only [execOp, ho, resolve, hc, hfv, invoke, Sem.run_bind, Sem.run_pure, Result.andThen_ok, h0, harr, callMethod]
          simp [hn, hmeth]
        · cases h2
      · cases h2
    · cases h2
  · cases h2
end Go.Ev

set_option autoImplicit false
set_option linter.unusedVariables false
namespace Go.Ev
variable {ρ : Type} {P : Program} {T : Tab} {O : Orc} {C : Ctx} {s : St} {a : Act} {w : World} {R : Nat → Prop} {E : Env}

theorem bif_some {α : Type} {c : Bool} {x : Option α} {r : α} (h : (bif c then x else none) = some r) : c = true ∧ x = some r := by
  cases c with
  | true => exact ⟨rfl, h⟩
  | false => cases h
/-- an operation of the evaluator and the model's -/
def Sound (C : Ctx) (P : Program) (T : Tab) (O : Orc) (s : St) (a : Act) (w : World) (m : Mem) (o : Oper) (op : Op) : Prop :=
  ∀ (ρ : Type) (dn : Nat) (K : AV → List W → Option ρ) (r : ρ), core T O dn op (op.operands.toList.map s.op) m K = some r → ∃ v ws, K v ws = some r ∧ (freshOk s.us ws = true → GoalW C P o s a w v ws)

theorem s_move (h : Sim C s a w R E) {m : Mem} {o : Oper} {x : Operand} (hop : o.op = .move x) : Sound C P T O s a w m o (.move x) :=
  fun ρ dn K r hK => ⟨_, _, hK, fun _ => (g_move h (.inl hop)).gw⟩
theorem s_assign (h : Sim C s a w R E) {m : Mem} {o : Oper} {x : Operand} (hop : o.op = .assign x) : Sound C P T O s a w m o (.assign x) :=
  fun ρ dn K r hK => ⟨_, _, hK, fun _ => (g_move h (.inr hop)).gw⟩
theorem s_load (hT : TabOK P T) (h : Sim C s a w R E) {m : Mem} (hm : Sub m s.st) {o : Oper} {L : TypeId} {x : Operand} (hop : o.op = .load L x) : Sound C P T O s a w m o (.load L x) := by
  intro ρ dn K r hK
  replace hK : core T O dn (.load L x) [s.op x] m K = some r := hK
  unfold core at hK
  dsimp only at hK
  split at hK
  · cases hK
  · rename_i isAgg t hl
    split at hK
    · rename_i b q hx
      split at hK
      · rename_i cs hb
        obtain ⟨h1, hK⟩ := bif_some hK
        exact ⟨_, _, hK, fun _ => (g_load_box hT h hop hl hx (hm _ _ hb) h1).gw⟩
      · obtain ⟨h1, hK⟩ := bif_some hK
        rw [Bool.and_eq_true] at h1
        exact ⟨_, _, hK, fun _ => (g_load_zb hT h hop hl hx (Nat.eq_of_beq_eq_true h1.1) h1.2).gw⟩
      · cases hK
    · rename_i u v q src hx
      obtain ⟨h1, hK⟩ := bif_some hK
      simp only [Bool.and_eq_true] at h1
      exact ⟨_, _, hK, fun _ => (g_load_pro hT h hop hl hx (hm.live h1.1) (by simpa using h1.2)).gw⟩
    · rename_i n i q hx
      split at hK
      · rename_i r' hb
        obtain ⟨h1, hK⟩ := bif_some hK
        exact ⟨_, _, hK, fun _ => (g_load_pel hT h hop hl hx (hm _ _ hb) h1).gw⟩
      · cases hK
    · cases hK
end Go.Ev

set_option autoImplicit false
set_option linter.unusedVariables false
namespace Go.Ev
variable {P : Program} {T : Tab} {O : Orc} {C : Ctx} {s : St} {a : Act} {w : World} {R : Nat → Prop} {E : Env}

theorem s_pick (h : Sim C s a w R E) {m : Mem} {o : Oper} {c x y : Operand} (hop : o.op = .pick c x y) : Sound C P T O s a w m o (.pick c x y) := by
  intro ρ dn K r hK
  replace hK : core T O dn (.pick c x y) [s.op c, s.op x, s.op y] m K = some r := hK
  have hx := h.op x
  have hy := h.op y
  generalize s.op x = vx at hK hx
  generalize s.op y = vy at hK hy
  cases hc : s.op c with
  | bool t =>
    rw [hc] at hK
    unfold core at hK
    dsimp only at hK
    split at hK
    · rename_i p q
      refine ⟨_, _, hK, fun _ => (g_pick h hop hc ?_).gw⟩
      cases t
      · exact hy
      · exact hx
    · cases t
      · exact ⟨_, _, hK, fun _ => (g_pick h hop hc hy).gw⟩
      · exact ⟨_, _, hK, fun _ => (g_pick h hop hc hx).gw⟩
  | _ => rw [hc] at hK; exact nomatch (show (none : Option ρ) = some r from hK)
theorem s_bin (hT : TabOK P T) (h : Sim C s a w R E) {m : Mem} {o : Oper} {op : BinOp} {tx ty : TypeId} {x y : Operand} (hop : o.op = .binOp op tx x y ty) : Sound C P T O s a w m o (.binOp op tx x y ty) := by
  intro ρ dn K r hK
  replace hK : core T O dn (.binOp op tx x y ty) [s.op x, s.op y] m K = some r := hK
  unfold core at hK
  dsimp only at hK
  split at hK
  · rename_i k p k' q hx hy
    obtain ⟨h1, hK⟩ := bif_some hK
    exact ⟨_, _, hK, fun _ => (g_bin_int h hop hx hy h1).gw⟩
  · rename_i p q hx hy
    split at hK
    · rename_i ht
      exact ⟨_, _, hK, fun _ => ((g_bin_bool hT h hop hx hy ht).1 rfl).gw⟩
    · rename_i ht
      exact ⟨_, _, hK, fun _ => ((g_bin_bool hT h hop hx hy ht).2 rfl).gw⟩
    · cases hK
  · rename_i p q hx hy
    split at hK
    · exact ⟨_, _, hK, fun _ => ((g_bin_str h hop hx hy).1 rfl).gw⟩
    · exact ⟨_, _, hK, fun _ => ((g_bin_str h hop hx hy).2 rfl).gw⟩
    · cases hK
  · cases hK
theorem s_un (h : Sim C s a w R E) {m : Mem} {o : Oper} {op : UnOp} {tx : TypeId} {x : Operand} (hop : o.op = .unOp op tx x) : Sound C P T O s a w m o (.unOp op tx x) := by
  intro ρ dn K r hK
  replace hK : core T O dn (.unOp op tx x) [s.op x] m K = some r := hK
  unfold core at hK
  dsimp only at hK
  split at hK
  · rename_i b hx
    exact ⟨_, _, hK, fun _ => (g_not h hop hx).gw⟩
  · rename_i k n hx
    exact ⟨_, _, hK, fun _ => (g_neg h hop hx).gw⟩
  · cases hK
theorem s_convert (hT : TabOK P T) (h : Sim C s a w R E) {m : Mem} (hm : Sub m s.st) {o : Oper} {src dst : TypeId} {x : Operand} {ty : TypeId} (hop : o.op = .convert src dst x) : Sound C P T O s a w m o (.convert src dst x) := by
  intro ρ dn K r hK
  replace hK : core T O dn (.convert src dst x) [s.op x] m K = some r := hK
  unfold core at hK
  dsimp only at hK
  split at hK
  · rename_i z k k' n hs hd hx
    exact ⟨_, _, hK, fun _ => (g_conv_int hT h hop hx hs hd rfl).gw⟩
  · rename_i e hs hd
    split at hK
    · rename_i he hx
      exact ⟨_, _, hK, fun _ => (g_conv_str_nil hT h hop hs hd he hx).gw⟩
    · rename_i he hne
      split at hK
      · rename_i e' xs hr
        exact ⟨_, _, hK, fun _ => (g_conv_str hT h hm hop hs hd he hr).gw⟩
      · cases hK
    · cases hK
  · cases hK
theorem s_alloc (hT : TabOK P T) (h : Sim C s a w R E) {m : Mem} {o : Oper} {e : TypeId} (hop : o.op = .alloc e) : Sound C P T O s a w m o (.alloc e) := by
  intro ρ dn K r hK
  replace hK : core T O dn (.alloc e) [] m K = some r := hK
  unfold core at hK
  dsimp only at hK
  split at hK
  · rename_i b t hl
    exact ⟨_, _, hK, fun hf => (g_alloc hT h hop hl (fresh1 hf)).gw⟩
  · cases hK
theorem s_box (h : Sim C s a w R E) {m : Mem} {o : Oper} {e : TypeId} {x : Operand} (hop : o.op = .box e x) : Sound C P T O s a w m o (.box e x) := by
  intro ρ dn K r hK
  replace hK : core T O dn (.box e x) [s.op x] m K = some r := hK
  unfold core at hK
  dsimp only at hK
  split at hK
  · rename_i hl
    exact ⟨_, _, hK, fun hf => (g_zbox h hop hl (fresh1 hf)).gw⟩
  · rename_i l _ hl
    exact ⟨_, _, hK, fun hf => (g_box h hop hl (fresh1 hf)).gw⟩
  · cases hK
theorem s_build (hT : TabOK P T) (h : Sim C s a w R E) {m : Mem} {o : Oper} {S : TypeId} {ps : Array (Nat × Operand)} (hop : o.op = .build S ps) : Sound C P T O s a w m o (.build S ps) := by
  intro ρ dn K r hK
  unfold core at hK
  dsimp only [Op.operands] at hK
  split at hK
  · rename_i t fs hl hf
    split at hK
    · rename_i cs hc
      exact ⟨_, _, hK, fun _ => (g_build hT h hop hl hf hc).gw⟩
    · cases hK
  · cases hK
theorem s_buildSlice (hT : TabOK P T) (h : Sim C s a w R E) {m : Mem} (hm : Sub m s.st) {o : Oper} {S : TypeId} {n : Nat} {ps : Array (Nat × Operand)} (hop : o.op = .buildSlice S n ps) : Sound C P T O s a w m o (.buildSlice S n ps) := by
  intro ρ dn K r hK
  unfold core at hK
  dsimp only [Op.operands] at hK
  split at hK
  · rename_i e he
    split at hK
    · rename_i b t hl
      obtain ⟨h1, hK⟩ := bif_some hK
      simp only [Bool.and_eq_true] at h1
      obtain ⟨⟨⟨h1, h2⟩, h3⟩, h5⟩ := h1
      split at hK
      · rename_i xs ow c hr
        obtain ⟨h6, hK⟩ := bif_some hK
        by_cases hn0 : 0 < n
        · refine ⟨_, _, hK, fun hf => (g_buildSlice hT h hm hop he hl (Nat.eq_of_beq_eq_true h1) h2 (Nat.le_of_ble_eq_true h3) (by rw [Nat.blt_eq] at h5; exact h5) hn0 ?_ h6 ?_).gw⟩
          · exact hr
          · rw [freshOk_app, Bool.and_eq_true, (gone_us c s).1] at hf
            exact fresh1 hf.2
        · have hn00 : n = 0 := by omega
          have hps : ps = #[] := Array.eq_empty_of_size_eq_zero (by rw [← Nat.eq_of_beq_eq_true h1]; exact hn00)
          subst hps
          subst hn00
          have hr' : rows m t [] = some (xs, ow, c) := hr
          simp only [rows, Option.some.injEq, Prod.mk.injEq] at hr'
          obtain ⟨rfl, rfl, rfl⟩ := hr'
          exact ⟨_, _, hK, fun hf => (g_buildSlice0 hT h hop he hl (by rw [Nat.blt_eq] at h5; exact h5) (fresh1 hf)).gw⟩
      · cases hK
    · cases hK
  · cases hK
theorem s_fieldAddr (hT : TabOK P T) (h : Sim C s a w R E) {m : Mem} (hm : Sub m s.st) {o : Oper} {S : TypeId} {x : Operand} {j : Nat} (hop : o.op = .fieldAddr S x j) : Sound C P T O s a w m o (.fieldAddr S x j) := by
  intro ρ dn K r hK
  replace hK : core T O dn (.fieldAddr S x j) [s.op x] m K = some r := hK
  unfold core at hK
  dsimp only at hK
  split at hK
  · rename_i off n b hf
    cases hn : Nat.beq n 0 with
    | true =>
      rw [hn] at hK
      dsimp only [cond_true] at hK
      split at hK
      · rename_i b hx
        split at hK
        · rename_i e i hb hz
          have hij := (bif_some hK).1
          have hK2 := (bif_some hK).2
          have hij := Nat.eq_of_beq_eq_true hij
          rw [hij] at hz
          clear hK
          split at hK2
          · rename_i ag t hl
            have h0 := (bif_some hK2).1
            exact ⟨_, _, (bif_some hK2).2, fun _ => (g_zfield hT h hop hx (hm _ _ hb) hz hl (Nat.eq_of_beq_eq_true h0)).gw⟩
          · cases hK2
        · cases hK
      · cases hK
    | false =>
      rw [hn] at hK
      dsimp only [cond_false] at hK
      have h0 : n ≠ 0 := fun e => by subst e; cases hn
      obtain ⟨k1, k2, k3⟩ := g_fieldAddr hT h hop hf h0
      split at hK
      · rename_i b q hx
        exact ⟨_, _, hK, fun _ => (k1 _ _ hx).gw⟩
      · rename_i b i q hx
        exact ⟨_, _, hK, fun _ => (k2 _ _ _ hx).gw⟩
      · rename_i t v q src hx
        exact ⟨_, _, hK, fun _ => (k3 _ _ _ _ hx).gw⟩
      · cases hK
  · cases hK
theorem s_nilCheck (h : Sim C s a w R E) {m : Mem} {o : Oper} {x : Operand} (hop : o.op = .nilCheck x) : Sound C P T O s a w m o (.nilCheck x) := by
  intro ρ dn K r hK
  replace hK : core T O dn (.nilCheck x) [s.op x] m K = some r := hK
  unfold core at hK
  dsimp only at hK
  split at hK
  · rename_i b q hx
    exact ⟨_, _, hK, fun _ => (g_nilCheck h hop (.inl ⟨b, q, hx⟩)).gw⟩
  · rename_i b i q hx
    exact ⟨_, _, hK, fun _ => (g_nilCheck h hop (.inr (.inl ⟨b, i, q, hx⟩))).gw⟩
  · rename_i t v q src hx
    exact ⟨_, _, hK, fun _ => (g_nilCheck h hop (.inr (.inr ⟨t, v, q, src, hx⟩))).gw⟩
  · cases hK
theorem s_store (hT : TabOK P T) (h : Sim C s a w R E) {m : Mem} (hm : Sub m s.st) {o : Oper} {L : TypeId} {x y : Operand} (hop : o.op = .store L x y) : Sound C P T O s a w m o (.store L x y) := by
  intro ρ dn K r hK
  replace hK : core T O dn (.store L x y) [s.op x, s.op y] m K = some r := hK
  unfold core at hK
  dsimp only at hK
  split at hK
  · rename_i b t l hl hf
    split at hK
    · rename_i b q hx
      split at hK
      · rename_i cs hb
        obtain ⟨h1, hK⟩ := bif_some hK
        simp only [Bool.and_eq_true] at h1
        exact ⟨_, _, hK, fun _ => (g_store_box hT h hop hl hx (hm _ _ hb) hf h1.1 (Nat.eq_of_beq_eq_true h1.2.1) (Nat.le_of_ble_eq_true h1.2.2)).gw⟩
      · cases hK
    · rename_i n i q hx
      split at hK
      · rename_i r' hb
        obtain ⟨h1, hK⟩ := bif_some hK
        simp only [Bool.and_eq_true] at h1
        split at hK
        · rename_i v ow used hp
          obtain ⟨h2, hK⟩ := bif_some hK
          exact ⟨_, _, hK, fun _ => (g_store_pel hT h hm hop hl hx hb hf h1.1 (Nat.eq_of_beq_eq_true h1.2.1) (Nat.le_of_ble_eq_true h1.2.2) hp h2).gw⟩
        · cases hK
      · cases hK
    · cases hK
  · cases hK
theorem s_field (hT : TabOK P T) (h : Sim C s a w R E) {m : Mem} {o : Oper} {S : TypeId} {x : Operand} {j : Nat} (hop : o.op = .field S x j) : Sound C P T O s a w m o (.field S x j) := by
  intro ρ dn K r hK
  replace hK : core T O dn (.field S x j) [s.op x] m K = some r := hK
  unfold core at hK
  dsimp only at hK
  split at hK
  · rename_i off n b l hf hx
    obtain ⟨h1, hK⟩ := bif_some hK
    exact ⟨_, _, hK, fun _ => (g_field hT h hop hf hx h1).gw⟩
  · cases hK
theorem s_indexAddr (hT : TabOK P T) (h : Sim C s a w R E) {m : Mem} (hm : Sub m s.st) {o : Oper} {S : TypeId} {x j : Operand} (hop : o.op = .indexAddr S x j) : Sound C P T O s a w m o (.indexAddr S x j) := by
  intro ρ dn K r hK
  replace hK : core T O dn (.indexAddr S x j) [s.op x, s.op j] m K = some r := hK
  cases hj : s.op j with
  | int k i =>
    rw [hj] at hK
    unfold core at hK
    dsimp only at hK
    split at hK
    · rename_i e t xs src hx
      obtain ⟨h1, hK⟩ := bif_some hK
      simp only [Bool.and_eq_true, decide_eq_true_eq] at h1
      exact ⟨_, _, hK, fun _ => (g_index_sl hT h hop hx hj (hm.live h1.1.1) h1.1.2 h1.2.1 h1.2.2).gw⟩
    · rename_i n hx
      split at hK
      · rename_i r' hb
        obtain ⟨h1, hK⟩ := bif_some hK
        simp only [Bool.and_eq_true, decide_eq_true_eq] at h1
        exact ⟨_, _, hK, fun _ => (g_index_ref hT h hop hx (hm _ _ hb) hj h1.1 h1.2.1 h1.2.2).gw⟩
      · cases hK
    · cases hK
  | _ => rw [hj] at hK; exact nomatch (show (none : Option ρ) = some r from hK)
theorem s_makeSlice (hT : TabOK P T) (h : Sim C s a w R E) {m : Mem} {o : Oper} {S : TypeId} {x y : Operand} (hop : o.op = .makeSlice S x y) : Sound C P T O s a w m o (.makeSlice S x y) := by
  intro ρ dn K r hK
  replace hK : core T O dn (.makeSlice S x y) [s.op x, s.op y] m K = some r := hK
  have non : ∀ {vx vy : AV}, (∀ p q, ¬ (vx = .int .i64 p ∧ vy = .int .i64 q)) → core T O dn (.makeSlice S x y) [vx, vy] m K = some r → False := by
    intro vx vy hn hK
    unfold core at hK
    split at hK <;> first | cases hK | skip
    all_goals (simp_all)
  by_cases hh : ∃ p q, s.op x = .int .i64 p ∧ s.op y = .int .i64 q
  · obtain ⟨p, q, hx, hy⟩ := hh
    rw [hx, hy] at hK
    unfold core at hK
    dsimp only at hK
    split at hK
    · rename_i e he
      split at hK
      · rename_i b t by_ hl hby
        obtain ⟨h1, hK⟩ := bif_some hK
        simp only [Bool.and_eq_true, decide_eq_true_eq, Nat.blt_eq] at h1
        exact ⟨_, _, hK, fun hf => (g_make hT h hop hx hy he hl hby h1.1.1 h1.1.2.1 h1.1.2.2 h1.2.1 h1.2.2 (fresh1 hf)).gw⟩
      · cases hK
    · cases hK
  · exact (non (fun p q hpq => hh ⟨p, q, hpq⟩) hK).elim
theorem s_extract (h : Sim C s a w R E) {m : Mem} {o : Oper} {x : Operand} {i : Nat} (hop : o.op = .extract x i) : Sound C P T O s a w m o (.extract x i) := by
  intro ρ dn K r hK
  replace hK : core T O dn (.extract x i) [s.op x] m K = some r := hK
  cases hx : s.op x with
  | tup l =>
    rw [hx] at hK
    unfold core at hK
    dsimp only at hK
    split at hK
    · rename_i v hv
      exact ⟨_, _, hK, fun _ => (g_extract h hop hx hv).gw⟩
    · cases hK
  | _ => rw [hx] at hK; exact nomatch (show (none : Option ρ) = some r from hK)
theorem s_slice (hT : TabOK P T) (h : Sim C s a w R E) {m : Mem} (hm : Sub m s.st) {o : Oper} {S : TypeId} {x : Operand} {lo hi mx : Option Operand} (hop : o.op = .slice S x lo hi mx) : Sound C P T O s a w m o (.slice S x lo hi mx) := by
  intro ρ dn K r hK
  cases mx with
  | some z =>
    have : (Op.slice S x lo hi (some z)).operands.toList.map s.op = s.op x :: ((lo.toArray ++ hi.toArray).toList.map s.op ++ [s.op z]) := by simp [Op.operands]
    rw [this] at hK
    exact nomatch (show (none : Option ρ) = some r from hK)
  | none =>
    replace hK : core T O dn (.slice S x lo hi none) (s.op x :: ((lo.toArray ++ hi.toArray).toList.map s.op)) m K = some r := by
      have : (Op.slice S x lo hi none).operands.toList.map s.op = s.op x :: ((lo.toArray ++ hi.toArray).toList.map s.op) := by simp [Op.operands]
      rw [this] at hK
      exact hK
    unfold core at hK
    dsimp only at hK
    split at hK
    · rename_i q hr
      split at hK
      · rename_i l u hb
        obtain ⟨h1, hK⟩ := bif_some hK
        simp only [Bool.and_eq_true, decide_eq_true_eq] at h1
        refine ⟨_, _, hK, fun _ => (g_slice hT h hm hop hr h1.1 ?_ ?_ h1.2.1 h1.2.2.1 h1.2.2.2).gw⟩
        · cases lo with
          | none => cases hi <;> simp [sliceBounds] at hb <;> (try split at hb) <;> simp_all
          | some z => cases hi <;> simp [sliceBounds] at hb <;> split at hb <;> simp_all
        · cases hi with
          | none => cases lo <;> simp [sliceBounds] at hb <;> (try split at hb) <;> simp_all
          | some z => cases lo <;> simp [sliceBounds] at hb <;> split at hb <;> simp_all
      · cases hK
    · cases hK
end Go.Ev

