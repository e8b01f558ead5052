/- A text of the claim: an evaluator of Go functions, and why it answers as they do. -/
import Derived.Test.YtkkjheildoclgaaEvRa
set_option linter.all false
set_option linter.unusedVariables false
set_option linter.unusedSimpArgs false
set_option autoImplicit false
set_option linter.unusedVariables false
namespace Go.Ev

/-! ### what is given to a call, and what comes back -/
def RepC (w : World) (R : Nat → Prop) : (f : Fm) → DenF f → Value → List Nat → Prop
  | .int k, x, v, F => v = .int k x ∧ F = []
  | .bool, x, v, F => v = .bool x ∧ F = []
  | .str, x, v, F => v = .string x ∧ F = []
  | .sl e t, x, v, F => RowAt w R t x v ∧ F = []
  | .own e t d, x, v, F => ∃ ds Fi, w.ownsRow 0 e t.sz v x.length ds ∧ F = v.ownBlock.toList ++ Fi ∧ All (Rp w R d t) x ds Fi
  | .pin _ e t d, x, v, F => ∃ ds Fi, w.ownsRow 0 e t.sz v x.length ds ∧ F = v.ownBlock.toList ++ Fi ∧ All (Rp w R d t) x ds Fi
  | .mp, x, v, F => ∃ g arr, v = .map (some g) ∧ w.heap[g]? = some (.map arr x.length) ∧ arr.toList = mpEnt 0 x ∧ F = [g]
  | .ptr t, x, v, F => (∃ ad ds, v = .pointer (some (Addr.add ad 0)) ∧ Rp w R false t x ds [] ∧ Cells w ad ds ∧ (ds ≠ [] → R ad.block)) ∧ F = []
  | _, _, _, _ => False
def RepCs (w : World) (R : Nat → Prop) : (f : Fm) → DenF f → List Value → List Nat → Prop
  | .nil, _, vs, F => vs = [] ∧ F = []
  | .cons a b, x, vs, F => ∃ v r F1 F2, vs = v :: r ∧ F = F1 ++ F2 ∧ RepC w R a x.1 v F1 ∧ RepCs w R b x.2 r F2
  | _, _, _, _ => False
def RepBox (w : World) (R : Nat → Prop) (f : Fm) (x : DenF f) (v : Value) (F : List Nat) : Prop :=
  ∃ b arr Ty F', v = .pointer (some ⟨b, 0, none⟩) ∧ w.heap[b]? = some (.cells arr Ty (0, 0)) ∧ F = F' ++ [b] ∧ RepCs w R f x arr.toList F'
def RepV0 (w : World) (R : Nat → Prop) : (f : Fm) → DenF f → Value → List Nat → Prop
  | .agg f, x, v, F => ∃ vs : List Value, v = .agg vs.toArray ∧ RepCs w R f x vs F
  | .box f, x, v, F => RepBox w R f x v F
  | .bx f, x, v, F => RepBox w R f x v F
  | f, x, v, F => RepC w R f x v F
def RepVs0 (w : World) (R : Nat → Prop) : (f : Fm) → DenF f → List Value → List Nat → Prop
  | .nil, _, vs, F => vs = [] ∧ F = []
  | .cons a b, x, vs, F => ∃ v r F1 F2, vs = v :: r ∧ F = F1 ++ F2 ∧ RepV0 w R a x.1 v F1 ∧ RepVs0 w R b x.2 r F2
  | _, _, _, _ => False
def RepV (w : World) (R : Nat → Prop) : (f : Fm) → DenF f → Value → List Nat → Prop
  | .clo f c, x, v, F => ∃ vs : List Value, v = .func (.func f) #[] vs.toArray ∧ RepVs0 w R c x vs F
  | .ifc X f, x, v, F => ∃ vs : List Value, v = .iface X (.agg vs.toArray) ∧ RepCs w R f x vs F
  | .alt a b, x, v, F => match x with
    | .inl y => RepV w R a y v F
    | .inr y => RepV w R b y v F
  | f, x, v, F => RepV0 w R f x v F
def RepVs (w : World) (R : Nat → Prop) : (f : Fm) → DenF f → List Value → List Nat → Prop
  | .nil, _, vs, F => vs = [] ∧ F = []
  | .cons a b, x, vs, F => ∃ v r F1 F2, vs = v :: r ∧ F = F1 ++ F2 ∧ RepV w R a x.1 v F1 ∧ RepVs w R b x.2 r F2
  | _, _, _, _ => False
def RepR (w : World) (R : Nat → Prop) : (f : Fm) → DenF f → Value → List Nat → Prop
  | .tup f, x, v, F => ∃ vs : List Value, v = .tuple vs.toArray ∧ RepVs w R f x vs F
  | f, x, v, F => RepV w R f x v F
/-- what comes back -/
def RepBC (w : World) (R : Nat → Prop) : (f : Fm) → DenB f → Value → List Nat → Prop
  | .pin _ e t d, x, v, F => ∃ ds Fi, w.ownsRow 0 e t.sz v x.length ds ∧ F = v.ownBlock.toList ++ Fi ∧ All (Rp w R d t) x ds Fi
  | _, _, _, F => F = []
def RepBCs (w : World) (R : Nat → Prop) : (f : Fm) → DenB f → List Value → List Nat → Prop
  | .nil, _, vs, F => vs = [] ∧ F = []
  | .cons a b, x, vs, F => ∃ v r F1 F2, vs = v :: r ∧ F = F1 ++ F2 ∧ RepBC w R a x.1 v F1 ∧ RepBCs w R b x.2 r F2
  | _, _, _, _ => False
def RepBV (w : World) (R : Nat → Prop) : (f : Fm) → DenB f → Value → List Nat → Prop
  | .agg f, x, v, F => if f.hasPin = true then ∃ vs : List Value, v = .agg vs.toArray ∧ RepBCs w R f x vs F else F = []
  | .bx f, x, v, F => RepBox w R f x v F
  | f, x, v, F => RepBC w R f x v F
def RepBVs (w : World) (R : Nat → Prop) : (f : Fm) → DenB f → List Value → List Nat → Prop
  | .nil, _, vs, F => vs = [] ∧ F = []
  | .cons a b, x, vs, F => ∃ v r F1 F2, vs = v :: r ∧ F = F1 ++ F2 ∧ RepBV w R a x.1 v F1 ∧ RepBVs w R b x.2 r F2
  | _, _, _, _ => False

variable {P : Program} {T : Tab} {C : Ctx} {s : St} {a : Act} {w : World} {R : Nat → Prop} {E : Env}

theorem RowAt.mono {R' : Nat → Prop} {t : CT} {xs : List (Den t)} {v : Value} (h : RowAt w R t xs v) (hR : ∀ b, R b → R' b) : RowAt w R' t xs v := by
  obtain ⟨A, c, ds, e, h1, h2, h3⟩ := h
  refine ⟨A, c, ds, e, h1, h2.own _ hR (by simp), fun hd => ?_⟩
  obtain ⟨ad, ea, hb, hc⟩ := h3 hd
  exact ⟨ad, ea, hR _ hb, hc⟩
theorem RepC.mono {R' : Nat → Prop} (hR : ∀ b, R b → R' b) {f : Fm} {x : DenF f} {v : Value} {F : List Nat} (h : RepC w R f x v F) : RepC w R' f x v F := by
  cases f with
  | int | bool | str | mp => exact h
  | sl e t => exact ⟨h.1.mono hR, h.2⟩
  | own e t d => obtain ⟨ds, Fi, h1, h2, h3⟩ := h; exact ⟨ds, Fi, h1, h2, h3.imp fun x c G _ _ hp => hp.keep (w' := w) (fun b hb => ⟨hR b hb, rfl⟩) (fun _ _ => rfl)⟩
  | pin k e t d => obtain ⟨ds, Fi, h1, h2, h3⟩ := h; exact ⟨ds, Fi, h1, h2, h3.imp fun x c G _ _ hp => hp.keep (w' := w) (fun b hb => ⟨hR b hb, rfl⟩) (fun _ _ => rfl)⟩
  | ptr t => obtain ⟨⟨ad, ds, h1, h2, h3, h4⟩, h5⟩ := h; exact ⟨⟨ad, ds, h1, h2.keep (w' := w) (fun b hb => ⟨hR b hb, rfl⟩) (fun _ _ => rfl), h3, fun hd => hR _ (h4 hd)⟩, h5⟩
  | _ => exact h.elim
theorem RepCs.mono {R' : Nat → Prop} (hR : ∀ b, R b → R' b) {f : Fm} : ∀ {x : DenF f} {v : List Value} {F : List Nat}, RepCs w R f x v F → RepCs w R' f x v F := by
  induction f with
  | nil => intro x v F h; exact h
  | cons a b _ ih => rintro x v F ⟨v, r, F1, F2, e1, e2, h1, h2⟩; exact ⟨v, r, F1, F2, e1, e2, h1.mono hR, ih h2⟩
  | _ => intro x v F h; exact h.elim
theorem RepBox.mono {R' : Nat → Prop} (hR : ∀ b, R b → R' b) {f : Fm} {x : DenF f} {v : Value} {F : List Nat} (h : RepBox w R f x v F) : RepBox w R' f x v F := by
  obtain ⟨b, arr, Ty, F', e1, e2, e3, h⟩ := h; exact ⟨b, arr, Ty, F', e1, e2, e3, h.mono hR⟩
theorem RepV0.mono {R' : Nat → Prop} (hR : ∀ b, R b → R' b) {f : Fm} {x : DenF f} {v : Value} {F : List Nat} (h : RepV0 w R f x v F) : RepV0 w R' f x v F := by
  cases f with
  | agg f => obtain ⟨vs, e, h⟩ := h; exact ⟨vs, e, h.mono hR⟩
  | box f => exact RepBox.mono hR h
  | bx f => exact RepBox.mono hR h
  | _ => simp only [RepV0] at h ⊢; exact RepC.mono hR h
theorem RepVs0.mono {R' : Nat → Prop} (hR : ∀ b, R b → R' b) {f : Fm} : ∀ {x : DenF f} {v : List Value} {F : List Nat}, RepVs0 w R f x v F → RepVs0 w R' f x v F := by
  induction f with
  | nil => intro x v F h; exact h
  | cons a b _ ih => rintro x v F ⟨v, r, F1, F2, e1, e2, h1, h2⟩; exact ⟨v, r, F1, F2, e1, e2, h1.mono hR, ih h2⟩
  | _ => intro x v F h; exact h.elim
theorem RepV.mono {R' : Nat → Prop} (hR : ∀ b, R b → R' b) {f : Fm} : ∀ {x : DenF f} {v : Value} {F : List Nat}, RepV w R f x v F → RepV w R' f x v F := by
  induction f with
  | clo f c _ => rintro x v F ⟨vs, e, h⟩; exact ⟨vs, e, h.mono hR⟩
  | ifc X f _ => rintro x v F ⟨vs, e, h⟩; exact ⟨vs, e, h.mono hR⟩
  | alt a b iha ihb =>
    intro x v F h
    cases x with
    | inl y => exact iha h
    | inr y => exact ihb h
  | _ => intro x v F h; simp only [RepV] at h ⊢; exact RepV0.mono hR h
theorem RepVs.mono {R' : Nat → Prop} (hR : ∀ b, R b → R' b) {f : Fm} : ∀ {x : DenF f} {v : List Value} {F : List Nat}, RepVs w R f x v F → RepVs w R' f x v F := by
  induction f with
  | nil => intro x v F h; exact h
  | cons a b _ ih => rintro x v F ⟨v, r, F1, F2, e1, e2, h1, h2⟩; exact ⟨v, r, F1, F2, e1, e2, h1.mono hR, ih h2⟩
  | _ => intro x v F h; exact h.elim

def lentR (E : Env) (R : Nat → Prop) (l : List Nat) : Nat → Prop := fun b => R b ∨ ∃ n, n ∈ l ∧ b ∈ E.F n
theorem lentR_l {l l' : List Nat} (b : Nat) (h : lentR E R l b) : lentR E R (l ++ l') b := h.imp id fun ⟨n, h1, h2⟩ => ⟨n, by simp [h1], h2⟩
theorem lentR_r {l l' : List Nat} (b : Nat) (h : lentR E R l' b) : lentR E R (l ++ l') b := h.imp id fun ⟨n, h1, h2⟩ => ⟨n, by simp [h1], h2⟩

/-- what comes back, name by name -/
def BackOK (w' : World) (R' : Nat → Prop) (m : Mem) (V : Nat → Value) (F : Nat → List Nat) (G0 : List Nat) : List W → List Nat → Prop
  | [], G => G = []
  | x :: r, G => ∃ G1 G2 q q', G = G1 ++ G2 ∧ x = ⟨x.n, some (.root q'), false⟩ ∧ m x.n = some (.root q) ∧ q.ver < q'.ver ∧ q'.xs.length = q.xs.length ∧ q'.t.sz = q.t.sz ∧
      (∃ ds Fi, w'.ownsRow 0 q'.e q'.t.sz (V x.n) q'.xs.length ds ∧ All (Rp w' R' q'.deep q'.t) q'.xs ds Fi ∧ ((V x.n).ownBlock.toList ++ Fi).Nodup ∧ ∀ b, b ∈ (V x.n).ownBlock.toList ++ Fi → b ∈ G1 ∨ (b ∈ F x.n ∧ b ∉ G0)) ∧ BackOK w' R' m V F G0 r G2
theorem BackOK.app {w' : World} {R' : Nat → Prop} {m : Mem} {V : Nat → Value} {Fn : Nat → List Nat} {G0 : List Nat} : ∀ {l k : List W} {G H : List Nat}, BackOK w' R' m V Fn G0 l G → BackOK w' R' m V Fn G0 k H → BackOK w' R' m V Fn G0 (l ++ k) (G ++ H)
  | [], _, _, _, h, h' => by rw [show _ = [] from h]; exact h'
  | _ :: _, _, _, _, ⟨G1, G2, q, q', e, e1, e2, e3, e4, e5, e6, h⟩, h' => ⟨G1, _, q, q', by rw [e, List.append_assoc], e1, e2, e3, e4, e5, e6, h.app h'⟩
/-- from the world at the call to the world behind it -/
structure Behind (w : World) (R : Nat → Prop) (E : Env) (G0 : List Nat) (w' : World) (R' : Nat → Prop) (wr G : List Nat) : Prop where
  rd : ∀ b, R b → R' b ∧ w'.heap[b]? = w.heap[b]?
  same : ∀ n b, n ∈ wr → b ∈ E.F n → b ∉ G0 → w'.heap[b]? = w.heap[b]?
  lent : ∀ n b, n ∈ wr → b ∈ E.F n → b ∈ G0 → b ∈ G
/-- what is lent for an argument, and what may come back for it -/
structure LentOK (w : World) (R : Nat → Prop) (s : St) (E : Env) (l wr G : List Nat) (rep : Prop) (back : World → (Nat → Prop) → List W → List Nat → Prop) : Prop where
  rep : rep
  nd : wr.Nodup → G.Nodup
  own : ∀ b, b ∈ G → ∃ n, n ∈ wr ∧ b ∈ E.F n
  us : ∀ n, n ∈ l ∨ n ∈ wr → s.us n = true
  back : wr.Nodup → ∀ (G0 : List Nat) (w' : World) (R' : Nat → Prop) (ws : List W) (G' : List Nat), Behind w R E G0 w' R' wr G → back w' R' ws G' → (∀ b, b ∈ G' → w.heap.size ≤ b ∨ b ∈ G0) → G'.Nodup → BackOK w' R' s.st E.V E.F G0 ws G'

theorem ownsRow_len {w w' : World} {e e' sz sz' n n' : Nat} {v : Value} {ds ds' : List Value} (h : w.ownsRow 0 e sz v n ds) (h' : w'.ownsRow 0 e' sz' v n' ds') : n = n' := by
  rcases h.2 with ⟨rfl, h1⟩ | ⟨g, cap, cur, rfl, _⟩
  · rcases h'.2 with ⟨_, h2⟩ | ⟨g, cap, cur, e, _⟩
    · rw [h1, h2]
    · cases e
  · rcases h'.2 with ⟨e, _⟩ | ⟨g, cap, cur, e, _⟩
    · cases e
    · injection e
/-- a row inside an element, and what puts another in its place -/
theorem Rp.inner {w : World} {R : Nat → Prop} : ∀ {t : CT} {x : Den t} {cs : List Value} {F : List Nat} {off : Nat} {r : Row}, Rp w R true t x cs F → getRow t x off = some r →
    ∃ v Fa Gi Fb, cs[off]? = some v ∧ F = Fa ++ Gi ++ Fb ∧ Rp w R true (.sl r.e r.t) r.xs [v] Gi ∧
      ∀ (w' : World) (R' : Nat → Prop) (y : List (Den r.t)) (z : Den t) (G' : List Nat), setRow r.t y t x off = some z → (∀ b, R b → R' b ∧ w'.heap[b]? = w.heap[b]?) → (∀ b, b ∈ Fa → w'.heap[b]? = w.heap[b]?) → (∀ b, b ∈ Fb → w'.heap[b]? = w.heap[b]?) → Rp w' R' true (.sl r.e r.t) y [v] G' → Rp w' R' true t z cs (Fa ++ G' ++ Fb)
  | .int _, _, _, _, _, _, _, h => by simp [getRow] at h
  | .bool, _, _, _, _, _, _, h => by simp [getRow] at h
  | .str, _, _, _, _, _, _, h => by simp [getRow] at h
  | .nil, _, _, _, _, _, _, h => by simp [getRow] at h
  | .sl e t, x, cs, F, off, r, h, hg => by
    simp only [getRow] at hg
    cases ho : Nat.beq off 0 with
    | false => rw [ho] at hg; simp at hg
    | true =>
      rw [ho] at hg
      simp only [cond_true, Option.some.injEq] at hg
      subst hg
      obtain rfl := Nat.eq_of_beq_eq_true ho
      obtain ⟨v, ds, Fi, e1, h1, e2, h2⟩ := h
      refine ⟨v, [], F, [], by rw [e1]; rfl, by simp, ⟨v, ds, Fi, rfl, h1, e2, h2⟩, fun w' R' y z G' hs _ _ _ hy => ?_⟩
      simp only [setRow, dite_true, ho, cond_true, Option.some.injEq] at hs
      subst hs
      rw [e1]
      simpa using hy
  | .cons a b, x, cs, F, off, r, ⟨c1, c2, F1, F2, e1, e2, h1, h2⟩, hg => by
    simp only [getRow] at hg
    have l1 := h1.len
    cases hlt : Nat.blt off a.sz with
    | true =>
      rw [hlt] at hg
      have hl : off < a.sz := by rw [Nat.blt_eq] at hlt; exact hlt
      obtain ⟨v, Fa, Gi, Fb, k1, k2, k3, k4⟩ := h1.inner hg
      refine ⟨v, Fa, Gi, Fb ++ F2, by rw [e1, List.getElem?_append_left (by omega)]; exact k1, by rw [e2, k2]; simp, k3, fun w' R' y z G' hs hR ha hb hy => ?_⟩
      simp only [setRow, hlt, cond_true] at hs
      split at hs
      · rename_i z' hz
        simp only [Option.some.injEq] at hs
        subst hs
        exact ⟨c1, c2, Fa ++ G' ++ Fb, F2, e1, by simp, k4 w' R' y z' G' hz hR ha (fun b hb' => hb b (by simp [hb'])) hy, h2.keep hR (fun b hb' => hb b (by simp [hb']))⟩
      · cases hs
    | false =>
      rw [hlt] at hg
      have hl : ¬ off < a.sz := fun hc => by rw [← Nat.blt_eq] at hc; rw [hc] at hlt; cases hlt
      obtain ⟨v, Fa, Gi, Fb, k1, k2, k3, k4⟩ := h2.inner hg
      refine ⟨v, F1 ++ Fa, Gi, Fb, by rw [e1, List.getElem?_append_right (by omega), l1]; exact k1, by rw [e2, k2]; simp, k3, fun w' R' y z G' hs hR ha hb hy => ?_⟩
      simp only [setRow, hlt, cond_false] at hs
      split at hs
      · rename_i z' hz
        simp only [Option.some.injEq] at hs
        subst hs
        exact ⟨c1, c2, F1, Fa ++ G' ++ Fb, e1, by simp, h1.keep hR (fun b hb' => ha b (by simp [hb'])), k4 w' R' y z' G' hz hR (fun b hb' => ha b (by simp [hb'])) hb hy⟩
      · cases hs

/-- nothing is lent to be written -/
theorem LentOK.plain {l : List Nat} {rep : Prop} {back : World → (Nat → Prop) → List W → List Nat → Prop} (hr : rep) (hu : ∀ n, n ∈ l → s.us n = true) (hb : ∀ w' R' ws G', back w' R' ws G' → ws = [] ∧ G' = []) : LentOK w R s E l [] [] rep back :=
  ⟨hr, fun _ => by simp, fun b hb => by simp at hb, fun n hn => hn.elim (hu n) (fun h => by simp at h), fun _ G0 w' R' ws G' _ h _ _ => by
    obtain ⟨rfl, rfl⟩ := hb w' R' ws G' h
    rfl⟩
theorem RC.rv0 {w : World} {R : Nat → Prop} {m : Mem} {us : Nat → Bool} {E : Env} {y : AV} {v : Value} (h : RC w R m us E y v) : RV0 w R m us E y v := by
  cases y with
  | agg cs => exact h.elim
  | _ => exact h
theorem RV0.rv1 {w : World} {R : Nat → Prop} {m : Mem} {us : Nat → Bool} {E : Env} {y : AV} {v : Value} (h : RV0 w R m us E y v) : RV1 w R m us E y v := by
  cases y with
  | clo f cs => exact h.elim
  | ifc f cs => exact h.elim
  | _ => exact h
theorem RC.rv1 {w : World} {R : Nat → Prop} {m : Mem} {us : Nat → Bool} {E : Env} {y : AV} {v : Value} (h : RC w R m us E y v) : RV1 w R m us E y v := h.rv0.rv1
/-- a row that is only read: where it lies -/
theorem Sim.rowOf' (h : Sim C s a w R E) {m : Mem} (hm : Sub m s.st) {x : AV} {v : Value} (hv : RC w R s.st s.us E x v) {r : Row} (hr : Go.Ev.rowOf m x = some r) : RowAt w (lentR E R (names1 x)) r.t r.xs v ∧ ∀ n, n ∈ names1 x → s.us n = true := by
  cases x with
  | sl e t xs src =>
    cases src with
    | imm =>
      simp only [Go.Ev.rowOf, Option.some.injEq] at hr
      subst hr
      exact ⟨(rowAt_of (hv.2.2.1 rfl)).mono (fun b hb => .inl hb), by simp [names1]⟩
    | inn n ver pos =>
      have hl : liveSrc m (.inn n ver pos) = true ∧ r = ⟨e, t, xs⟩ := by
        simp only [Go.Ev.rowOf] at hr
        cases hmn : m n with
        | none => rw [hmn] at hr; simp at hr
        | some en =>
          rw [hmn] at hr
          cases en with
          | box cs | mp es | zb ze => simp at hr
          | root q =>
            simp only at hr
            cases hver : Nat.beq q.ver ver with
            | false => rw [hver] at hr; simp at hr
            | true =>
              rw [hver] at hr
              simp only [cond_true, Option.some.injEq] at hr
              refine ⟨?_, hr.symm⟩
              show (match m n with | some (.root q) => Nat.beq q.ver ver | _ => false) = true
              rw [hmn]
              exact hver
      obtain ⟨hl, rfl⟩ := hl
      exact ⟨(rowAt_of (hv.2.2.1 (hm.live hl))).mono (fun b hb => hb.imp id fun hb => ⟨n, by simp [names1], hb⟩), by simp [names1, hv.1.1]⟩
  | ref n =>
    simp only [Go.Ev.rowOf] at hr
    cases hmn : m n with
    | none => rw [hmn] at hr; simp at hr
    | some en =>
      rw [hmn] at hr
      cases en with
      | box cs | mp es | zb ze => simp at hr
      | root q =>
        simp only [Option.some.injEq] at hr
        subst hr
        obtain ⟨hu, hv', _⟩ := hv
        rw [hv']
        exact ⟨(h.rootRow (hm n _ hmn)).mono (fun b hb => hb.imp id fun hb => ⟨n, by simp [names1], hb⟩), by simp [names1, hu]⟩
  | _ => simp [Go.Ev.rowOf] at hr
theorem viewC_ok (h : Sim C s a w R E) {m : Mem} (hm : Sub m s.st) : ∀ {t : CT} {l : List AV} {x : Den t} {c : List Nat} {rest : List AV} {vs : List Value}, viewC m t l = some (x, c, rest) → L2 (RC w R s.st s.us E) l vs →
    ∃ v1 v2, vs = v1 ++ v2 ∧ L2 (RC w R s.st s.us E) rest v2 ∧ (∀ n, n ∈ c → s.us n = true) ∧ Rp w (lentR E R c) false t x v1 []
  | .int k, l, x, c, rest, vs, he, hl => by
    cases l with
    | nil => simp [viewC] at he
    | cons y r =>
      cases y with
      | int k' n =>
        simp only [viewC] at he
        by_cases hk : k' = k
        · subst hk
          simp only [decide_true, cond_true, Option.some.injEq, Prod.mk.injEq] at he
          obtain ⟨rfl, rfl, rfl⟩ := he
          obtain ⟨v, vs', e, h1, h2⟩ := hl
          exact ⟨[v], vs', e, h2, by simp, by rw [show v = _ from h1], rfl⟩
        · simp [hk] at he
      | _ => simp [viewC] at he
  | .bool, l, x, c, rest, vs, he, hl => by
    cases l with
    | nil => simp [viewC] at he
    | cons y r =>
      cases y with
      | bool b =>
        simp only [viewC, Option.some.injEq, Prod.mk.injEq] at he
        obtain ⟨rfl, rfl, rfl⟩ := he
        obtain ⟨v, vs', e, h1, h2⟩ := hl
        exact ⟨[v], vs', e, h2, by simp, by rw [show v = _ from h1], rfl⟩
      | _ => simp [viewC] at he
  | .str, l, x, c, rest, vs, he, hl => by
    cases l with
    | nil => simp [viewC] at he
    | cons y r =>
      cases y with
      | str b =>
        simp only [viewC, Option.some.injEq, Prod.mk.injEq] at he
        obtain ⟨rfl, rfl, rfl⟩ := he
        obtain ⟨v, vs', e, h1, h2⟩ := hl
        exact ⟨[v], vs', e, h2, by simp, by rw [show v = _ from h1], rfl⟩
      | _ => simp [viewC] at he
  | .sl e t, l, x, c, rest, vs, he, hl => by
    cases l with
    | nil => simp [viewC] at he
    | cons y r =>
      obtain ⟨v, vs', e1, h1, h2⟩ := hl
      have gen : (match Go.Ev.rowOf m y with
          | some q => if h : q.t = t then some (h ▸ q.xs, names1 y, r) else none
          | none => (none : Option (List (Den t) × List Nat × List AV))) = some (x, c, rest) → ∃ v1 v2, vs = v1 ++ v2 ∧ L2 (RC w R s.st s.us E) rest v2 ∧ (∀ n, n ∈ c → s.us n = true) ∧ Rp w (lentR E R c) false (.sl e t) x v1 [] := by
        intro he
        cases hr : Go.Ev.rowOf m y with
        | none => rw [hr] at he; cases he
        | some q =>
          rw [hr] at he
          obtain ⟨qe, qt, qxs⟩ := q
          simp only at he
          by_cases ht : qt = t
          · subst ht
            simp only [dite_true, Option.some.injEq, Prod.mk.injEq] at he
            obtain ⟨rfl, rfl, rfl⟩ := he
            obtain ⟨⟨A, cp, ds, e2, h3, h4, h5⟩, h6⟩ := h.rowOf' hm h1 hr
            refine ⟨[v], vs', e1, h2, h6, A, cp, ds, by rw [e2], rfl, h3, h4, fun hd => ?_⟩
            obtain ⟨ad, ea, hb, hc⟩ := h5 hd
            exact ⟨ad, ea, hb, hc⟩
          · simp [ht] at he
      cases y with
      | nilsl =>
        simp only [viewC, Option.some.injEq, Prod.mk.injEq] at he
        obtain ⟨rfl, rfl, rfl⟩ := he
        exact ⟨[v], vs', e1, h2, by simp, none, 0, [], by rw [show v = _ from h1]; rfl, rfl, Nat.le_refl _, ⟨rfl, rfl⟩, fun hd => absurd rfl hd⟩
      | _ => exact gen he
  | .nil, l, x, c, rest, vs, he, hl => by
    simp only [viewC, Option.some.injEq, Prod.mk.injEq] at he
    obtain ⟨_, rfl, rfl⟩ := he
    exact ⟨[], vs, rfl, hl, by simp, rfl, rfl⟩
  | .cons t1 t2, l, x, c, rest, vs, he, hl => by
    simp only [viewC] at he
    split at he
    · rename_i x1 c1 r1 h1
      split at he
      · rename_i x2 c2 r2 h2
        simp only [Option.some.injEq, Prod.mk.injEq] at he
        obtain ⟨rfl, rfl, rfl⟩ := he
        obtain ⟨v1, v2, e1, k1, k2, k3⟩ := viewC_ok h hm h1 hl
        obtain ⟨v3, v4, e2, k4, k5, k6⟩ := viewC_ok h hm h2 k1
        refine ⟨v1 ++ v3, v4, by rw [e1, e2, List.append_assoc], k4, fun n hn => ?_, v1, v3, [], [], rfl, rfl, k3.keep (w' := w) (fun b hb => ⟨lentR_l b hb, rfl⟩) (fun _ _ => rfl), k6.keep (w' := w) (fun b hb => ⟨lentR_r b hb, rfl⟩) (fun _ _ => rfl)⟩
        rcases List.mem_append.1 hn with hn | hn
        · exact k2 n hn
        · exact k5 n hn
      · cases he
    · cases he
/-- data behind a pointer that are only read -/
theorem lend_ptr (h : Sim C s a w R E) {m : Mem} (hm : Sub m s.st) {t : CT} {y : AV} {v : Value} (hv : RV1 w R s.st s.us E y v) {x : Den t} {l wr : List Nat} (he : lendCell m (.ptr t) y = some (x, l, wr)) :
    wr = [] ∧ RepC w (lentR E R l) (.ptr t) x v [] ∧ ∀ n, n ∈ l → s.us n = true := by
  cases y with
  | pro t' x' o src =>
    have hv' : RC w R s.st s.us E (.pro t' x' o src) v := hv
    cases o with
    | succ o => cases src <;> simp [lendCell] at he
    | zero =>
      cases src with
      | imm =>
        simp only [lendCell] at he
        by_cases ht : t' = t
        · subst ht
          simp only [dite_true, Option.some.injEq, Prod.mk.injEq] at he
          obtain ⟨rfl, rfl, rfl⟩ := he
          obtain ⟨ad, ds, e1, h1, h2, h3⟩ := hv'.2.2 rfl
          exact ⟨rfl, ⟨⟨ad, ds, e1, h1.keep (w' := w) (fun b hb => ⟨.inl hb, rfl⟩) (fun _ _ => rfl), h2, fun hd => .inl (h3 hd)⟩, rfl⟩, by simp⟩
        · simp [ht] at he
      | inn n ver p =>
        simp only [lendCell] at he
        by_cases ht : t' = t
        · subst ht
          simp only [dite_true] at he
          cases hc : liveSrc m (.inn n ver p) with
          | false => rw [hc] at he; simp at he
          | true =>
            rw [hc] at he
            simp only [cond_true, Option.some.injEq, Prod.mk.injEq] at he
            obtain ⟨rfl, rfl, rfl⟩ := he
            obtain ⟨ad, ds, e1, h1, h2, h3⟩ := hv'.2.2 (hm.live hc)
            have hR : ∀ b, RS R E (.inn n ver p) b → lentR E R [n] b := fun b hb => hb.imp id fun hb => ⟨n, by simp, hb⟩
            exact ⟨rfl, ⟨⟨ad, ds, e1, h1.keep (w' := w) (fun b hb => ⟨hR b hb, rfl⟩) (fun _ _ => rfl), h2, fun hd => hR _ (h3 hd)⟩, rfl⟩, by simp [hv'.1.1]⟩
        · simp [ht] at he
  | pbox b o =>
    have hv' : RC w R s.st s.us E (.pbox b o) v := hv
    cases o with
    | succ o => simp [lendCell] at he
    | zero =>
      simp only [lendCell] at he
      split at he
      · rename_i cs hb
        split at he
        · rename_i x1 l1 hvw
          simp only [Option.some.injEq, Prod.mk.injEq] at he
          obtain ⟨rfl, rfl, rfl⟩ := he
          obtain ⟨hF, arr, Ty, hg, hrc⟩ := h.box (hm b _ hb)
          obtain ⟨v1, v2, e1, k1, k2, k3⟩ := viewC_ok h hm hvw hrc
          have k1' : v2 = [] := k1
          subst k1'
          rw [List.append_nil] at e1
          refine ⟨rfl, ⟨⟨⟨E.B b, 0, none⟩, v1, ?_, k3.keep (w' := w) (fun c hc => ⟨hc.imp id fun ⟨n, h1, h2⟩ => ⟨n, by simp [h1], h2⟩, rfl⟩) (fun _ _ => rfl), fun j u hj => ?_, fun _ => .inr ⟨b, by simp, by rw [hF]; simp⟩⟩, rfl⟩, fun n hn => ?_⟩
          · rw [hv'.2]
            simp [Addr.add]
          · have had : (⟨E.B b, 0, none⟩ : Addr).add j = ⟨E.B b, j, none⟩ := by unfold Addr.add; split <;> simp_all
            rw [had]
            unfold World.cell?
            rw [hg]
            simp only [Option.isSome_none, Bool.false_eq_true, if_false]
            rw [← e1, Array.getElem?_toList] at hj
            exact hj
          · rcases List.mem_cons.1 hn with rfl | hn
            · exact hv'.1
            · exact k2 n hn
        · cases he
      · cases he
  | _ => simp [lendCell] at he
/-- an owned row given up -/
theorem LentOK.give (h : Sim C s a w R E) {n : Nat} {rep : Prop} {back : World → (Nat → Prop) → List W → List Nat → Prop} (hr : rep) (hu : s.us n = true) (hb : ∀ w' R' ws G', back w' R' ws G' → ws = [] ∧ G' = []) : LentOK w R s E [] [n] (E.F n) rep back :=
  ⟨hr, fun _ => h.nd n, fun b hb => ⟨n, by simp, hb⟩, fun k hk => by
    rcases hk with hk | hk
    · simp at hk
    · simp only [List.mem_singleton] at hk; subst hk; exact hu, fun _ G0 w' R' ws G' _ h _ _ => by
    obtain ⟨rfl, rfl⟩ := hb w' R' ws G' h
    rfl⟩
theorem repB_nil {w' : World} {R' : Nat → Prop} {n : Nat} {e : TypeId} {t : CT} {d : Bool} {z : List (Den t)} {G' : List Nat} (h : RepBC w' R' (.pin n e t d) z (.slice none 0 0) G') : G' = [] := by
  obtain ⟨ds, Fi, h1, h2, h3⟩ := h
  have hx : z.length = 0 := by
    rcases h1.2 with ⟨_, h4⟩ | ⟨g, cap, cur, e, _⟩
    · exact h4
    · cases e
  have hx2 : z = [] := List.eq_nil_of_length_eq_zero hx
  subst hx2
  rw [h2, h3.2]
  rfl
/-- a whole row lent to be written -/
theorem lend_ref (h : Sim C s a w R E) {m : Mem} (hm : Sub m s.st) {k n : Nat} {e : TypeId} {t : CT} {d : Bool} {v : Value} (hv : RC w R s.st s.us E (.ref n) v) {x : List (Den t)} {l wr : List Nat} (he : lendCell m (.pin k e t d) (.ref n) = some (x, l, wr)) :
    ∃ G, LentOK w R s E l wr G (RepC w (lentR E R l) (.pin k e t d) x v G) (fun w' R' ws G' => ∃ z, backCell m (.pin k e t d) (.ref n) z = some ws ∧ RepBC w' R' (.pin k e t d) z v G') := by
  simp only [lendCell] at he
  cases hmn : m n with
  | none => rw [hmn] at he; simp at he
  | some en =>
    rw [hmn] at he
    cases en with
    | box cs | mp es | zb ze => simp at he
    | root q =>
      obtain ⟨qe, qt, qxs, qd, qp, qv⟩ := q
      simp only at he
      by_cases ht : qt = t
      · subst ht
        simp only [dite_true] at he
        cases hc : (Nat.beq qe e && (qd == d || !qt.hasSl)) with
        | false => rw [hc] at he; simp at he
        | true =>
          rw [hc] at he
          simp only [cond_true, Option.some.injEq, Prod.mk.injEq] at he
          obtain ⟨rfl, rfl, rfl⟩ := he
          simp only [Bool.and_eq_true, Bool.or_eq_true, Bool.not_eq_true', beq_iff_eq] at hc
          obtain rfl := Nat.eq_of_beq_eq_true hc.1
          obtain ⟨hu, hv', _⟩ := hv
          obtain ⟨_, _, ds, Fi, h1, h2, h3⟩ := h.root (hm n _ hmn)
          subst hv'
          have hrep : RepC w (lentR E R []) (.pin k qe qt d) qxs (E.V n) (E.F n) := by
            rcases hc.2 with hd | hd
            · subst hd
              exact ⟨ds, Fi, h1, h2, h3.imp fun x c G _ _ hp => hp.keep (w' := w) (fun b hb => ⟨.inl hb, rfl⟩) (fun _ _ => rfl)⟩
            · have := (All.flatT (d' := qd) hd h3).1
              subst this
              exact ⟨ds, [], h1, h2, h3.flatAny hd⟩
          refine ⟨E.F n, hrep, fun _ => h.nd n, fun b hb => ⟨n, by simp, hb⟩, fun j hj => ?_, fun _ G0 w' R' ws G' _ hb _ hnd => ?_⟩
          · rcases hj with hj | hj
            · simp at hj
            · simp only [List.mem_singleton] at hj; subst hj; exact hu
          · obtain ⟨z, hz, hz2⟩ := hb
            simp only [backCell, hmn] at hz
            cases hsz : Nat.beq qt.sz qt.sz with
            | false => rw [hsz] at hz; simp at hz
            | true =>
              rw [hsz] at hz
              simp only [cond_true, Option.some.injEq] at hz
              subst hz
              obtain ⟨ds', Fi', g1, g2, g3⟩ := hz2
              exact ⟨G', [], _, _, by simp, rfl, hm n _ hmn, Nat.lt_succ_self _, (ownsRow_len h1 g1).symm, rfl, ⟨ds', Fi', g1, g3, by rw [← g2]; exact hnd, fun b hb => .inl (by rw [g2]; exact hb)⟩, rfl⟩
      · simp [ht] at he
/-- a row inside an element lent to be written -/
theorem lend_inn (h : Sim C s a w R E) {m : Mem} (hm : Sub m s.st) {k n ver : Nat} {i : Int} {o : Nat} {e e' : TypeId} {t t' : CT} {xs : List (Den t')} {d : Bool} {v : Value} (hv : RC w R s.st s.us E (.sl e' t' xs (.inn n ver (some (i, o)))) v) {x : List (Den t)} {l wr : List Nat} (he : lendCell m (.pin k e t d) (.sl e' t' xs (.inn n ver (some (i, o)))) = some (x, l, wr)) :
    ∃ G, LentOK w R s E l wr G (RepC w (lentR E R l) (.pin k e t d) x v G) (fun w' R' ws G' => ∃ z, backCell m (.pin k e t d) (.sl e' t' xs (.inn n ver (some (i, o)))) z = some ws ∧ RepBC w' R' (.pin k e t d) z v G') := by
  simp only [lendCell] at he
  cases hmn : m n with
  | none => rw [hmn] at he; simp at he
  | some en =>
    rw [hmn] at he
    cases en with
    | box cs | mp es | zb ze => simp at he
    | root q =>
      simp only at he
      cases hc : (Nat.beq q.ver ver && (q.deep && d)) with
      | false => rw [hc] at he; simp at he
      | true =>
        rw [hc] at he
        simp only [cond_true] at he
        cases hg : getRow q.t (q.xs.getD i.toNat q.t.z) o with
        | none => rw [hg] at he; simp at he
        | some r =>
          rw [hg] at he
          obtain ⟨re, rt, rxs⟩ := r
          simp only at he
          by_cases ht : rt = t
          · subst ht
            simp only [dite_true] at he
            cases hre : Nat.beq re e with
            | false => rw [hre] at he; simp at he
            | true =>
              rw [hre] at he
              simp only [cond_true, Option.some.injEq, Prod.mk.injEq] at he
              obtain ⟨rfl, rfl, rfl⟩ := he
              obtain rfl := Nat.eq_of_beq_eq_true hre
              simp only [Bool.and_eq_true] at hc
              obtain ⟨hver, hdp, rfl⟩ := hc
              have hlive : liveSrc s.st (.inn n ver (some (i, o))) = true := by
                show (match s.st n with | some (.root q) => Nat.beq q.ver ver | _ => false) = true
                rw [hm n _ hmn]
                exact hver
              obtain ⟨⟨hu, _⟩, _, _, hpos⟩ := hv
              obtain ⟨g, p1, p2, p3, p4, p5⟩ := hpos hlive
              obtain ⟨l1, l2, ds, Fi, h1, h2, h3⟩ := h.root (hm n _ hmn)
              rw [hdp] at h3
              have hi : i.toNat < q.xs.length := by omega
              obtain ⟨c1, c, c2, F1, Gx, F2, e1, e2, e3, e4, e5⟩ := h3.focus (n := q.t.sz) (fun x c G hp => hp.len) i.toNat hi
              rw [List.getD_eq_getElem?_getD, List.getElem?_eq_getElem hi, Option.getD_some] at hg
              obtain ⟨v', Fa, Gi, Fb, k1, k2, k3, k4⟩ := e4.inner hg
              have hvv : v' = v := by
                rcases h1.2 with ⟨hv0, _⟩ | ⟨g', cap, cur, hv0, _⟩
                · rw [hv0] at p1; simp [Value.ownBlock] at p1
                · have hgg : g' = g := by rw [hv0] at p1; simpa [Value.ownBlock] using p1
                  subst hgg
                  have hcell := h1.cells (g := g') p1 (i.toNat * q.t.sz + o) v' (by
                    rw [e1, List.append_assoc, List.getElem?_append_right (by omega), e3, Nat.add_sub_cancel_left, List.getElem?_append_left (by
                      have := (List.getElem?_eq_some_iff.1 k1).1
                      exact this)]
                    exact k1)
                  rw [l2] at p5
                  have had : (⟨g', 0, none⟩ : Addr).add (i.toNat * q.t.sz + o) = ⟨g', i.toNat * q.t.sz + o, none⟩ := by unfold Addr.add; split <;> simp_all
                  rw [← had, hcell] at p5
                  exact Option.some.inj p5
              subst hvv
              have hFn : E.F n = (E.V n).ownBlock.toList ++ (F1 ++ (Fa ++ Gi ++ Fb) ++ F2) := by rw [h2, e2, k2]
              have hsub : ∀ b, b ∈ Gi → b ∈ E.F n := fun b hb => by rw [hFn]; simp [hb]
              have hndF := h.nd n
              rw [hFn] at hndF
              refine ⟨Gi, ?_, fun _ => ?_, fun b hb => ⟨n, by simp, hsub b hb⟩, fun j hj => ?_, fun hwn G0 w' R' ws G' hB hb hG' hnd => ?_⟩
              · obtain ⟨v2, ds2, Fi2, a1, a2, a3, a4⟩ := k3
                simp only [List.cons.injEq, and_true] at a1
                subst a1
                exact ⟨ds2, Fi2, a2, a3, a4.imp fun x c G _ _ hp => hp.keep (w' := w) (fun b hb => ⟨.inl hb, rfl⟩) (fun _ _ => rfl)⟩
              · have a1 := (List.nodup_append.1 hndF).2.1
                have a2 := (List.nodup_append.1 (List.nodup_append.1 a1).1).2.1
                exact (List.nodup_append.1 (List.nodup_append.1 a2).1).2.1
              · rcases hj with hj | hj
                · simp at hj
                · simp only [List.mem_singleton] at hj; subst hj; exact hu
              · obtain ⟨z, hz, hz2⟩ := hb
                simp only [backCell, hmn] at hz
                rw [List.getD_eq_getElem?_getD, List.getElem?_eq_getElem hi, Option.getD_some] at hz
                split at hz
                · rename_i y hy
                  simp only [Option.some.injEq] at hz
                  subst hz
                  obtain ⟨n1, n2, n3⟩ := List.nodup_append.1 hndF
                  obtain ⟨n4, n5, n6⟩ := List.nodup_append.1 n2
                  obtain ⟨n7, n8, n9⟩ := List.nodup_append.1 n4
                  obtain ⟨n10, n11, n12⟩ := List.nodup_append.1 n8
                  obtain ⟨n13, n14, n15⟩ := List.nodup_append.1 n10
                  have hnotG : ∀ b, b ∈ E.F n → b ∉ Gi → b ∉ G0 := fun b hb hbG hb0 => hbG (hB.lent n b (by simp) hb hb0)
                  have o0 : ∀ b, b ∈ (E.V n).ownBlock.toList → b ∉ Gi := fun b hb hc => n3 b hb b (by simp [hc]) rfl
                  have o1 : ∀ b, b ∈ F1 → b ∉ Gi := fun b hb hc => n9 b hb b (by simp [hc]) rfl
                  have o2 : ∀ b, b ∈ F2 → b ∉ Gi := fun b hb hc => n6 b (by simp [hc]) b hb rfl
                  have oa : ∀ b, b ∈ Fa → b ∉ Gi := fun b hb hc => n15 b hb b hc rfl
                  have ob : ∀ b, b ∈ Fb → b ∉ Gi := fun b hb hc => n12 b (by simp [hc]) b hb rfl
                  have keepB : ∀ b, b ∈ E.F n → b ∉ Gi → w'.heap[b]? = w.heap[b]? := fun b hb hbG => hB.same n b (by simp) hb (hnotG b hb hbG)
                  have s0 : ∀ b, b ∈ (E.V n).ownBlock.toList → b ∈ E.F n := fun b hb => by rw [hFn]; exact List.mem_append.2 (.inl hb)
                  have s1 : ∀ b, b ∈ F1 → b ∈ E.F n := fun b hb => by rw [hFn]; simp [hb]
                  have s2 : ∀ b, b ∈ F2 → b ∈ E.F n := fun b hb => by rw [hFn]; simp [hb]
                  have sa : ∀ b, b ∈ Fa → b ∈ E.F n := fun b hb => by rw [hFn]; simp [hb]
                  have sb : ∀ b, b ∈ Fb → b ∈ E.F n := fun b hb => by rw [hFn]; simp [hb]
                  obtain ⟨ds2, Fi2, a1, a2, a3⟩ := hz2
                  have hnew : Rp w' R' true q.t y c (Fa ++ G' ++ Fb) := k4 w' R' z y G' hy hB.rd (fun b hb => keepB b (sa b hb) (oa b hb)) (fun b hb => keepB b (sb b hb) (ob b hb)) ⟨v', ds2, Fi2, rfl, a1, a2, a3⟩
                  have hAll := e5 (Rp w' R' true q.t) y c (Fa ++ G' ++ Fb) (fun x c H hH hp => hp.keep hB.rd (fun b hb => by
                    rcases hH b hb with hb | hb
                    · exact keepB b (s1 b hb) (o1 b hb)
                    · exact keepB b (s2 b hb) (o2 b hb))) hnew
                  have hlt : ∀ b, b ∈ E.F n → b < w.heap.size := fun b hb => (h.own n b hb).2.1
                  have hfreshG : ∀ b, b ∈ G' → ∀ b', b' ∈ E.F n → b' ∉ Gi → b ≠ b' := fun b hb b' hb' hbG e => by
                    subst e
                    rcases hG' b hb with hc | hc
                    · have := hlt b hb'; omega
                    · exact hnotG b hb' hbG hc
                  refine ⟨G', [], q, ⟨q.e, q.t, q.xs.set i.toNat y, q.deep, q.pin, q.ver + 1⟩, by simp, rfl, hm n _ hmn, Nat.lt_succ_self _, by simp, rfl, ⟨ds, F1 ++ (Fa ++ G' ++ Fb) ++ F2, ?_, ?_, ?_, fun b hb => ?_⟩, rfl⟩
                  · simp only [List.length_set]
                    exact ownsRow_same h1 (fun b hb => keepB b (s0 b hb) (o0 b hb))
                  · dsimp only
                    rw [hdp]
                    rw [e1]
                    exact hAll
                  · rw [List.nodup_append]
                    refine ⟨n1, ?_, fun b hb b' hb' => ?_⟩
                    · rw [List.nodup_append]
                      refine ⟨?_, n5, fun b hb b' hb' => ?_⟩
                      · rw [List.nodup_append]
                        refine ⟨n7, ?_, fun b hb b' hb' => ?_⟩
                        · rw [List.nodup_append]
                          refine ⟨?_, n11, fun b hb b' hb' => ?_⟩
                          · rw [List.nodup_append]
                            exact ⟨n13, hnd, fun b hb b' hb' => (hfreshG b' hb' b (sa b hb) (oa b hb)).symm⟩
                          · rcases List.mem_append.1 hb with hb | hb
                            · exact n12 b (by simp [hb]) b' hb'
                            · exact hfreshG b hb b' (sb b' hb') (ob b' hb')
                        · simp only [List.mem_append] at hb'
                          rcases hb' with (hb' | hb') | hb'
                          · exact n9 b hb b' (by simp [hb'])
                          · exact (hfreshG b' hb' b (s1 b hb) (o1 b hb)).symm
                          · exact n9 b hb b' (by simp [hb'])
                      · simp only [List.mem_append] at hb
                        rcases hb with hb | (hb | hb) | hb
                        · exact n6 b (by simp [hb]) b' hb'
                        · exact n6 b (by simp [hb]) b' hb'
                        · exact hfreshG b hb b' (s2 b' hb') (o2 b' hb')
                        · exact n6 b (by simp [hb]) b' hb'
                    · simp only [List.mem_append] at hb'
                      rcases hb' with (hb' | (hb' | hb') | hb') | hb'
                      · exact n3 b hb b' (by simp [hb'])
                      · exact n3 b hb b' (by simp [hb'])
                      · exact (hfreshG b' hb' b (s0 b hb) (o0 b hb)).symm
                      · exact n3 b hb b' (by simp [hb'])
                      · exact n3 b hb b' (by simp [hb'])
                  · simp only [List.mem_append] at hb
                    rcases hb with hb | (hb | (hb | hb) | hb) | hb
                    · exact .inr ⟨s0 b hb, hnotG b (s0 b hb) (o0 b hb)⟩
                    · exact .inr ⟨s1 b hb, hnotG b (s1 b hb) (o1 b hb)⟩
                    · exact .inr ⟨sa b hb, hnotG b (sa b hb) (oa b hb)⟩
                    · exact .inl hb
                    · exact .inr ⟨sb b hb, hnotG b (sb b hb) (ob b hb)⟩
                    · exact .inr ⟨s2 b hb, hnotG b (s2 b hb) (o2 b hb)⟩
                · cases hz
          · simp [ht] at he
theorem lendCell_ok (h : Sim C s a w R E) {m : Mem} (hm : Sub m s.st) {f : Fm} {y : AV} {v : Value} (hv : RV1 w R s.st s.us E y v) {x : DenF f} {l wr : List Nat} (he : lendCell m f y = some (x, l, wr)) :
    ∃ G, LentOK w R s E l wr G (RepC w (lentR E R l) f x v G) (fun w' R' ws G' => ∃ z, backCell m f y z = some ws ∧ RepBC w' R' f z v G') := by
  cases f with
  | int k =>
    cases y with
    | int k' n =>
      simp only [lendCell] at he
      by_cases hk : k' = k
      · subst hk
        simp only [decide_true, cond_true, Option.some.injEq, Prod.mk.injEq] at he
        obtain ⟨rfl, rfl, rfl⟩ := he
        exact ⟨[], LentOK.plain ⟨hv, rfl⟩ (by simp) fun w' R' ws G' ⟨z, h1, h2⟩ => ⟨by simpa [backCell] using h1.symm, h2⟩⟩
      · simp [hk] at he
    | _ => simp [lendCell] at he
  | bool =>
    cases y with
    | bool b =>
      simp only [lendCell, Option.some.injEq, Prod.mk.injEq] at he
      obtain ⟨rfl, rfl, rfl⟩ := he
      exact ⟨[], LentOK.plain ⟨hv, rfl⟩ (by simp) fun w' R' ws G' ⟨z, h1, h2⟩ => ⟨by simpa [backCell] using h1.symm, h2⟩⟩
    | _ => simp [lendCell] at he
  | str =>
    cases y with
    | str b =>
      simp only [lendCell, Option.some.injEq, Prod.mk.injEq] at he
      obtain ⟨rfl, rfl, rfl⟩ := he
      exact ⟨[], LentOK.plain ⟨hv, rfl⟩ (by simp) fun w' R' ws G' ⟨z, h1, h2⟩ => ⟨by simpa [backCell] using h1.symm, h2⟩⟩
    | _ => simp [lendCell] at he
  | sl e t =>
    cases y with
    | nilsl =>
      simp only [lendCell, Option.some.injEq, Prod.mk.injEq] at he
      obtain ⟨rfl, rfl, rfl⟩ := he
      exact ⟨[], LentOK.plain ⟨⟨none, 0, [], hv, Nat.le_refl _, ⟨rfl, rfl⟩, fun h => absurd rfl h⟩, rfl⟩ (by simp) fun w' R' ws G' ⟨z, h1, h2⟩ => ⟨by simpa [backCell] using h1.symm, h2⟩⟩
    | sl e' t' xs src =>
      have hv' : RC w R s.st s.us E (.sl e' t' xs src) v := hv
      cases src with
      | imm =>
        simp only [lendCell] at he
        by_cases ht : t' = t
        · subst ht
          simp only [dite_true, Option.some.injEq, Prod.mk.injEq] at he
          obtain ⟨rfl, rfl, rfl⟩ := he
          exact ⟨[], LentOK.plain ⟨(rowAt_of (hv'.2.2.1 rfl)).mono (fun b hb => .inl hb), rfl⟩ (by simp) fun w' R' ws G' ⟨z, h1, h2⟩ => ⟨by simpa [backCell] using h1.symm, h2⟩⟩
        · simp [ht] at he
      | inn n ver p =>
        simp only [lendCell] at he
        by_cases ht : t' = t
        · subst ht
          simp only [dite_true] at he
          cases hc : liveSrc m (.inn n ver p) with
          | false => rw [hc] at he; simp at he
          | true =>
            rw [hc] at he
            simp only [cond_true, Option.some.injEq, Prod.mk.injEq] at he
            obtain ⟨rfl, rfl, rfl⟩ := he
            exact ⟨[], LentOK.plain ⟨(rowAt_of (hv'.2.2.1 (hm.live hc))).mono (fun b hb => hb.imp id fun hb => ⟨n, by simp, hb⟩), rfl⟩ (by simp [hv'.1.1]) fun w' R' ws G' ⟨z, h1, h2⟩ => ⟨by simpa [backCell] using h1.symm, h2⟩⟩
        · simp [ht] at he
    | ref n =>
      simp only [lendCell] at he
      cases hmn : m n with
      | none => rw [hmn] at he; simp at he
      | some en =>
        rw [hmn] at he
        cases en with
        | box cs | mp es | zb ze => simp at he
        | root q =>
          obtain ⟨qe, qt, qxs, qd, qp, qv⟩ := q
          simp only at he
          by_cases ht : qt = t
          · subst ht
            simp only [dite_true, Option.some.injEq, Prod.mk.injEq] at he
            obtain ⟨rfl, rfl, rfl⟩ := he
            obtain ⟨hu, hv', _⟩ : RC w R s.st s.us E (.ref n) v := hv
            rw [hv']
            exact ⟨[], LentOK.plain ⟨(h.rootRow (hm n _ hmn)).mono (fun b hb => hb.imp id fun hb => ⟨n, by simp, hb⟩), rfl⟩ (by simp [hu]) fun w' R' ws G' ⟨z, h1, h2⟩ => ⟨by simpa [backCell] using h1.symm, h2⟩⟩
          · simp [ht] at he
    | _ => simp [lendCell] at he
  | own e t d =>
    cases y with
    | nilsl =>
      simp only [lendCell, Option.some.injEq, Prod.mk.injEq] at he
      obtain ⟨rfl, rfl, rfl⟩ := he
      have hv' : v = .slice none 0 0 := hv
      subst hv'
      exact ⟨[], LentOK.plain ⟨[], [], World.ownsRow_nil w 0 e _, rfl, ⟨rfl, rfl⟩⟩ (by simp) fun w' R' ws G' ⟨z, h1, h2⟩ => ⟨by simpa [backCell] using h1.symm, h2⟩⟩
    | ref n =>
      simp only [lendCell] at he
      cases hmn : m n with
      | none => rw [hmn] at he; simp at he
      | some en =>
        rw [hmn] at he
        cases en with
        | box cs | mp es | zb ze => simp at he
        | root q =>
          obtain ⟨qe, qt, qxs, qd, qp, qv⟩ := q
          simp only at he
          by_cases ht : qt = t
          · subst ht
            simp only [dite_true] at he
            cases hc : ((Nat.beq qe e && !qp) && (qd == d || !qt.hasSl)) with
            | false => rw [hc] at he; simp at he
            | true =>
              rw [hc] at he
              simp only [cond_true, Option.some.injEq, Prod.mk.injEq] at he
              obtain ⟨rfl, rfl, rfl⟩ := he
              simp only [Bool.and_eq_true, Bool.or_eq_true, Bool.not_eq_true', beq_iff_eq] at hc
              obtain rfl := Nat.eq_of_beq_eq_true hc.1.1
              obtain ⟨hu, hv', _⟩ : RC w R s.st s.us E (.ref n) v := hv
              obtain ⟨_, _, ds, Fi, h1, h2, h3⟩ := h.root (hm n _ hmn)
              rw [hv']
              refine ⟨E.F n, LentOK.give h ?_ hu fun w' R' ws G' ⟨z, h1, h2⟩ => ⟨by simpa [backCell] using h1.symm, h2⟩⟩
              rcases hc.2 with hd | hd
              · subst hd
                exact ⟨ds, Fi, h1, h2, h3.imp fun x c G _ _ hp => hp.keep (w' := w) (fun b hb => ⟨.inl hb, rfl⟩) (fun _ _ => rfl)⟩
              · have := (All.flatT (d' := qd) hd h3).1
                subst this
                exact ⟨ds, [], h1, h2, h3.flatAny hd⟩
          · simp [ht] at he
    | _ => simp [lendCell] at he
  | pin k e t d =>
    cases y with
    | nilsl =>
      simp only [lendCell, Option.some.injEq, Prod.mk.injEq] at he
      obtain ⟨rfl, rfl, rfl⟩ := he
      have hv' : v = .slice none 0 0 := hv
      subst hv'
      exact ⟨[], LentOK.plain ⟨[], [], World.ownsRow_nil w 0 e _, rfl, ⟨rfl, rfl⟩⟩ (by simp) fun w' R' ws G' ⟨z, h1, h2⟩ => ⟨by simpa [backCell] using h1.symm, repB_nil h2⟩⟩
    | ref n => exact lend_ref h hm hv he
    | sl e' t' xs src =>
      cases src with
      | imm => simp [lendCell] at he
      | inn n ver p =>
        cases p with
        | none => simp [lendCell] at he
        | some p => obtain ⟨i, o⟩ := p; exact lend_inn h hm hv he
    | _ => simp [lendCell] at he
  | ptr t =>
    obtain ⟨rfl, h1, h2⟩ := lend_ptr h hm hv he
    refine ⟨[], LentOK.plain h1 h2 fun w' R' ws G' ⟨z, h1, h2⟩ => ⟨?_, h2⟩⟩
    have : backCell m (.ptr t) y z = some [] := by cases y <;> rfl
    rw [this] at h1
    injection h1 with h1
    exact h1.symm
  | box | agg | tup | nil | cons | mp | bx | clo | ifc | alt => simp [lendCell] at he

theorem LentOK.mono {l l' wr G : List Nat} {rep rep' : Prop} {back back' : World → (Nat → Prop) → List W → List Nat → Prop} (h : LentOK w R s E l wr G rep back) (hr : rep → rep') (hb : ∀ w' R' ws G', back' w' R' ws G' → back w' R' ws G') : LentOK w R s E l wr G rep' back' :=
  ⟨hr h.rep, h.nd, h.own, h.us, fun hw G0 w' R' ws G' hB hb' h1 h2 => h.back hw G0 w' R' ws G' hB (hb _ _ _ _ hb') h1 h2⟩
theorem LentOK.app (h : Sim C s a w R E) {l1 l2 wr1 wr2 G1 G2 : List Nat} {rep1 rep2 rep : Prop} {b1 b2 b : World → (Nat → Prop) → List W → List Nat → Prop} (h1 : LentOK w R s E l1 wr1 G1 rep1 b1) (h2 : LentOK w R s E l2 wr2 G2 rep2 b2)
    (hr : rep1 → rep2 → rep) (hb : ∀ w' R' ws G', b w' R' ws G' → ∃ ws1 ws2 G1' G2', ws = ws1 ++ ws2 ∧ G' = G1' ++ G2' ∧ b1 w' R' ws1 G1' ∧ b2 w' R' ws2 G2') : LentOK w R s E (l1 ++ l2) (wr1 ++ wr2) (G1 ++ G2) rep b := by
  have dj : (wr1 ++ wr2).Nodup → ∀ b, b ∈ G1 → b ∉ G2 := fun hn b hb1 hb2 => by
    obtain ⟨n, hn1, hbn⟩ := h1.own b hb1
    obtain ⟨k, hk1, hbk⟩ := h2.own b hb2
    exact h.dj n k b (fun e => (List.nodup_append.1 hn).2.2 n hn1 k hk1 e) hbn hbk
  refine ⟨hr h1.rep h2.rep, fun hn => ?_, fun b hb => ?_, fun n hn => ?_, fun hn G0 w' R' ws G' hB hbk hG hnd => ?_⟩
  · obtain ⟨a1, a2, a3⟩ := List.nodup_append.1 hn
    exact List.nodup_append.2 ⟨h1.nd a1, h2.nd a2, fun b hb b' hb' e => dj hn b hb (e ▸ hb')⟩
  · rcases List.mem_append.1 hb with hb | hb
    · obtain ⟨n, a1, a2⟩ := h1.own b hb; exact ⟨n, by simp [a1], a2⟩
    · obtain ⟨n, a1, a2⟩ := h2.own b hb; exact ⟨n, by simp [a1], a2⟩
  · simp only [List.mem_append] at hn
    rcases hn with (hn | hn) | (hn | hn)
    · exact h1.us n (.inl hn)
    · exact h2.us n (.inl hn)
    · exact h1.us n (.inr hn)
    · exact h2.us n (.inr hn)
  · obtain ⟨ws1, ws2, G1', G2', rfl, rfl, e1, e2⟩ := hb w' R' ws G' hbk
    obtain ⟨a1, a2, a3⟩ := List.nodup_append.1 hn
    obtain ⟨c1, c2, c3⟩ := List.nodup_append.1 hnd
    refine (h1.back a1 G0 w' R' ws1 G1' ⟨hB.rd, fun n b hn' => hB.same n b (by simp [hn']), fun n b hn' hbn hb0 => ?_⟩ e1 (fun b hb => hG b (by simp [hb])) c1).app
      (h2.back a2 G0 w' R' ws2 G2' ⟨hB.rd, fun n b hn' => hB.same n b (by simp [hn']), fun n b hn' hbn hb0 => ?_⟩ e2 (fun b hb => hG b (by simp [hb])) c2)
    · rcases List.mem_append.1 (hB.lent n b (by simp [hn']) hbn hb0) with h3 | h3
      · exact h3
      · obtain ⟨k, hk1, hbk⟩ := h2.own b h3
        exact absurd hbk (h.dj n k b (fun e => a3 n hn' k hk1 e) hbn)
    · rcases List.mem_append.1 (hB.lent n b (by simp [hn']) hbn hb0) with h3 | h3
      · obtain ⟨k, hk1, hbk⟩ := h1.own b h3
        exact absurd hbk (h.dj n k b (fun e => a3 k hk1 n hn' e.symm) hbn)
      · exact h3

theorem lendCells_ok (h : Sim C s a w R E) {m : Mem} (hm : Sub m s.st) : ∀ {f : Fm} {ys : List AV} {vs : List Value}, L2 (RC w R s.st s.us E) ys vs → ∀ {x : DenF f} {l wr : List Nat}, lendCells m f ys = some (x, l, wr) →
    ∃ G, LentOK w R s E l wr G (RepCs w (lentR E R l) f x vs G) (fun w' R' ws G' => ∃ z, backCells m f ys z = some ws ∧ RepBCs w' R' f z vs G') := by
  intro f
  induction f with
  | nil =>
    intro ys vs hl x l wr he
    cases ys with
    | nil =>
      simp only [lendCells, Option.some.injEq, Prod.mk.injEq] at he
      obtain ⟨_, rfl, rfl⟩ := he
      rw [show vs = [] from hl]
      exact ⟨[], LentOK.plain ⟨rfl, rfl⟩ (by simp) fun w' R' ws G' ⟨z, h1, h2⟩ => ⟨by simpa [backCells] using h1.symm, h2.2⟩⟩
    | cons y r => simp [lendCells] at he
  | cons f1 f2 _ ih =>
    intro ys vs hl x l wr he
    cases ys with
    | nil => simp [lendCells] at he
    | cons y r =>
      obtain ⟨v, vs', e, h1, h2⟩ := hl
      simp only [lendCells] at he
      cases hp : lendCell m f1 y with
      | none => rw [hp] at he; simp at he
      | some q =>
        obtain ⟨x1, l1, w1⟩ := q
        rw [hp] at he
        simp only at he
        cases hq : lendCells m f2 r with
        | none => rw [hq] at he; simp at he
        | some q2 =>
          obtain ⟨x2, l2, w2⟩ := q2
          rw [hq] at he
          simp only [Option.some.injEq, Prod.mk.injEq] at he
          obtain ⟨rfl, rfl, rfl⟩ := he
          obtain ⟨G1, a1⟩ := lendCell_ok h hm h1.rv1 hp
          obtain ⟨G2, b1⟩ := ih h2 hq
          subst e
          refine ⟨_, LentOK.app h a1 b1 (fun k1 k2 => ⟨v, vs', _, _, rfl, rfl, k1.mono (fun b hb => lentR_l b hb), k2.mono (fun b hb => lentR_r b hb)⟩) fun w' R' ws G' ⟨z, k1, k2⟩ => ?_⟩
          simp only [backCells] at k1
          split at k1
          · rename_i ws1 hw1
            split at k1
            · rename_i ws2 hw2
              simp only [Option.some.injEq] at k1
              obtain ⟨v2, r2, G1', G2', e1, e2, k3, k4⟩ := k2
              simp only [List.cons.injEq] at e1
              obtain ⟨rfl, rfl⟩ := e1
              exact ⟨ws1, ws2, G1', G2', k1.symm, e2, ⟨_, hw1, k3⟩, ⟨_, hw2, k4⟩⟩
            · cases k1
          · cases k1
  | _ => intro ys vs hl x l wr he; cases ys <;> simp [lendCells] at he
/-- boxes that come back -/
def BoxOK (w' : World) (R' : Nat → Prop) (us : Nat → Bool) (B : Nat → Nat) : List BB → List Nat → Prop
  | [], G => G = []
  | x :: r, G => ∃ G1 G2, G = G1 ++ G2 ∧ us x.b = true ∧ (∃ arr Ty F', w'.heap[B x.b]? = some (.cells arr Ty (0, 0)) ∧ G1 = F' ++ [B x.b] ∧ RepCs w' R' x.f x.y arr.toList F') ∧ BoxOK w' R' us B r G2
theorem BoxOK.app {w' : World} {R' : Nat → Prop} {us : Nat → Bool} {B : Nat → Nat} : ∀ {l k : List BB} {G H : List Nat}, BoxOK w' R' us B l G → BoxOK w' R' us B k H → BoxOK w' R' us B (l ++ k) (G ++ H)
  | [], _, _, _, h, h' => by rw [show _ = [] from h]; exact h'
  | _ :: _, _, _, _, ⟨G1, G2, e, e1, e2, h⟩, h' => ⟨G1, _, by rw [e, List.append_assoc], e1, e2, h.app h'⟩
/-- what is lent for the arguments, and what may come back for them -/
structure LentV (w : World) (R : Nat → Prop) (s : St) (E : Env) (l wr G : List Nat) (rep : Prop) (back : World → (Nat → Prop) → List W × List BB → List Nat → Prop) : Prop where
  rep : rep
  nd : wr.Nodup → G.Nodup
  own : ∀ b, b ∈ G → ∃ n, n ∈ wr ∧ b ∈ E.F n
  us : ∀ n, n ∈ l ∨ n ∈ wr → s.us n = true
  back : wr.Nodup → ∀ (G0 : List Nat) (w' : World) (R' : Nat → Prop) (ws : List W × List BB) (G' : List Nat), Behind w R E G0 w' R' wr G → back w' R' ws G' → (∀ b, b ∈ G' → w.heap.size ≤ b ∨ b ∈ G0) → G'.Nodup →
    ∃ Gw Gb, (Gw ++ Gb).Perm G' ∧ BackOK w' R' s.st E.V E.F G0 ws.1 Gw ∧ BoxOK w' R' s.us E.B ws.2 Gb
theorem LentOK.v {l wr G : List Nat} {rep rep' : Prop} {back : World → (Nat → Prop) → List W → List Nat → Prop} {back' : World → (Nat → Prop) → List W × List BB → List Nat → Prop} (h : LentOK w R s E l wr G rep back) (hr : rep → rep') (hb : ∀ w' R' ws G', back' w' R' ws G' → ws.2 = [] ∧ back w' R' ws.1 G') : LentV w R s E l wr G rep' back' :=
  ⟨hr h.rep, h.nd, h.own, h.us, fun hw G0 w' R' ws G' hB hb' h1 h2 => by
    obtain ⟨e, h3⟩ := hb w' R' ws G' hb'
    exact ⟨G', [], by simp, h.back hw G0 w' R' ws.1 G' hB h3 h1 h2, by rw [e]; rfl⟩⟩
theorem LentV.app (h : Sim C s a w R E) {l1 l2 wr1 wr2 G1 G2 : List Nat} {rep1 rep2 rep : Prop} {b1 b2 b : World → (Nat → Prop) → List W × List BB → List Nat → Prop} (h1 : LentV w R s E l1 wr1 G1 rep1 b1) (h2 : LentV w R s E l2 wr2 G2 rep2 b2)
    (hr : rep1 → rep2 → rep) (hb : ∀ w' R' ws G', b w' R' ws G' → ∃ ws1 ws2 G1' G2', ws = (ws1.1 ++ ws2.1, ws1.2 ++ ws2.2) ∧ G' = G1' ++ G2' ∧ b1 w' R' ws1 G1' ∧ b2 w' R' ws2 G2') : LentV w R s E (l1 ++ l2) (wr1 ++ wr2) (G1 ++ G2) rep b := by
  have dj : (wr1 ++ wr2).Nodup → ∀ b, b ∈ G1 → b ∉ G2 := fun hn b hb1 hb2 => by
    obtain ⟨n, hn1, hbn⟩ := h1.own b hb1
    obtain ⟨k, hk1, hbk⟩ := h2.own b hb2
    exact h.dj n k b (fun e => (List.nodup_append.1 hn).2.2 n hn1 k hk1 e) hbn hbk
  refine ⟨hr h1.rep h2.rep, fun hn => ?_, fun b hb => ?_, fun n hn => ?_, fun hn G0 w' R' ws G' hB hbk hG hnd => ?_⟩
  · obtain ⟨a1, a2, a3⟩ := List.nodup_append.1 hn
    exact List.nodup_append.2 ⟨h1.nd a1, h2.nd a2, fun b hb b' hb' e => dj hn b hb (e ▸ hb')⟩
  · rcases List.mem_append.1 hb with hb | hb
    · obtain ⟨n, a1, a2⟩ := h1.own b hb; exact ⟨n, by simp [a1], a2⟩
    · obtain ⟨n, a1, a2⟩ := h2.own b hb; exact ⟨n, by simp [a1], a2⟩
  · simp only [List.mem_append] at hn
    rcases hn with (hn | hn) | (hn | hn)
    · exact h1.us n (.inl hn)
    · exact h2.us n (.inl hn)
    · exact h1.us n (.inr hn)
    · exact h2.us n (.inr hn)
  · obtain ⟨ws1, ws2, G1', G2', rfl, rfl, e1, e2⟩ := hb w' R' ws G' hbk
    obtain ⟨a1, a2, a3⟩ := List.nodup_append.1 hn
    obtain ⟨c1, c2, c3⟩ := List.nodup_append.1 hnd
    obtain ⟨Gw1, Gb1, p1, o1, q1⟩ := h1.back a1 G0 w' R' ws1 G1' ⟨hB.rd, fun n b hn' => hB.same n b (by simp [hn']), fun n b hn' hbn hb0 => by
      rcases List.mem_append.1 (hB.lent n b (by simp [hn']) hbn hb0) with h3 | h3
      · exact h3
      · obtain ⟨k, hk1, hbk⟩ := h2.own b h3
        exact absurd hbk (h.dj n k b (fun e => a3 n hn' k hk1 e) hbn)⟩ e1 (fun b hb => hG b (by simp [hb])) c1
    obtain ⟨Gw2, Gb2, p2, o2, q2⟩ := h2.back a2 G0 w' R' ws2 G2' ⟨hB.rd, fun n b hn' => hB.same n b (by simp [hn']), fun n b hn' hbn hb0 => by
      rcases List.mem_append.1 (hB.lent n b (by simp [hn']) hbn hb0) with h3 | h3
      · obtain ⟨k, hk1, hbk⟩ := h1.own b h3
        exact absurd hbk (h.dj n k b (fun e => a3 k hk1 n hn' e.symm) hbn)
      · exact h3⟩ e2 (fun b hb => hG b (by simp [hb])) c2
    refine ⟨Gw1 ++ Gw2, Gb1 ++ Gb2, ?_, o1.app o2, q1.app q2⟩
    refine List.Perm.trans ?_ (p1.append p2)
    simp only [List.append_assoc]
    refine List.Perm.append_left _ ?_
    rw [← List.append_assoc, ← List.append_assoc]
    exact List.Perm.append_right _ List.perm_append_comm

theorem lendBox_ok (h : Sim C s a w R E) {m : Mem} (hm : Sub m s.st) {f : Fm} {b : Nat} {v : Value} (hv : RC w R s.st s.us E (.pbox b 0) v) {cs : List AV} (hb : m b = some (.box cs)) {x : DenF f} {l wr : List Nat} (he : lendCells m f cs = some (x, l, wr)) (N : Nat) :
    ∃ G, LentV w R s E l (wr ++ [b]) G (RepBox w (lentR E R l) f x v G) (fun w' R' ws G' => ∃ z, ws = ([], [⟨b, f, z, N⟩]) ∧ RepBox w' R' f z v G') := by
  obtain ⟨hF, arr, Ty, hg, hrc⟩ := h.box (hm b _ hb)
  obtain ⟨G, hL⟩ := lendCells_ok h hm hrc he
  refine ⟨G ++ [E.B b], ⟨E.B b, arr, Ty, G, hv.2, hg, rfl, hL.rep⟩, fun hn => ?_, fun c hc => ?_, fun n hn => ?_, fun _ G0 w' R' ws G' hB hbk _ _ => ?_⟩
  · obtain ⟨a1, _, a3⟩ := List.nodup_append.1 hn
    refine List.nodup_append.2 ⟨hL.nd a1, by simp, fun c hc c' hc' e => ?_⟩
    simp only [List.mem_singleton] at hc'
    obtain ⟨n, hn1, hbn⟩ := hL.own c hc
    subst e
    subst hc'
    exact h.dj n b _ (fun e => a3 n hn1 b (by simp) e) hbn (by rw [hF]; simp)
  · rcases List.mem_append.1 hc with hc | hc
    · obtain ⟨n, h1, h2⟩ := hL.own c hc
      exact ⟨n, by simp [h1], h2⟩
    · simp only [List.mem_singleton] at hc
      subst hc
      exact ⟨b, by simp, by rw [hF]; simp⟩
  · rcases hn with hn | hn
    · exact hL.us n (.inl hn)
    · rcases List.mem_append.1 hn with hn | hn
      · exact hL.us n (.inr hn)
      · simp only [List.mem_singleton] at hn; subst hn; exact hv.1
  · obtain ⟨z, e1, b', arr', Ty', F', e2, e3, e4, h1⟩ := hbk
    rw [hv.2] at e2
    simp only [Value.pointer.injEq, Option.some.injEq, Addr.mk.injEq, and_true] at e2
    subst e2
    subst e1
    exact ⟨[], G', by simp, rfl, G', [], by simp, hv.1, ⟨arr', Ty', F', e3, e4, h1⟩, rfl⟩
theorem lendV0_ok (h : Sim C s a w R E) {m : Mem} (hm : Sub m s.st) {f : Fm} {y : AV} {v : Value} (hv : RV0 w R s.st s.us E y v) {x : DenF f} {l wr : List Nat} (he : lendV0 m f y = some (x, l, wr)) (N : Nat) :
    ∃ G, LentV w R s E l wr G (RepV0 w (lentR E R l) f x v G) (fun w' R' ws G' => ∃ z, backV m f y z N = some ws ∧ RepBV w' R' f z v G') := by
  cases f with
  | agg f =>
    cases y with
    | agg cs =>
      simp only [lendV0] at he
      obtain ⟨vs, e, h1⟩ := hv
      obtain ⟨G, a1⟩ := lendCells_ok h hm h1 he
      cases hp : f.hasPin with
      | true =>
        refine ⟨G, a1.v (fun k => ⟨vs, e, k⟩) fun w' R' ws G' ⟨z, k1, k2⟩ => ?_⟩
        simp only [backV, hp, cond_true] at k1
        simp only [RepBV, hp, if_true] at k2
        obtain ⟨vs2, e2, k3⟩ := k2
        rw [e] at e2
        have : vs = vs2 := by simpa using e2
        subst this
        split at k1
        · rename_i l' hl'
          injection k1 with k1
          subst k1
          exact ⟨rfl, z, hl', k3⟩
        · cases k1
      | false =>
        refine ⟨G, ⟨⟨vs, e, a1.rep⟩, a1.nd, a1.own, a1.us, fun hw G0 w' R' ws G' hB ⟨z, k1, k2⟩ _ _ => ?_⟩⟩
        simp only [backV, hp, cond_false, Option.some.injEq] at k1
        simp only [RepBV, hp] at k2
        subst k1
        have k2' : G' = [] := k2
        subst k2'
        exact ⟨[], [], by simp, rfl, rfl⟩
    | _ => simp [lendV0, lendCell] at he
  | bx f =>
    cases y with
    | pbox b o =>
      cases o with
      | succ o => simp [lendV0, lendCell] at he
      | zero =>
        simp only [lendV0] at he
        split at he
        · rename_i cs hb
          split at he
          · rename_i x1 l1 w1 hl
            simp only [Option.some.injEq, Prod.mk.injEq] at he
            obtain ⟨rfl, rfl, rfl⟩ := he
            obtain ⟨G, hG⟩ := lendBox_ok h hm hv hb hl N
            refine ⟨G, hG.rep, hG.nd, hG.own, hG.us, fun hw G0 w' R' ws G' hB ⟨z, k1, k2⟩ a1 a2 => hG.back hw G0 w' R' ws G' hB ⟨z, ?_, k2⟩ a1 a2⟩
            simp only [backV, Option.some.injEq] at k1
            exact k1.symm
          · cases he
        · cases he
    | _ => simp [lendV0, lendCell] at he
  | box f => simp [lendV0, lendCell] at he
  | _ =>
    simp only [lendV0] at he
    obtain ⟨G, hG⟩ := lendCell_ok h hm hv.rv1 he
    refine ⟨G, hG.v (fun k => by simp only [RepV0]; exact k) fun w' R' ws G' ⟨z, k1, k2⟩ => ?_⟩
    simp only [backV] at k1
    split at k1
    · rename_i l' hl'
      injection k1 with k1
      subst k1
      exact ⟨rfl, z, hl', by simpa only [RepBV] using k2⟩
    · cases k1
theorem lendVs0_rep (h : Sim C s a w R E) {m : Mem} (hm : Sub m s.st) : ∀ {f : Fm} {ys : List AV} {vs : List Value}, L2 (RV0 w R s.st s.us E) ys vs → ∀ {x : DenF f} {l wr : List Nat}, lendVs0 m f ys = some (x, l, wr) →
    ∃ G, LentV w R s E l wr G (RepVs0 w (lentR E R l) f x vs G) (fun w' R' ws G' => ws = ([], []) ∧ G' = []) := by
  intro f
  induction f with
  | nil =>
    intro ys vs hl x l wr he
    cases ys with
    | nil =>
      simp only [lendVs0, Option.some.injEq, Prod.mk.injEq] at he
      obtain ⟨_, rfl, rfl⟩ := he
      rw [show vs = [] from hl]
      exact ⟨[], (LentOK.plain (back := fun _ _ ws G' => ws = [] ∧ G' = []) (rep := True) trivial (by simp) fun w' R' ws G' h => h).v (fun _ => ⟨rfl, rfl⟩) fun w' R' ws G' ⟨h1, h2⟩ => by subst h1; exact ⟨rfl, rfl, h2⟩⟩
    | cons y r => simp [lendVs0] at he
  | cons f1 f2 _ ih =>
    intro ys vs hl x l wr he
    cases ys with
    | nil => simp [lendVs0] at he
    | cons y r =>
      obtain ⟨v, vs', e, h1, h2⟩ := hl
      simp only [lendVs0] at he
      cases hp : lendV0 m f1 y with
      | none => rw [hp] at he; simp at he
      | some q =>
        obtain ⟨x1, l1, w1⟩ := q
        rw [hp] at he
        simp only at he
        cases hq : lendVs0 m f2 r with
        | none => rw [hq] at he; simp at he
        | some q2 =>
          obtain ⟨x2, l2, w2⟩ := q2
          rw [hq] at he
          simp only [Option.some.injEq, Prod.mk.injEq] at he
          obtain ⟨rfl, rfl, rfl⟩ := he
          obtain ⟨G1, a1⟩ := lendV0_ok h hm h1 hp 0
          obtain ⟨G2, b1⟩ := ih h2 hq
          subst e
          have a2 : LentV w R s E l1 w1 G1 (RepV0 w (lentR E R l1) f1 x1 v G1) (fun w' R' ws G' => ws = ([], []) ∧ G' = []) := ⟨a1.rep, a1.nd, a1.own, a1.us, fun _ G0 w' R' ws G' _ ⟨e1, e2⟩ _ _ => by subst e1; subst e2; exact ⟨[], [], by simp, rfl, rfl⟩⟩
          refine ⟨_, LentV.app h a2 b1 (fun k1 k2 => ⟨v, vs', _, _, rfl, rfl, k1.mono (fun b hb => lentR_l b hb), k2.mono (fun b hb => lentR_r b hb)⟩) fun w' R' ws G' ⟨k1, k2⟩ => ?_⟩
          subst k1; subst k2
          exact ⟨([], []), ([], []), [], [], rfl, rfl, ⟨rfl, rfl⟩, rfl, rfl⟩
  | _ => intro ys vs hl x l wr he; cases ys <;> simp [lendVs0] at he
theorem lendV_ok (h : Sim C s a w R E) {m : Mem} (hm : Sub m s.st) {f : Fm} {y : AV} {v : Value} (hv : RV1 w R s.st s.us E y v) {x : DenF f} {l wr : List Nat} (he : lendV m f y = some (x, l, wr)) (N : Nat) :
    ∃ G, LentV w R s E l wr G (RepV w (lentR E R l) f x v G) (fun w' R' ws G' => ∃ z, backV m f y z N = some ws ∧ RepBV w' R' f z v G') := by
  have pl : ∀ {f : Fm} {x : DenF f}, (∀ g c, f ≠ .clo g c) → lendV m f y = some (x, l, wr) → lendV0 m f y = some (x, l, wr) := by
    intro f x hf he
    cases f <;> first | exact absurd rfl (hf _ _) | (simp only [lendV] at he; exact he)
  have r0 : ∀ {f : Fm} {x : DenF f}, lendV0 m f y = some (x, l, wr) → RV0 w R s.st s.us E y v := by
    intro f x he
    cases y with
    | clo g cs => cases f <;> simp [lendV0, lendCell] at he
    | ifc g cs => cases f <;> simp [lendV0, lendCell] at he
    | _ => exact hv
  cases f with
  | clo g c =>
    have fin : ∀ {vs : List Value} {cs : List AV}, v = .func (.func g) #[] vs.toArray → L2 (RV0 w R s.st s.us E) cs vs → lendVs0 m c cs = some (x, l, wr) → ∃ G, LentV w R s E l wr G (RepV w (lentR E R l) (.clo g c) x v G) (fun w' R' ws G' => ∃ z, backV m (.clo g c) y z N = some ws ∧ RepBV w' R' (.clo g c) z v G') := by
      intro vs cs e h1 hl
      obtain ⟨G, hG⟩ := lendVs0_rep h hm h1 hl
      refine ⟨G, ⟨vs, e, hG.rep⟩, hG.nd, hG.own, hG.us, fun hw G0 w' R' ws G' hB ⟨z, k1, k2⟩ a1 a2 => hG.back hw G0 w' R' ws G' hB ⟨?_, k2⟩ a1 a2⟩
      have hb : backCell m (.clo g c) y z = some [] := by cases y <;> rfl
      simp only [backV, hb, Option.some.injEq] at k1
      exact k1.symm
    cases y with
    | clo f' cs =>
      simp only [lendV] at he
      cases hg : Nat.beq f' g with
      | false => rw [hg] at he; simp at he
      | true =>
        rw [hg] at he
        obtain rfl := Nat.eq_of_beq_eq_true hg
        obtain ⟨vs, e, h1⟩ := hv
        exact fin e h1 he
    | fn f' =>
      simp only [lendV] at he
      cases hg : Nat.beq f' g with
      | false => rw [hg] at he; simp at he
      | true =>
        rw [hg] at he
        obtain rfl := Nat.eq_of_beq_eq_true hg
        exact fin (vs := []) (cs := []) hv rfl he
    | _ => simp [lendV, lendV0, lendCell] at he
  | ifc g c => have := pl (by simp) he; cases y <;> simp [lendV0, lendCell] at this
  | alt g c => have := pl (by simp) he; cases y <;> simp [lendV0, lendCell] at this
  | _ =>
    have he0 := pl (by simp) he
    obtain ⟨G, hG⟩ := lendV0_ok h hm (r0 he0) he0 N
    exact ⟨G, (by simp only [RepV]; exact hG.rep), hG.nd, hG.own, hG.us, hG.back⟩
theorem lendVs_ok (h : Sim C s a w R E) {m : Mem} (hm : Sub m s.st) : ∀ {f : Fm} {ys : List AV} {vs : List Value}, L2 (RV1 w R s.st s.us E) ys vs → ∀ {x : DenF f} {l wr : List Nat} (N : Nat), lendVs m f ys = some (x, l, wr) →
    ∃ G, LentV w R s E l wr G (RepVs w (lentR E R l) f x vs G) (fun w' R' ws G' => ∃ z, backVs m f ys z N = some ws ∧ RepBVs w' R' f z vs G') := by
  intro f
  induction f with
  | nil =>
    intro ys vs hl x l wr N he
    cases ys with
    | nil =>
      simp only [lendVs, Option.some.injEq, Prod.mk.injEq] at he
      obtain ⟨_, rfl, rfl⟩ := he
      rw [show vs = [] from hl]
      exact ⟨[], (LentOK.plain (back := fun _ _ ws G' => ws = [] ∧ G' = []) (rep := True) trivial (by simp) fun w' R' ws G' h => h).v (fun _ => ⟨rfl, rfl⟩) fun w' R' ws G' ⟨z, h1, h2⟩ => by simp only [backVs, Option.some.injEq] at h1; subst h1; exact ⟨rfl, rfl, h2.2⟩⟩
    | cons y r => simp [lendVs] at he
  | cons f1 f2 _ ih =>
    intro ys vs hl x l wr N he
    cases ys with
    | nil => simp [lendVs] at he
    | cons y r =>
      obtain ⟨v, vs', e, h1, h2⟩ := hl
      simp only [lendVs] at he
      cases hp : lendV m f1 y with
      | none => rw [hp] at he; simp at he
      | some q =>
        obtain ⟨x1, l1, w1⟩ := q
        rw [hp] at he
        simp only at he
        cases hq : lendVs m f2 r with
        | none => rw [hq] at he; simp at he
        | some q2 =>
          obtain ⟨x2, l2, w2⟩ := q2
          rw [hq] at he
          simp only [Option.some.injEq, Prod.mk.injEq] at he
          obtain ⟨rfl, rfl, rfl⟩ := he
          obtain ⟨G1, a1⟩ := lendV_ok h hm h1 hp N
          obtain ⟨G2, b1⟩ := ih h2 (N + 16) hq
          subst e
          refine ⟨_, LentV.app h a1 b1 (fun k1 k2 => ⟨v, vs', _, _, rfl, rfl, k1.mono (fun b hb => lentR_l b hb), k2.mono (fun b hb => lentR_r b hb)⟩) fun w' R' ws G' ⟨z, k1, k2⟩ => ?_⟩
          simp only [backVs] at k1
          split at k1
          · rename_i ws1 hw1
            split at k1
            · rename_i ws2 hw2
              simp only [Option.some.injEq] at k1
              obtain ⟨v2, r2, G1', G2', e1, e2, k3, k4⟩ := k2
              simp only [List.cons.injEq] at e1
              obtain ⟨rfl, rfl⟩ := e1
              exact ⟨ws1, ws2, G1', G2', k1.symm, e2, ⟨_, hw1, k3⟩, ⟨_, hw2, k4⟩⟩
            · cases k1
          · cases k1
  | _ => intro ys vs hl x l wr N he; cases ys <;> simp [lendVs] at he
end Go.Ev
