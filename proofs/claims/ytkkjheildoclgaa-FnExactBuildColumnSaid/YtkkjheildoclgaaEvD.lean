/- A text of the claim: an evaluator of Go functions, and why it answers as they do. -/
import Derived.Test.YtkkjheildoclgaaEvC
set_option linter.all false
set_option linter.unusedVariables false
set_option linter.unusedSimpArgs false
set_option autoImplicit false
namespace Go.Ev

def L2 {α β : Type} (p : α → β → Prop) : List α → List β → Prop
  | [], l => l = []
  | x :: r, l => ∃ y l', l = y :: l' ∧ p x y ∧ L2 p r l'
theorem L2.imp {α β : Type} {p q : α → β → Prop} (h : ∀ x y, p x y → q x y) : ∀ {l : List α} {l' : List β}, L2 p l l' → L2 q l l'
  | [], _, e => e
  | _ :: _, _, ⟨y, l', e, h1, h2⟩ => ⟨y, l', e, h _ _ h1, h2.imp h⟩
theorem L2.len {α β : Type} {p : α → β → Prop} : ∀ {l : List α} {l' : List β}, L2 p l l' → l'.length = l.length
  | [], _, e => by rw [show _ = [] from e]; rfl
  | _ :: _, _, ⟨y, l', e, h1, h2⟩ => by rw [e, List.length_cons, List.length_cons, h2.len]
theorem L2.app {α β : Type} {p : α → β → Prop} : ∀ {l k : List α} {l' k' : List β}, L2 p l l' → L2 p k k' → L2 p (l ++ k) (l' ++ k')
  | [], _, _, _, e, h => by rw [show _ = [] from e]; exact h
  | _ :: _, _, _, _, ⟨y, l', e, h1, h2⟩, h => by rw [e]; exact ⟨y, _, rfl, h1, h2.app h⟩
theorem L2.take {α β : Type} {p : α → β → Prop} : ∀ {l : List α} {l' : List β} (n : Nat), L2 p l l' → L2 p (l.take n) (l'.take n)
  | _, _, 0, _ => by simp [L2]
  | [], _, _ + 1, e => by rw [show _ = [] from e]; simp [L2]
  | _ :: _, _, n + 1, ⟨y, l', e, h1, h2⟩ => by rw [e]; exact ⟨y, _, rfl, h1, h2.take n⟩
theorem L2.drop {α β : Type} {p : α → β → Prop} : ∀ {l : List α} {l' : List β} (n : Nat), L2 p l l' → L2 p (l.drop n) (l'.drop n)
  | _, _, 0, h => by simpa using h
  | [], _, _ + 1, e => by rw [show _ = [] from e]; simp [L2]
  | _ :: _, _, n + 1, ⟨y, l', e, h1, h2⟩ => by rw [e]; exact h2.drop n
theorem L2.get {α β : Type} {p : α → β → Prop} : ∀ {l : List α} {l' : List β} (n : Nat) (x : α), L2 p l l' → l[n]? = some x → ∃ y, l'[n]? = some y ∧ p x y
  | [], _, n, x, _, hx => by simp at hx
  | z :: r, _, 0, x, ⟨y, l', e, h1, h2⟩, hx => by rw [e]; simp at hx; subst hx; exact ⟨y, rfl, h1⟩
  | z :: r, _, n + 1, x, ⟨y, l', e, h1, h2⟩, hx => by rw [e]; obtain ⟨y', h3, h4⟩ := h2.get n x (by simpa using hx); exact ⟨y', by simpa using h3, h4⟩

/-- where the names lie: a row's value, its blocks, its length, its elements' size; a box's block -/
structure Env where
  V : Nat → Value
  F : Nat → List Nat
  B : Nat → Nat
  L : Nat → Nat
  S : Nat → Nat

def RS (R : Nat → Prop) (E : Env) : Src → Nat → Prop
  | .imm => R
  | .inn n _ _ => fun b => R b ∨ b ∈ E.F n
/-- where in its row a value lies -/
def AtPos (w : World) (R : Nat → Prop) (E : Env) : Src → Value → Prop
  | .inn n _ (some (i, o)), v => ∃ g, (E.V n).ownBlock = some g ∧ (R g ∨ g ∈ E.F n) ∧ 0 ≤ i ∧ i < (E.L n : Int) ∧ w.cell? ⟨g, i.toNat * E.S n + o, none⟩ = some v
  | _, _ => True
def usedSrc (m : Mem) (us : Nat → Bool) : Src → Prop
  | .imm => True
  | .inn n ver _ => us n = true ∧ ∀ q, m n = some (.root q) → ver ≤ q.ver

/-- a map's entries -/
def mpEnt : Nat → List (ByteArray × Int) → List MapEntry
  | _, [] => []
  | i, e :: r => ⟨.string e.1, .int .i64 e.2, i⟩ :: mpEnt (i + 1) r
section
variable (w : World) (R : Nat → Prop) (m : Mem) (us : Nat → Bool) (E : Env)
def RC : AV → Value → Prop
  | .int k n, v => v = .int k n
  | .bool b, v => v = .bool b
  | .str s, v => v = .string s
  | .sl e t xs src, v => usedSrc m us src ∧ (∃ A n c, v = .slice A n c) ∧ (liveSrc m src = true → Rp w (RS R E src) false (.sl e t) xs [v] []) ∧ (liveSrc m src = true → AtPos w R E src v)
  | .ref n, v => us n = true ∧ v = E.V n ∧ ∃ A k c, v = .slice A k c
  | .nilsl, v => v = .slice none 0 0
  | .pbox b off, v => us b = true ∧ v = .pointer (some ⟨E.B b, off, none⟩)
  | .pel n i off, v => us n = true ∧ 0 ≤ i ∧ i < (E.L n : Int) ∧ ∃ g, (E.V n).ownBlock = some g ∧ v = .pointer (some ⟨g, i.toNat * E.S n + off, none⟩)
  | .pro t x off src, v => usedSrc m us src ∧ (∃ p : Addr, v = .pointer (some p)) ∧ (liveSrc m src = true → ∃ a ds, v = .pointer (some (a.add off)) ∧ Rp w (RS R E src) false t x ds [] ∧ Cells w a ds ∧ (ds ≠ [] → RS R E src a.block))
  | .fn f, v => v = .func (.func f) #[] #[]
  | .mref n, v => us n = true ∧ v = .map (some (E.B n))
  | .junk, _ => True
  | _, _ => False
def RV0 : AV → Value → Prop
  | .agg cs, v => ∃ vs : List Value, v = .agg vs.toArray ∧ L2 (RC w R m us E) cs vs
  | x, v => RC w R m us E x v
def RV1 : AV → Value → Prop
  | .clo f l, v => ∃ vs : List Value, v = .func (.func f) #[] vs.toArray ∧ L2 (RV0 w R m us E) l vs
  | .ifc X cs, v => ∃ vs : List Value, v = .iface X (.agg vs.toArray) ∧ L2 (RC w R m us E) cs vs
  | x, v => RV0 w R m us E x v
def RV : AV → Value → Prop
  | .tup l, v => ∃ vs : List Value, v = .tuple vs.toArray ∧ L2 (RV1 w R m us E) l vs
  | x, v => RV1 w R m us E x v
def SR (n : Nat) : Prop := match m n with
  | none => E.F n = []
  | some (.root q) => E.L n = q.xs.length ∧ E.S n = q.t.sz ∧ ∃ ds Fi, w.ownsRow 0 q.e q.t.sz (E.V n) q.xs.length ds ∧ E.F n = (E.V n).ownBlock.toList ++ Fi ∧ All (Rp w R q.deep q.t) q.xs ds Fi
  | some (.mp es) => E.F n = [E.B n] ∧ ∃ arr, w.heap[E.B n]? = some (.map arr es.length) ∧ arr.toList = mpEnt 0 es
  | some (.zb e) => E.F n = [E.B n] ∧ w.heap[E.B n]? = some (.cells #[] e (0, 0))
  | some (.box cs) => E.F n = [E.B n] ∧ ∃ arr T, w.heap[E.B n]? = some (.cells arr T (0, 0)) ∧ L2 (RC w R m us E) cs arr.toList
end

/-- from one place to a later one, for the values that are told -/
structure Move (w : World) (R : Nat → Prop) (m : Mem) (us : Nat → Bool) (E : Env) (w' : World) (R' : Nat → Prop) (m' : Mem) (us' : Nat → Bool) (E' : Env) : Prop where
  fus : ∀ n, us n = true → us' n = true
  nm : ∀ n, us n = true → E'.V n = E.V n ∧ E'.B n = E.B n ∧ E'.L n = E.L n ∧ E'.S n = E.S n
  fR : ∀ b, R b → R' b ∧ w'.heap[b]? = w.heap[b]?
  ver : ∀ n q', us n = true → m' n = some (.root q') → ∃ q, m n = some (.root q) ∧ q.ver ≤ q'.ver ∧ (q.ver = q'.ver → ∀ b, b ∈ E.F n → (R' b ∨ b ∈ E'.F n) ∧ w'.heap[b]? = w.heap[b]?)

section
variable {w : World} {R : Nat → Prop} {m : Mem} {us : Nat → Bool} {E : Env} {w' : World} {R' : Nat → Prop} {m' : Mem} {us' : Nat → Bool} {E' : Env}
theorem Move.src (h : Move w R m us E w' R' m' us' E') {src : Src} (hu : usedSrc m us src) : usedSrc m' us' src ∧ (liveSrc m' src = true → liveSrc m src = true ∧ ∀ b, RS R E src b → RS R' E' src b ∧ w'.heap[b]? = w.heap[b]?) := by
  cases src with
  | imm => exact ⟨trivial, fun _ => ⟨rfl, fun b hb => h.fR b hb⟩⟩
  | inn n ver pos =>
    obtain ⟨hu1, hu2⟩ := hu
    refine ⟨⟨h.fus n hu1, fun q' hq' => ?_⟩, fun hl => ?_⟩
    · obtain ⟨q, h1, h2, _⟩ := h.ver n q' hu1 hq'
      exact Nat.le_trans (hu2 q h1) h2
    · replace hl : (match m' n with | some (.root q) => Nat.beq q.ver ver | _ => false) = true := hl
      cases hm : m' n with
      | none => rw [hm] at hl; simp at hl
      | some en =>
        rw [hm] at hl
        cases en with
        | box cs | mp es | zb ze => simp at hl
        | root q' =>
          obtain ⟨q, h1, h2, h3⟩ := h.ver n q' hu1 hm
          have e : q'.ver = ver := Nat.eq_of_beq_eq_true hl
          have e2 : q.ver = q'.ver := by have := hu2 q h1; omega
          refine ⟨(by show (match m n with | some (.root q) => Nat.beq q.ver ver | _ => false) = true; rw [h1]; simp only; rw [e2, e]; exact Nat.beq_refl ver), fun b hb => ?_⟩
          rcases hb with hb | hb
          · exact ⟨.inl (h.fR b hb).1, (h.fR b hb).2⟩
          · exact h3 e2 b hb
theorem AtPos.move (h : Move w R m us E w' R' m' us' E') {src : Src} {v : Value} (hx : AtPos w R E src v) (hu : usedSrc m us src) (hb : ∀ b, RS R E src b → RS R' E' src b ∧ w'.heap[b]? = w.heap[b]?) : AtPos w' R' E' src v := by
  cases src with
  | imm => trivial
  | inn n ver pos =>
    cases pos with
    | none => trivial
    | some p =>
      obtain ⟨i, o⟩ := p
      obtain ⟨g, h1, h2, h3, h4, h5⟩ := hx
      obtain ⟨e1, _, e3, e4⟩ := h.nm n hu.1
      obtain ⟨h6, h7⟩ := hb g h2
      refine ⟨g, by rw [e1]; exact h1, h6, h3, by rw [e3]; exact h4, ?_⟩
      rw [e4]
      rw [World.cell?_of_block (w := w) (w' := w') (by exact h7)]
      exact h5
theorem RC.move (h : Move w R m us E w' R' m' us' E') {x : AV} {v : Value} (hx : RC w R m us E x v) : RC w' R' m' us' E' x v := by
  cases x with
  | int | bool | str | nilsl | fn | junk => exact hx
  | agg | tup | clo | ifc => exact hx
  | mref n => exact ⟨h.fus n hx.1, by rw [(h.nm n hx.1).2.1]; exact hx.2⟩
  | sl e t xs src =>
    obtain ⟨h1, h2⟩ := h.src hx.1
    exact ⟨h1, hx.2.1, fun hl => (hx.2.2.1 (h2 hl).1).keep (h2 hl).2 (fun b hb => by simp at hb), fun hl => (hx.2.2.2 (h2 hl).1).move h hx.1 (h2 hl).2⟩
  | ref n => exact ⟨h.fus n hx.1, by rw [(h.nm n hx.1).1]; exact hx.2.1, hx.2.2⟩
  | pbox b off => exact ⟨h.fus b hx.1, by rw [(h.nm b hx.1).2.1]; exact hx.2⟩
  | pel n i off =>
    obtain ⟨h1, h2, h3, h4⟩ := hx
    obtain ⟨e1, _, e3, e4⟩ := h.nm n h1
    exact ⟨h.fus n h1, h2, by rw [e3]; exact h3, by rw [e1, e4]; exact h4⟩
  | pro t y off src =>
    obtain ⟨h1, h2⟩ := h.src hx.1
    refine ⟨h1, hx.2.1, fun hl => ?_⟩
    obtain ⟨a, ds, e, hr, hc, hb⟩ := hx.2.2 (h2 hl).1
    refine ⟨a, ds, e, hr.keep (h2 hl).2 (fun b hb => by simp at hb), ?_, fun hd => ((h2 hl).2 _ (hb hd)).1⟩
    by_cases hd : ds = []
    · subst hd; intro j u hu; simp at hu
    · exact hc.same ((h2 hl).2 _ (hb hd)).2
theorem RV0.move (h : Move w R m us E w' R' m' us' E') {x : AV} {v : Value} (hx : RV0 w R m us E x v) : RV0 w' R' m' us' E' x v := by
  cases x with
  | agg cs => obtain ⟨vs, e, h1⟩ := hx; exact ⟨vs, e, h1.imp fun _ _ => RC.move h⟩
  | _ => simp only [RV0] at hx ⊢; exact RC.move h hx
theorem RV1.move (h : Move w R m us E w' R' m' us' E') {x : AV} {v : Value} (hx : RV1 w R m us E x v) : RV1 w' R' m' us' E' x v := by
  cases x with
  | clo f l => obtain ⟨vs, e, h1⟩ := hx; exact ⟨vs, e, h1.imp fun _ _ => RV0.move h⟩
  | ifc X l => obtain ⟨vs, e, h1⟩ := hx; exact ⟨vs, e, h1.imp fun _ _ => RC.move h⟩
  | _ => simp only [RV1] at hx ⊢; exact RV0.move h hx
theorem RV.move (h : Move w R m us E w' R' m' us' E') {x : AV} {v : Value} (hx : RV w R m us E x v) : RV w' R' m' us' E' x v := by
  cases x with
  | tup l => obtain ⟨vs, e, h1⟩ := hx; exact ⟨vs, e, h1.imp fun _ _ => RV1.move h⟩
  | _ => simp only [RV] at hx ⊢; exact RV1.move h hx
/-- a name that nobody touched -/
theorem SR.move (h : Move w R m us E w' R' m' us' E') {n : Nat} (hu : us n = true) (hm : m' n = m n) (hF : E'.F n = E.F n) (hb : ∀ b, b ∈ E.F n → w'.heap[b]? = w.heap[b]?) (hx : SR w R m us E n) : SR w' R' m' us' E' n := by
  unfold SR at hx ⊢
  rw [hm, hF]
  obtain ⟨e1, e2, e3, e4⟩ := h.nm n hu
  rw [e1, e2, e3, e4]
  cases hmn : m n with
  | none => rw [hmn] at hx; exact hx
  | some en =>
    rw [hmn] at hx
    cases en with
    | root q =>
      obtain ⟨l1, l2, ds, Fi, h1, h2, h3⟩ := hx
      exact ⟨l1, l2, ds, Fi, ownsRow_same h1 (fun b hb' => hb b (by rw [h2]; exact List.mem_append.2 (.inl hb'))), h2, h3.imp fun y c G _ hG hp => hp.keep h.fR (fun b hb' => hb b (by rw [h2]; exact List.mem_append.2 (.inr (hG b hb'))))⟩
    | zb e => exact ⟨hx.1, by rw [hb _ (by rw [hx.1]; simp)]; exact hx.2⟩
    | mp es =>
      obtain ⟨l1, arr, h1, h2⟩ := hx
      exact ⟨l1, arr, by rw [hb _ (by rw [l1]; simp)]; exact h1, h2⟩
    | box cs =>
      obtain ⟨l1, arr, T, h1, h2⟩ := hx
      exact ⟨l1, arr, T, by rw [hb _ (by rw [l1]; simp)]; exact h1, h2.imp fun _ _ => RC.move h⟩
end

/-- all that was there at the call's begin is as it was, but for the blocks of F0 -/
structure Keep (w0 w : World) (F0 : List Nat) : Prop where
  os : w.os = w0.os
  tape : w.tape = w0.tape
  output : w.output = w0.output
  size : w0.heap.size ≤ w.heap.size
  block : ∀ k, k < w0.heap.size → k ∉ F0 → w.heap[k]? = w0.heap[k]?
theorem Keep.refl (w : World) (F : List Nat) : Keep w w F := ⟨rfl, rfl, rfl, Nat.le_refl _, fun _ _ _ => rfl⟩

structure Ctx where
  w0 : World
  R0 : Nat → Prop
  F0 : List Nat
  a0 : Nat → Value

structure Sim (C : Ctx) (s : St) (a : Act) (w : World) (R : Nat → Prop) (E : Env) : Prop where
  tm : ∀ t, RV w R s.st s.us E (s.tm t) (a.tmps.getD t undef)
  nt : s.nt = a.tmps.size
  df : a.defers = []
  st : ∀ n, SR w R s.st s.us E n
  un : ∀ n, s.us n = false → s.st n = none
  sub : ∀ b, C.R0 b → R b
  lt : ∀ b, R b → b < w.heap.size
  own : ∀ n b, b ∈ E.F n → ¬ R b ∧ b < w.heap.size ∧ (C.w0.heap.size ≤ b ∨ b ∈ C.F0)
  nd : ∀ n, (E.F n).Nodup
  dj : ∀ n k b, n ≠ k → b ∈ E.F n → b ∉ E.F k
  keep : Keep C.w0 w C.F0
  nw : ∀ b, R b → C.R0 b ∨ C.w0.heap.size ≤ b ∨ b ∈ C.F0

theorem Sim.noneF {C : Ctx} {s : St} {a : Act} {w : World} {R : Nat → Prop} {E : Env} (h : Sim C s a w R E) {n : Nat} (hn : s.st n = none) : E.F n = [] := by
  have := h.st n
  unfold SR at this
  rw [hn] at this
  exact this

/-- a value put into a slot -/
theorem Sim.put {C : Ctx} {s : St} {a : Act} {w : World} {R : Nat → Prop} {E : Env} (h : Sim C s a w R E) (d : Option Nat) {v : AV} {u : Value} (hv : RV w R s.st s.us E v u) : Sim C (s.put d v) (a.put d u) w R E := by
  cases d with
  | none => exact h
  | some d =>
    by_cases hd : d < s.nt
    · have e : s.put (some d) v = { s with tm := upd s.tm d v } := by
        unfold St.put
        simp [show Nat.blt d s.nt = true by rw [Nat.blt_eq]; exact hd]
      rw [e]
      refine ⟨fun t => ?_, ?_, h.df, h.st, h.un, h.sub, h.lt, h.own, h.nd, h.dj, h.keep, h.nw⟩
      · show RV w R s.st s.us E (upd s.tm d v t) ((a.tmps.setIfInBounds d u).getD t undef)
        have hs : d < a.tmps.size := by rw [← h.nt]; exact hd
        by_cases ht : t = d
        · subst ht
          have e1 : upd s.tm t v t = v := by simp [upd]
          have e2 : (a.tmps.setIfInBounds t u).getD t undef = u := by simp [Array.getD, hs]
          rw [e1, e2]
          exact hv
        · have e1 : upd s.tm d v t = s.tm t := by
            have : Nat.beq t d = false := by
              cases hh : Nat.beq t d with
              | false => rfl
              | true => exact absurd (Nat.eq_of_beq_eq_true hh) ht
            simp [upd, this]
          have e2 : (a.tmps.setIfInBounds d u).getD t undef = a.tmps.getD t undef := by
            simp only [Array.getD_eq_getD_getElem?]
            rw [Array.getElem?_setIfInBounds_ne (by omega)]
          rw [e1, e2]
          exact h.tm t
      · show s.nt = (a.tmps.setIfInBounds d u).size
        rw [Array.size_setIfInBounds]
        exact h.nt
    · have e : s.put (some d) v = s := by
        unfold St.put
        have : Nat.blt d s.nt = false := by
          cases hh : Nat.blt d s.nt with
          | false => rfl
          | true => exact absurd (by rw [Nat.blt_eq] at hh; exact hh) hd
        simp [this]
      have e2 : a.put (some d) u = a := by
        unfold Act.put
        have hs : ¬ d < a.tmps.size := by rw [← h.nt]; exact hd
        simp [Array.setIfInBounds, hs]
      rw [e, e2]
      exact h
end Go.Ev
