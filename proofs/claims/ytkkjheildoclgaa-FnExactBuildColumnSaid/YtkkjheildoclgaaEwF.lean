/- A text of the claim: an evaluator of Go functions, and why it answers as they do. -/
import Derived.Test.YtkkjheildoclgaaEwE
import Derived.WalkKit
import Derived.ProofKit
import Derived.OpenShut
import Derived.ShutString
import Derived.ChangeOld
import Derived.Below
import Derived.Carry
import Derived.SizedLaws
set_option linter.all false
set_option linter.unusedVariables false
set_option linter.unusedSimpArgs false
set_option autoImplicit false
set_option linter.unusedVariables false
namespace Go.Ev
open Go.ChangeShapes Go.WideShapes Go.ChangeAt Go.RowKit

/-! ### what comes in, told as data -/
mutual
/-- the type's own layout is this one, all the way down -/
def deepB (P : Program) : TypeId → CT → Bool
  | t, .int k => match P.underlying t with | some (.int k') => decide (k' = k) | _ => false
  | t, .bool => match P.underlying t with | some .bool => true | _ => false
  | t, .str => match P.underlying t with | some .string => true | _ => false
  | t, .sl e c => (match P.underlying t with | some (.slice e') => Nat.beq e' e | _ => false) && (Nat.beq (P.cellsOf e) c.sz && deepB P e c)
  | t, .nil => match P.underlying t with | some (.struct fs) => Nat.beq (P.cellsOf t) 0 && fs.toList.isEmpty | _ => false
  | t, .cons a b => match P.underlying t with
    | some (.struct fs) => Nat.beq (P.cellsOf t) (a.sz + b.sz) && (match fs.toList with
      | f :: r => Nat.beq f.offset 0 && (Nat.beq (P.cellsOf f.type) a.sz && (deepB P f.type a && deepS P r (0 + a.sz) b))
      | [] => false)
    | _ => false
def deepS (P : Program) : List Field → Nat → CT → Bool
  | [], _, .nil => true
  | f :: r, off, .cons a b => Nat.beq f.offset off && (Nat.beq (P.cellsOf f.type) a.sz && (deepB P f.type a && deepS P r (off + a.sz) b))
  | _, _, _ => false
end

/-- the data are such as the types allow -/
def WfT : (t : CT) → Den t → Prop
  | .int k, n => k.min ≤ n ∧ n ≤ k.max
  | .bool, _ => True
  | .str, s => s.size ≤ maxLen
  | .sl _ t, xs => xs.length ≤ maxLen ∧ ∀ x, x ∈ xs → WfT t x
  | .nil, _ => True
  | .cons a b, x => WfT a x.1 ∧ WfT b x.2

def old (w : World) : Nat → Prop := fun b => b < w.heap.size

theorem mapM_cellsE {w : World} {a : Addr} : ∀ (l : List Nat) {cs : List Value}, l.mapM (fun i => w.cell? (a.add i)) = some cs → cs.length = l.length ∧ ∀ (j i : Nat), l[j]? = some i → ∃ u, cs[j]? = some u ∧ w.cell? (a.add i) = some u
  | [], cs, h => by
    simp only [List.mapM_nil, Option.pure_def, Option.some.injEq] at h
    subst h
    exact ⟨rfl, by simp⟩
  | x :: r, cs, h => by
    rw [List.mapM_cons] at h
    cases hx : w.cell? (a.add x) with
    | none => rw [hx] at h; simp at h
    | some u =>
      rw [hx] at h
      cases hr : r.mapM (fun i => w.cell? (a.add i)) with
      | none => rw [hr] at h; simp at h
      | some cs' =>
        rw [hr] at h
        simp at h
        subst h
        obtain ⟨h1, h2⟩ := mapM_cellsE r hr
        refine ⟨by simp [h1], fun j i hj => ?_⟩
        cases j with
        | zero => simp at hj; subst hj; exact ⟨u, rfl, hx⟩
        | succ j => simpa using h2 j i (by simpa using hj)
theorem cells?_cells {w : World} {base : Nat} {a : Addr} {n : Nat} {cs : List Value} (h : w.cells? base a n = some cs) : cs.length = n ∧ ∀ j, j < n → ∃ u, cs[j]? = some u ∧ w.cell? (a.add j) = some u := by
  unfold World.cells? at h
  split at h
  · obtain ⟨h1, h2⟩ := mapM_cellsE _ h
    exact ⟨by simpa using h1, fun j hj => h2 j j (by simp [hj])⟩
  · cases h
theorem cell_lt {w : World} {a : Addr} {u : Value} (h : w.cell? a = some u) : a.block < w.heap.size := by
  unfold World.cell? at h
  cases hb : w.heap[a.block]? with
  | none => rw [hb] at h; simp at h
  | some o => exact (Array.getElem?_eq_some_iff.1 hb).1
theorem add_block (a : Addr) (j : Nat) : (a.add j).block = a.block := by unfold Addr.add; split <;> rfl
theorem wf_int {k : IntKind} {n : Int} (h : (Lit.int k n).wf = true) : k.min ≤ n ∧ n ≤ k.max := by
  simpa [Lit.wf] using h
theorem mapM_fields {H : Type} {g : Field → Option (DataW H × List MemPlace)} : ∀ {l : List Field} {xs : List (DataW H × List MemPlace)}, l.mapM g = some xs → ∀ f, f ∈ l → ∃ y, g f = some y
  | [], xs, h, f, hf => by simp at hf
  | x :: r, xs, h, f, hf => by
    rw [List.mapM_cons] at h
    cases hx : g x with
    | none => rw [hx] at h; simp at h
    | some u =>
      rw [hx] at h
      cases hr : r.mapM g with
      | none => rw [hr] at h; simp at h
      | some cs' =>
        rcases List.mem_cons.1 hf with rfl | hf
        · exact ⟨u, hx⟩
        · exact mapM_fields hr f hf

section
variable {H : Type} {enc : TypeId × Value → H} {P : Program} {w : World} {base : Nat} {spare : Nat → Bool} {held : Bool}
theorem All.build {c : CT} {a : Addr} (m : Nat) (hm : 0 < m) (hc : m = c.sz) : ∀ (n k : Nat), (∀ i, k ≤ i → i < k + n → ∃ cs y, (cs.length = m ∧ ∀ j, j < m → ∃ u, cs[j]? = some u ∧ w.cell? ((a.add (i * m)).add j) = some u) ∧ Rp w (old w) false c y cs [] ∧ WfT c y) →
    ∃ (ys : List (Den c)) (ds : List Value), ys.length = n ∧ ds.length = n * m ∧ All (Rp w (old w) false c) ys ds [] ∧ (∀ y, y ∈ ys → WfT c y) ∧ ∀ j u, ds[j]? = some u → w.cell? (a.add (k * m + j)) = some u
  | 0, k, h => ⟨[], [], rfl, by simp, ⟨rfl, rfl⟩, by simp, by simp⟩
  | n + 1, k, h => by
    obtain ⟨cs, y, ⟨h1, h2⟩, h3, h4⟩ := h k (Nat.le_refl _) (by omega)
    obtain ⟨ys, ds, g1, g2, g3, g4, g5⟩ := All.build m hm hc n (k + 1) fun i hi hi2 => h i (by omega) (by omega)
    refine ⟨y :: ys, cs ++ ds, by simp [g1], by rw [List.length_append, h1, g2, Nat.add_mul]; omega, ⟨cs, ds, [], [], rfl, rfl, h3, g3⟩, fun z hz => ?_, fun j u hj => ?_⟩
    · rcases List.mem_cons.1 hz with rfl | hz
      · exact h4
      · exact g4 z hz
    · by_cases hjm : j < m
      · obtain ⟨u', hu1, hu2⟩ := h2 j hjm
        rw [List.getElem?_append_left (by omega), hu1] at hj
        injection hj with hj
        subst hj
        rw [add_add'] at hu2
        exact hu2
      · rw [List.getElem?_append_right (by omega), h1] at hj
        have := g5 (j - m) u hj
        rw [show (k + 1) * m + (j - m) = k * m + j by rw [Nat.add_mul]; omega] at this
        exact this
/-- what is read, as data -/
theorem open_TS : ∀ (c : CT), (∀ (t : TypeId) (fuel : Nat) (cs : List Value) (x : DataW H × List MemPlace), deepB P t c = true → DataW.trod enc P w base spare held fuel t cs = some x → ∃ y : Den c, Rp w (old w) false c y cs [] ∧ WfT c y) ∧
    ∀ (fs : List Field) (off n : Nat) (cs : List Value), deepS P fs off c = true → (∀ f, f ∈ fs → ∃ y, DataW.trod enc P w base spare held n f.type ((cs.drop f.offset).take (P.cellsOf f.type)) = some y) → cs.length = off + c.sz → ∃ y : Den c, Rp w (old w) false c y (cs.drop off) [] ∧ WfT c y := by
  intro c
  induction c with
  | int k =>
    refine ⟨?_, fun fs off n cs hd => by cases fs <;> simp [deepS] at hd⟩
    intro t fuel cs x hd h
    unfold deepB at hd
    have hu : P.underlying t = some (.int k) := by
      cases hu : P.underlying t with
      | none => rw [hu] at hd; simp at hd
      | some d =>
        rw [hu] at hd
        cases d <;> simp at hd
        subst hd
        rfl
    obtain ⟨n, rfl, _, hw⟩ := DataW.trod_int hu h
    exact ⟨n, ⟨rfl, rfl⟩, wf_int hw⟩
  | bool =>
    refine ⟨?_, fun fs off n cs hd => by cases fs <;> simp [deepS] at hd⟩
    intro t fuel cs x hd h
    unfold deepB at hd
    cases fuel with
    | zero => simp [DataW.trod] at h
    | succ n =>
      unfold DataW.trod at h
      cases hu : P.underlying t with
      | none => rw [hu] at hd; simp at hd
      | some d =>
        rw [hu] at hd h
        cases d <;> simp at hd
        split at h
        · exact ⟨_, ⟨rfl, rfl⟩, trivial⟩
        all_goals (first | (rename_i hu2; cases hu2; done) | (rename_i hu2 _; cases hu2; done) | cases h)
  | str =>
    refine ⟨?_, fun fs off n cs hd => by cases fs <;> simp [deepS] at hd⟩
    intro t fuel cs x hd h
    unfold deepB at hd
    cases fuel with
    | zero => simp [DataW.trod] at h
    | succ n =>
      unfold DataW.trod at h
      cases hu : P.underlying t with
      | none => rw [hu] at hd; simp at hd
      | some d =>
        rw [hu] at hd h
        cases d <;> simp at hd
        split at h <;> simp_all
        exact ⟨_, ⟨rfl, rfl⟩, h.1⟩
  | sl e c ih =>
    obtain ⟨ih, _⟩ := ih
    refine ⟨?_, fun fs off n cs hd => by cases fs <;> simp [deepS] at hd⟩
    intro t fuel cs x hd h
    unfold deepB at hd
    simp only [Bool.and_eq_true] at hd
    obtain ⟨h1, h2, h3⟩ := hd
    have hu : P.underlying t = some (.slice e) := by
      cases hu : P.underlying t with
      | none => rw [hu] at h1; simp at h1
      | some d =>
        rw [hu] at h1
        cases d <;> simp at h1
        subst h1
        rfl
    have hsz := Nat.eq_of_beq_eq_true h2
    rcases DataW.trod_slice hu h with ⟨rfl, _⟩ | ⟨a, len, cap, elems, rest, n, rfl, rfl, _, hb, hl, hm, hlen, hel, _, _⟩
    · exact ⟨[], ⟨none, 0, [], rfl, rfl, Nat.le_refl _, ⟨rfl, rfl⟩, fun hd => absurd rfl hd⟩, Nat.zero_le _, by simp⟩
    · have each : ∀ i, i < len → ∃ cs y, (cs.length = c.sz ∧ ∀ j, j < c.sz → ∃ u, cs[j]? = some u ∧ w.cell? ((a.add (i * c.sz)).add j) = some u) ∧ Rp w (old w) false c y cs [] ∧ WfT c y := fun i hi => by
        have h4 := hel i hi
        rw [hsz, List.getElem?_eq_getElem (by omega)] at h4
        obtain ⟨cs, h5, h6⟩ := Option.bind_eq_some_iff.1 h4
        obtain ⟨y, h7, h8⟩ := ih e n cs _ h3 h6
        exact ⟨cs, y, cells?_cells h5, h7, h8⟩
      have fin : ∃ (ys : List (Den c)) (ds : List Value), ys.length = len ∧ All (Rp w (old w) false c) ys ds [] ∧ (∀ y, y ∈ ys → WfT c y) ∧ ∀ j u, ds[j]? = some u → w.cell? (a.add j) = some u := by
        by_cases h0 : 0 < c.sz
        · obtain ⟨ys, ds, g1, g2, g3, g4, g5⟩ := All.build (w := w) (c := c) (a := a) c.sz h0 rfl len 0 fun i _ hi => each i (by omega)
          exact ⟨ys, ds, g1, g3, g4, fun j u hj => by simpa using g5 j u hj⟩
        · have hz : c.sz = 0 := by omega
          have go : ∀ n, (∀ i, i < n → ∃ cs y, (cs.length = c.sz ∧ ∀ j, j < c.sz → ∃ u, cs[j]? = some u ∧ w.cell? ((a.add (i * c.sz)).add j) = some u) ∧ Rp w (old w) false c y cs [] ∧ WfT c y) → ∃ ys : List (Den c), ys.length = n ∧ All (Rp w (old w) false c) ys [] [] ∧ ∀ y, y ∈ ys → WfT c y := by
            intro n
            induction n with
            | zero => intro _; exact ⟨[], rfl, ⟨rfl, rfl⟩, by simp⟩
            | succ n ihn =>
              intro hh
              obtain ⟨cs, y, ⟨k1, _⟩, k3, k4⟩ := hh n (by omega)
              obtain ⟨ys, g1, g2, g3⟩ := ihn fun i hi => hh i (by omega)
              have hcs : cs = [] := List.eq_nil_of_length_eq_zero (by rw [k1, hz])
              subst hcs
              refine ⟨y :: ys, by simp [g1], ⟨[], [], [], [], rfl, rfl, k3, g2⟩, fun z hz => ?_⟩
              rcases List.mem_cons.1 hz with rfl | hz
              · exact k4
              · exact g3 z hz
          obtain ⟨ys, g1, g2, g3⟩ := go len each
          exact ⟨ys, [], g1, g2, g3, by simp⟩
      obtain ⟨ys, ds, g1, g3, g4, g5⟩ := fin
      subst g1
      refine ⟨ys, ⟨some a, cap, ds, rfl, rfl, hl, g3, fun hd => ⟨a, rfl, ?_, fun j u hj => g5 j u hj⟩⟩, by omega, g4⟩
      match ds, hd with
      | u :: r, _ =>
        have := cell_lt (g5 0 u rfl)
        rw [add_block] at this
        exact this
  | nil =>
    refine ⟨?_, fun fs off n cs hd _ hl => ⟨(), ⟨List.drop_eq_nil_of_le (by rw [hl]; simp [CT.sz]), rfl⟩, trivial⟩⟩
    intro t fuel cs x hd h
    unfold deepB at hd
    cases fuel with
    | zero => simp [DataW.trod] at h
    | succ n =>
      unfold DataW.trod at h
      cases hu : P.underlying t with
      | none => rw [hu] at hd; simp at hd
      | some d =>
        rw [hu] at hd h
        cases d <;> simp at hd
        simp only at h
        split at h
        · rename_i hlen
          refine ⟨(), ⟨List.eq_nil_of_length_eq_zero (by rw [hlen]; exact hd.1), rfl⟩, trivial⟩
        · cases h
  | cons a b iha ihb =>
    have part2 : ∀ (fs : List Field) (off n : Nat) (cs : List Value), deepS P fs off (.cons a b) = true → (∀ f, f ∈ fs → ∃ y, DataW.trod enc P w base spare held n f.type ((cs.drop f.offset).take (P.cellsOf f.type)) = some y) → cs.length = off + (CT.cons a b).sz → ∃ y : Den (.cons a b), Rp w (old w) false (.cons a b) y (cs.drop off) [] ∧ WfT (.cons a b) y := by
      intro fs off n cs hd hf hl
      cases fs with
      | nil => simp [deepS] at hd
      | cons f r =>
        unfold deepS at hd
        simp only [Bool.and_eq_true] at hd
        obtain ⟨h1, h2, h3, h4⟩ := hd
        have h1 := Nat.eq_of_beq_eq_true h1
        have h2 := Nat.eq_of_beq_eq_true h2
        obtain ⟨y, hy⟩ := hf f (by simp)
        rw [h1, h2] at hy
        obtain ⟨y1, k1, k2⟩ := iha.1 _ _ _ _ h3 hy
        obtain ⟨y2, k3, k4⟩ := ihb.2 r (off + a.sz) n cs h4 (fun g hg => hf g (by simp [hg])) (by rw [hl]; simp [CT.sz]; omega)
        refine ⟨(y1, y2), ⟨_, _, [], [], ?_, rfl, k1, k3⟩, k2, k4⟩
        rw [← List.drop_drop, List.take_append_drop]
    refine ⟨?_, part2⟩
    intro t fuel cs x hd h
    unfold deepB at hd
    cases fuel with
    | zero => simp [DataW.trod] at h
    | succ n =>
      unfold DataW.trod at h
      cases hu : P.underlying t with
      | none => rw [hu] at hd; simp at hd
      | some d =>
        rw [hu] at hd h
        cases d with
        | struct fs =>
          simp only [Bool.and_eq_true] at hd
          simp only at h
          split at h
          · rename_i hlen
            obtain ⟨xs, hxs, _⟩ := Option.map_eq_some_iff.1 h
            have hf := mapM_fields hxs
            have hsz := Nat.eq_of_beq_eq_true hd.1
            have hds : deepS P fs.toList 0 (.cons a b) = true := by
              have h2 := hd.2
              generalize fs.toList = l at h2
              cases l with
              | nil => simp at h2
              | cons f r => unfold deepS; exact h2
            obtain ⟨y, h1, h2⟩ := part2 fs.toList 0 n cs hds hf (by rw [hlen, hsz]; simp [CT.sz])
            exact ⟨y, by simpa using h1, h2⟩
          · cases h
        | _ => simp at hd

/-! ### the arguments of a law -/
def fmApp : CT → Fm → Fm
  | .int k, f => .cons (.int k) f
  | .bool, f => .cons .bool f
  | .str, f => .cons .str f
  | .sl e t, f => .cons (.sl e t) f
  | .nil, f => f
  | .cons a b, f => fmApp a (fmApp b f)
def flatD : (c : CT) → (f : Fm) → Den c → DenF f → DenF (fmApp c f)
  | .int _, _, x, y => (x, y)
  | .bool, _, x, y => (x, y)
  | .str, _, x, y => (x, y)
  | .sl _ _, _, x, y => (x, y)
  | .nil, _, _, y => y
  | .cons a b, f, x, y => flatD a (fmApp b f) x.1 (flatD b f x.2 y)
def argFm : CT → Fm
  | .int k => .int k
  | .bool => .bool
  | .str => .str
  | .sl e t => .sl e t
  | c => .agg (fmApp c .nil)
def argsFm : List CT → Fm
  | [] => .nil
  | c :: r => .cons (argFm c) (argsFm r)
def WfF : (f : Fm) → DenF f → Prop
  | .int k, n => k.min ≤ n ∧ n ≤ k.max
  | .bool, _ => True
  | .str, s => s.size ≤ maxLen
  | .sl _ t, xs => xs.length ≤ maxLen ∧ ∀ x, x ∈ xs → WfT t x
  | .agg f, x => WfF f x
  | .cons a b, x => WfF a x.1 ∧ WfF b x.2
  | _, _ => True
theorem flat_ok {w : World} : ∀ {c : CT} {f : Fm} {x : Den c} {y : DenF f} {cs vs : List Value}, Rp w (old w) false c x cs [] → WfT c x → RepCs w (old w) f y vs [] → WfF f y → RepCs w (old w) (fmApp c f) (flatD c f x y) (cs ++ vs) [] ∧ WfF (fmApp c f) (flatD c f x y)
  | .int _, _, _, _, _, _, h, hw, h2, hw2 => by rw [h.1]; exact ⟨⟨_, _, [], [], rfl, rfl, ⟨rfl, rfl⟩, h2⟩, hw, hw2⟩
  | .bool, _, _, _, _, _, h, hw, h2, hw2 => by rw [h.1]; exact ⟨⟨_, _, [], [], rfl, rfl, ⟨rfl, rfl⟩, h2⟩, hw, hw2⟩
  | .str, _, _, _, _, _, h, hw, h2, hw2 => by rw [h.1]; exact ⟨⟨_, _, [], [], rfl, rfl, ⟨rfl, rfl⟩, h2⟩, hw, hw2⟩
  | .sl e t, _, _, _, _, _, h, hw, h2, hw2 => by
    obtain ⟨A, c, ds, e1, e2, h3, h4, h5⟩ := h
    rw [e1]
    refine ⟨⟨_, _, [], [], rfl, rfl, ⟨⟨A, c, ds, rfl, h3, h4, fun hd => ?_⟩, rfl⟩, h2⟩, hw, hw2⟩
    obtain ⟨a, k1, k2, k3⟩ := h5 hd
    exact ⟨a, k1, k2, k3⟩
  | .nil, _, _, _, _, _, h, hw, h2, hw2 => by rw [h.1]; exact ⟨h2, hw2⟩
  | .cons a b, f, x, y, cs, vs, ⟨c1, c2, F1, F2, e1, e2, h1, h2⟩, hw, h3, hw3 => by
    have hF := List.append_eq_nil_iff.1 e2.symm
    obtain ⟨hF1, hF2⟩ := hF
    subst hF1
    subst hF2
    rw [e1, List.append_assoc]
    obtain ⟨k1, k2⟩ := flat_ok (c := b) h2 hw.2 h3 hw3
    exact flat_ok (c := a) h1 hw.1 k1 k2
theorem arg_open {r : Reach} {b0 : Nat} {c : CT} {t : TypeId} {v : Value} {d : DataW H} {ps : List MemPlace} (hd : deepB P t c = true) (hval : Value.okWide P w r b0 t v) (h : DataW.Trod enc P w base spare held t v d ps) : ∃ x : DenF (argFm c), RepV w (old w) (argFm c) x v [] ∧ WfF (argFm c) x := by
  obtain ⟨fuel, hf⟩ := h
  obtain ⟨y, h1, h2⟩ := (open_TS c).1 t fuel _ _ hd hf
  have agg : ∀ {fs : Array Field}, P.underlying t = some (.struct fs) → ∃ x : DenF (fmApp c .nil), RepV w (old w) (.agg (fmApp c .nil)) x v [] ∧ WfF (fmApp c .nil) x := by
    intro fs hu
    obtain ⟨cs, rfl, _⟩ := okWide_struct hu hval
    obtain ⟨k1, k2⟩ := flat_ok (f := .nil) (y := ()) (vs := []) h1 h2 ⟨rfl, rfl⟩ trivial
    rw [List.append_nil] at k1
    refine ⟨flatD c .nil y (), ⟨cs.toList, by simp, k1⟩, k2⟩
  cases c with
  | int k =>
    have hu : P.underlying t = some (.int k) := by
      unfold deepB at hd
      cases hu : P.underlying t with
      | none => rw [hu] at hd; simp at hd
      | some d => rw [hu] at hd; cases d <;> simp at hd; subst hd; rfl
    obtain ⟨n, rfl⟩ := okWide_int hu hval
    have e := h1.1
    simp [Value.cells] at e
    subst e
    exact ⟨_, ⟨rfl, rfl⟩, h2⟩
  | bool =>
    have hu : P.underlying t = some .bool := by
      unfold deepB at hd
      cases hu : P.underlying t with
      | none => rw [hu] at hd; simp at hd
      | some d => rw [hu] at hd; cases d <;> simp at hd; rfl
    obtain ⟨b, rfl⟩ := okWide_bool hu hval
    exact ⟨b, ⟨rfl, rfl⟩, trivial⟩
  | str =>
    have hu : P.underlying t = some .string := by
      unfold deepB at hd
      cases hu : P.underlying t with
      | none => rw [hu] at hd; simp at hd
      | some d => rw [hu] at hd; cases d <;> simp at hd; rfl
    obtain ⟨b, rfl⟩ := okWide_string hu hval
    have e := h1.1
    simp [Value.cells] at e
    subst e
    exact ⟨_, ⟨rfl, rfl⟩, h2⟩
  | sl e c =>
    have hu : P.underlying t = some (.slice e) := by
      unfold deepB at hd
      simp only [Bool.and_eq_true] at hd
      cases hu : P.underlying t with
      | none => rw [hu] at hd; simp at hd
      | some d => rw [hu] at hd; cases d <;> simp at hd; obtain ⟨h3, _⟩ := hd; subst h3; rfl
    obtain ⟨a, l, cp, rfl⟩ := okWide_slice hu hval
    obtain ⟨A, cc, ds, e1, _, h3, h4, h5⟩ := h1
    simp [Value.cells] at e1
    obtain ⟨rfl, rfl, rfl⟩ := e1
    refine ⟨y, ⟨⟨a, cp, ds, rfl, h3, h4, fun hd => ?_⟩, rfl⟩, h2⟩
    obtain ⟨ad, k1, k2, k3⟩ := h5 hd
    exact ⟨ad, k1, k2, k3⟩
  | nil =>
    have : ∃ fs, P.underlying t = some (.struct fs) := by
      unfold deepB at hd
      cases hu : P.underlying t with
      | none => rw [hu] at hd; simp at hd
      | some d => rw [hu] at hd; cases d <;> simp at hd; exact ⟨_, rfl⟩
    obtain ⟨fs, hu⟩ := this
    exact agg hu
  | cons a b =>
    have : ∃ fs, P.underlying t = some (.struct fs) := by
      unfold deepB at hd
      cases hu : P.underlying t with
      | none => rw [hu] at hd; simp at hd
      | some d => rw [hu] at hd; cases d <;> simp at hd; exact ⟨_, rfl⟩
    obtain ⟨fs, hu⟩ := this
    exact agg hu
def deepAll (P : Program) : List TypeId → List CT → Bool
  | [], [] => true
  | t :: ts, c :: cs => deepB P t c && (P.readableRec t && (Nat.blt t P.types.size && deepAll P ts cs))
  | _, _ => false
theorem args_open {r : Reach} {b0 : Nat} : ∀ {cts : List CT} {ts : List TypeId} {args : List Value} {ds : List (DataW H)} {ps : List MemPlace}, deepAll P ts cts = true → (∀ (j : Nat) t v, ts[j]? = some t → args[j]? = some v → Value.okWide P w r b0 t v) → DataW.TrodAll enc P w base spare held ts args ds ps →
    ∃ x : DenF (argsFm cts), RepVs w (old w) (argsFm cts) x args [] ∧ WfF (argsFm cts) x
  | [], [], args, ds, ps, _, _, h => by
    cases args with
    | nil => exact ⟨(), ⟨rfl, rfl⟩, trivial⟩
    | cons v r => cases ds <;> exact h.elim
  | [], _ :: _, _, _, _, hd, _, _ => by simp [deepAll] at hd
  | _ :: _, [], _, _, _, hd, _, _ => by simp [deepAll] at hd
  | c :: cs, t :: ts, args, ds, ps, hd, hval, h => by
    cases args with
    | nil => cases ds <;> exact h.elim
    | cons v r =>
      cases ds with
      | nil => exact h.elim
      | cons d ds =>
        obtain ⟨p, q, h1, h2, _⟩ := h
        unfold deepAll at hd
        simp only [Bool.and_eq_true] at hd
        obtain ⟨x, k1, k2⟩ := arg_open hd.1 (hval 0 t v rfl rfl) h1
        obtain ⟨y, k3, k4⟩ := args_open (args := r) hd.2.2.2 (fun j t v hj hv => hval (j + 1) t v (by simpa using hj) (by simpa using hv)) h2
        exact ⟨(x, y), ⟨v, r, [], [], rfl, rfl, k1, k3⟩, k2, k4⟩
theorem args_below (hl : laidOutB P = true) {W W' : World} (hb : Below W.heap.size W W') : ∀ {cts : List CT} {ts : List TypeId} {args : List Value} {ds : List (DataW H)} {ps : List MemPlace}, deepAll P ts cts = true → DataW.TrodAll enc P W 0 (fun _ => true) true ts args ds ps → ∃ qs, DataW.TrodAll enc P W' 0 (fun b => decide (b < W.heap.size)) true ts args ds qs
  | [], [], args, ds, ps, _, h => by
    cases args with
    | nil =>
      cases ds with
      | nil => exact ⟨[], rfl⟩
      | cons _ _ => exact h.elim
    | cons v r => cases ds <;> exact h.elim
  | [], _ :: _, _, _, _, hd, _ => by simp [deepAll] at hd
  | _ :: _, [], _, _, _, hd, _ => by simp [deepAll] at hd
  | c :: cs, t :: ts, args, ds, ps, hd, h => by
    cases args with
    | nil => cases ds <;> exact h.elim
    | cons v r =>
      cases ds with
      | nil => exact h.elim
      | cons d ds =>
        obtain ⟨p, q, h1, h2, _⟩ := h
        unfold deepAll at hd
        simp only [Bool.and_eq_true] at hd
        obtain ⟨qs, k⟩ := args_below hl hb hd.2.2.2 h2
        have lt : ∀ x ∈ p, x.block < W.heap.size := by obtain ⟨m, hm⟩ := h1; exact DataW.trod_lt m _ _ _ hm
        exact ⟨p ++ qs, p, qs, Below.trod hl hd.2.1 (by have := hd.2.2.1; rwa [Nat.blt_eq] at this) h1 hb lt, k, rfl⟩
theorem trod_len : ∀ {ts : List TypeId} {args : List Value} {ds : List (DataW H)} {ps : List MemPlace}, DataW.TrodAll enc P w base spare held ts args ds ps → ds.length = ts.length
  | [], [], [], _, _ => rfl
  | [], [], _ :: _, _, h => h.elim
  | [], _ :: _, [], _, h => h.elim
  | [], _ :: _, _ :: _, _, h => h.elim
  | _ :: _, [], [], _, h => h.elim
  | _ :: _, [], _ :: _, _, h => h.elim
  | _ :: _, _ :: _, [], _, h => h.elim
  | _ :: _, _ :: _, _ :: _, _, ⟨_, _, _, h, _⟩ => by simp [trod_len h]
/-- what a law keeps: it answers true, and what was there is as it was -/
theorem law_calls {g : FuncId} {S : Spec} (hS : SpecOK P g S) {f : Func} (hf : P.funcs[g]? = some f) (hname : (f.name == "runtime.NumGoroutine") = false) (hb : f.body.isSome = true) {cts : List CT} {ts : List TypeId} (hd : deepAll P ts cts = true) {sp : DenF (argsFm cts) → Option (Bool × DenB (argsFm cts))} (hsp : S = ⟨argsFm cts, .bool, sp⟩)
    (hlaw : ∀ x, WfF (argsFm cts) x → ∃ u, sp x = some (true, u)) {r : Reach} {b0 : Nat} {args : List Value} {ds : List (DataW H)} {ps : List MemPlace} (hval : ∀ (j : Nat) t v, ts[j]? = some t → args[j]? = some v → Value.okWide P w r b0 t v) (h : DataW.TrodAll enc P w base spare held ts args ds ps) :
    Calls P g args.toArray w fun e w' => e = .returned (.bool true) ∧ Below w.heap.size w w' := by
  subst hsp
  obtain ⟨x, k1, k2⟩ := args_open hd hval h
  obtain ⟨u, hu⟩ := hlaw x k2
  have hU := hS w (old w) [] args x (true, u) hu k1 (by simp) (by simp) (fun b hb => hb)
  obtain ⟨c, hc⟩ := Option.isSome_iff_exists.1 hb
  have hcall : (callFunc g args.toArray).run P w = .ok (.enter g args.toArray) w := by
    have hname' : ¬ f.name = "runtime.NumGoroutine" := by simpa using hname
    simp [callFunc, hf, hname', hc]
  unfold UponCall at hU
  rw [hcall] at hU
  refine Calls.mono hU fun e w' ⟨v, he, hk, R', F', G', _, _, hr, _⟩ => ?_
  have hv : v = .bool true := hr.1
  subst hv
  exact ⟨he, hk.os, hk.tape, hk.output, hk.size, fun k hk' => hk.block k hk' (by simp)⟩
end
end Go.Ev
