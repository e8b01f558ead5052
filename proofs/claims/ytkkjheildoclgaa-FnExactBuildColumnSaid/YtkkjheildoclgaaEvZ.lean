/- A text of the claim: an evaluator of Go functions, and why it answers as they do. -/
import Derived.Test.YtkkjheildoclgaaEvY
import Derived.Orders
set_option linter.all false
set_option linter.unusedVariables false
set_option linter.unusedSimpArgs false
set_option autoImplicit false
set_option linter.unusedVariables false
namespace Go.Ev
variable {ρ : Type} {P : Program} {T : Tab} {O : Orc} {C : Ctx} {s : St} {a : Act} {w : World} {R : Nat → Prop} {E : Env} {Q : Exit → Act → World → Prop}

theorem rm_sub (ns : List Nat) (m : Mem) : Sub (rm ns m) m := by
  intro n e h
  unfold rm at h
  cases hn : elemN n ns with
  | false => rw [hn] at h; cases h
  | true => rw [hn] at h; exact h
theorem Sim.drew (h : Sim C s a w R E) (k : Nat) : Sim C s a { w with drawn := k } R E :=
  h.grow (w' := { w with drawn := k }) (fun _ _ => rfl) (Nat.le_refl _) ⟨h.keep.os, h.keep.tape, h.keep.output, h.keep.size, h.keep.block⟩

/-- the first slots are as they were -/
def Fxd (fx : Nat) (C : Ctx) (a : Act) : Prop := ∀ t, t < fx → a.tmps.getD t undef = C.a0 t
theorem Fxd.put {fx : Nat} (h : Fxd fx C a) {d : Option Nat} (hd : dOk fx d = true) (u : Value) : Fxd fx C (a.put d u) := by
  intro t ht
  cases d with
  | none => exact h t ht
  | some d =>
    have hle : fx ≤ d := Nat.le_of_ble_eq_true hd
    show (a.tmps.setIfInBounds d u).getD t undef = C.a0 t
    rw [Array.getD_eq_getD_getElem?, Array.getElem?_setIfInBounds_ne (by omega), ← Array.getD_eq_getD_getElem?]
    exact h t ht
theorem yielded_of (h : Sim C s a w R E) {full : Array Oper} {j d : Nat} {b : Bool} (hd : (full.toList[j]?).bind (·.dst) = some d) (hb : s.tm d = .bool b) : yielded full a.tmps j = some b := by
  have h1 := h.tm d
  rw [hb] at h1
  have h2 : a.tmps.getD d undef = .bool b := h1
  have h3 : a.tmps[d]? = some (.bool b) := by
    rw [Array.getD_eq_getD_getElem?] at h2
    cases h4 : a.tmps[d]? with
    | none => rw [h4] at h2; cases h2
    | some v => rw [h4] at h2; simp at h2; rw [h2]
  unfold yielded
  have h5 : ((full[j]?).bind fun x => x.dst) = some d := by rw [← hd, Array.getElem?_toList]
  rw [h5]
  simp [h3]

theorem rv_undef {m : Mem} {us : Nat → Bool} : RV w R m us E (.tup []) undef := ⟨[], rfl, rfl⟩
theorem yielded_undef (h : Sim C s a w R E) {full : Array Oper} {j d : Nat} (hd : (full.toList[j]?).bind (·.dst) = some d) (hb : s.tm d = .tup []) : yielded full a.tmps j = none := by
  have h1 := h.tm d
  rw [hb] at h1
  obtain ⟨vs, e, h2⟩ := h1
  have h2' : vs = [] := h2
  subst h2'
  have h5 : ((full[j]?).bind fun x => x.dst) = some d := by rw [← hd, Array.getElem?_toList]
  unfold yielded
  rw [h5]
  rw [Array.getD_eq_getD_getElem?] at e
  cases h4 : a.tmps[d]? with
  | none => simp [h4]
  | some v =>
    rw [h4] at e
    simp only [Option.getD_some] at e
    subst e
    simp [h4]

/-- one step -/
theorem step_wp (hT : TabOK P T) (hO : OrcOK P O) (h : Sim C s a w R E) {fx : Nat} (hfx : Fxd fx C a) {full : Array Oper} {i : Nat} {o : Oper} (ho : full[i]? = some o) {s1 : St} {q : Rec} (hs : stepR T O fx full.toList o s s1 q) {next : Act → World → Prop}
    (hn : ∀ a' w' R' E', Fxd fx C a' → Sim C s1 a' w' R' E' → next a' w') : wpOp P full Q i next a w := by
  unfold wpOp
  rw [ho]
  dsimp only
  obtain ⟨hd0, hs⟩ := hs
  rcases hs with ⟨v, ws, g, h1, h2, h3, h4, h5⟩ | ⟨j, want, d, h1, h2, h3, h4, _⟩
  · obtain ⟨v', ws', e, hg⟩ := core_sound hT hO h (rm_sub _ _) (o := o) rfl _ _ _ _ h1
    simp only [Option.some.injEq, Prod.mk.injEq] at e
    obtain ⟨rfl, rfl⟩ := e
    have hw : Region.wanted o (yielded full a.tmps) = true := by
      unfold Region.wanted
      cases hgd : o.guard with
      | none => rfl
      | some p =>
        obtain ⟨j, want⟩ := p
        rw [hgd] at h5
        obtain ⟨d, h6, _, h8⟩ := h5
        dsimp only
        rw [yielded_of h h6 h8]
        simp
    rw [if_pos hw]
    refine .inl (hg h2 next Q fun u w' R' E' hs => hn _ w' R' E' (hfx.put hd0 u) ?_)
    rw [h3]
    exact hs
  · have hw : Region.wanted o (yielded full a.tmps) = false := by
      unfold Region.wanted
      rw [h1]
      dsimp only
      rcases h3 with h3 | h3
      · rw [yielded_of h h2 h3]
        cases want <;> rfl
      · rw [yielded_undef h h2 h3]
        rfl
    rw [hw]
    simp only [Bool.false_eq_true, if_false]
    refine hn _ _ R E (hfx.put hd0 _) ?_
    rw [h4]
    exact h.put o.dst rv_undef

/-- the text's order -/
theorem ops_wp (hT : TabOK P T) (hO : OrcOK P O) {full : Array Oper} {fx : Nat} {K : St → Option ρ} {r : ρ} {nt : Nat} (hQ : ∀ s' a' w' R' E', s'.nt = nt → Fxd fx C a' → K s' = some r → Sim C s' a' w' R' E' → Q .normal a' w') :
    ∀ (rest : List Oper) (l : List Nat), L2 (fun i o => full[i]? = some o) l rest → ∀ {s : St} {a : Act} {w : World} {R : Nat → Prop} {E : Env}, s.nt = nt → Fxd fx C a → Sim C s a w R E → evalOps T O fx full.toList rest s K = some r → wpOps P full Q l a w := by
  intro rest
  induction rest with
  | nil =>
    intro l hl s a w R E hnt hfx h hK
    cases l with
    | nil => exact hQ _ _ _ _ _ hnt hfx hK h
    | cons i l => obtain ⟨y, l', e, _⟩ := hl; cases e
  | cons o rest ih =>
    intro l hl s a w R E hnt hfx h hK
    cases l with
    | nil => exact absurd (show o :: rest = [] from hl) (by simp)
    | cons i l =>
      obtain ⟨o', l', e, ho, hl'⟩ := hl
      simp only [List.cons.injEq] at e
      obtain ⟨rfl, rfl⟩ := e
      rw [wpOps_cons]
      have one : ∀ (hw : Region.wanted o (yielded full a.tmps) = true), evalOp T O fx o s s.st (fun s => evalOps T O fx full.toList rest s K) = some r → wpOp P full Q i (wpOps P full Q l) a w := by
        intro hw hK
        unfold evalOp at hK
        obtain ⟨v, ws, e, hg⟩ := core_sound hT hO h (m := s.st) (fun _ _ h => h) (o := o) rfl _ _ _ _ hK
        obtain ⟨hf, hK'⟩ := bif_some e
        rw [Bool.and_eq_true] at hf
        unfold wpOp
        rw [ho]
        dsimp only
        rw [if_pos hw]
        exact .inl (hg hf.1 _ Q fun u w' R' E' hs => ih l hl' (by rw [(put_st _ _ _).2.2, (write_tm ws s).2]; exact hnt) (hfx.put hf.2 u) hs hK')
      unfold evalOps at hK
      split at hK
      · rename_i hg
        exact one (by unfold Region.wanted; rw [hg]) hK
      · rename_i j want hg
        split at hK
        · rename_i d hd
          split at hK
          · rename_i b hb
            have hy := yielded_of h hd hb
            cases hbw : (b == want) with
            | true =>
              rw [hbw] at hK
              have e : b = want := by simpa using hbw
              subst e
              dsimp only [cond_true] at hK
              rw [put_same s d hb] at hK
              exact one (by unfold Region.wanted; rw [hg]; dsimp only; rw [hy]; simp) hK
            | false =>
              rw [hbw] at hK
              have e : b = !want := by cases b <;> cases want <;> simp_all
              subst e
              dsimp only [cond_false] at hK
              rw [put_same s d hb] at hK
              obtain ⟨hd0, hK⟩ := bif_some hK
              have hw : Region.wanted o (yielded full a.tmps) = false := by
                unfold Region.wanted
                rw [hg]
                dsimp only
                rw [hy]
                cases want <;> rfl
              unfold wpOp
              rw [ho]
              dsimp only
              rw [hw]
              simp only [Bool.false_eq_true, if_false]
              exact ih l hl' (by rw [(put_st _ _ _).2.2]; exact hnt) (hfx.put hd0 _) (h.put o.dst (v := .tup []) (u := undef) rv_undef) hK
          · rename_i hb
            obtain ⟨hd0, hK⟩ := bif_some hK
            have hw : Region.wanted o (yielded full a.tmps) = false := by
              unfold Region.wanted
              rw [hg]
              dsimp only
              rw [yielded_undef h hd hb]
              rfl
            unfold wpOp
            rw [ho]
            dsimp only
            rw [hw]
            simp only [Bool.false_eq_true, if_false]
            exact ih l hl' (by rw [(put_st _ _ _).2.2]; exact hnt) (hfx.put hd0 _) (h.put o.dst (v := .tup []) (u := undef) rv_undef) hK
          · cases hK
        · cases hK
theorem range_l2 (full : Array Oper) : L2 (fun i o => full[i]? = some o) (List.range full.size) full.toList := by
  have gen : ∀ (l : List Oper) (k : Nat), (∀ j, l[j]? = full[k + j]?) → L2 (fun i o => full[i]? = some o) (List.range' k l.length) l := by
    intro l
    induction l with
    | nil => intro k _; rfl
    | cons o l ih =>
      intro k h
      rw [List.length_cons, List.range'_succ]
      refine ⟨o, l, rfl, ?_, ih (k + 1) fun j => ?_⟩
      · have := h 0; simp at this; exact this.symm
      · have := h (j + 1); simp at this; rw [this]; congr 1; omega
  have := gen full.toList 0 (fun j => by simp)
  rw [List.range_eq_range']
  simpa using this

/-! ### the steps, in any order that the region may take -/
def recA (rs : List Rec) (i : Nat) : Rec := (rs[i]?).getD ⟨none, [], [], []⟩
def seqI (fx : Nat) (T : Tab) (O : Orc) (full : Array Oper) (rs : List Rec) : List Nat → St → St → Prop
  | [], s, s' => s' = s
  | i :: l, s, s' => ∃ o s1, full[i]? = some o ∧ stepR T O fx full.toList o s s1 (recA rs i) ∧ seqI fx T O full rs l s1 s'
theorem seqI_of {fx : Nat} {full : Array Oper} {rs : List Rec} : ∀ (rest : List Oper) (k : Nat) (rs' : List Rec) {s s' : St}, (∀ j, rest[j]? = full[k + j]?) → (∀ j, rs'[j]? = rs[k + j]?) → seqR T O fx full.toList rest rs' s s' → seqI fx T O full rs (List.range' k rest.length) s s'
  | [], k, rs', s, s', _, _, h => h.2
  | o :: rest, k, rs', s, s', h1, h2, ⟨q, rs2, s1, e, hs, h⟩ => by
    subst e
    rw [List.length_cons, List.range'_succ]
    refine ⟨o, s1, ?_, ?_, seqI_of rest (k + 1) rs2 (fun j => ?_) (fun j => ?_) h⟩
    · have := h1 0; simp at this; exact this.symm
    · have := h2 0
      simp at this
      unfold recA
      rw [← this]
      exact hs
    · have := h1 (j + 1); simp at this; rw [this]; congr 1; omega
    · have := h2 (j + 1); simp at this; rw [this]; congr 1; omega
theorem seqI_front {fx : Nat} {full : Array Oper} {rs : List Rec} : ∀ (A : List Nat) {i : Nat} {B : List Nat} {s s' : St}, seqI fx T O full rs (A ++ i :: B) s s' → (∀ k, k ∈ A → conflict (recA rs k) (recA rs i) = false) → seqI fx T O full rs (i :: (A ++ B)) s s'
  | [], _, _, _, _, h, _ => h
  | k :: A, i, B, s, s', ⟨o, s1, ho, hs, h⟩, hc => by
    obtain ⟨oi, s2, hoi, hsi, h2⟩ := seqI_front A h fun j hj => hc j (by simp [hj])
    obtain ⟨s3, h3, h4⟩ := stepR_swap T O hs hsi (hc k (by simp))
    exact ⟨oi, s3, hoi, h3, o, s2, ho, h4, h2⟩

theorem force_eq {α : Type} (n : Nat) (k : Nat → α) : force n k = k n := by cases n <;> rfl
theorem msk1_bit (acc : List Nat) : ∀ (l : List Edge) (k : Nat), (msk1 acc l).testBit k = true → ∃ e, e ∈ l ∧ Region.binds .any e = true ∧ (k = e.on ∨ (acc.getD e.on 0).testBit k = true)
  | [], k, h => by simp [msk1] at h
  | e :: r, k, h => by
    unfold msk1 at h
    cases hb : Region.binds .any e with
    | false =>
      rw [hb] at h
      obtain ⟨e', h1, h2⟩ := msk1_bit acc r k h
      exact ⟨e', by simp [h1], h2⟩
    | true =>
      rw [hb] at h
      simp only [cond_true, Nat.testBit_or, Bool.or_eq_true] at h
      rcases h with (h | h) | h
      · refine ⟨e, by simp, hb, .inl ?_⟩
        rw [Nat.testBit_two_pow] at h
        simp at h
        exact h.symm
      · exact ⟨e, by simp, hb, .inr h⟩
      · obtain ⟨e', h1, h2⟩ := msk1_bit acc r k h
        exact ⟨e', by simp [h1], h2⟩
theorem befs_pre : ∀ (l : List Oper) (acc : List Nat), ∃ t, befs l acc = acc ++ t
  | [], acc => ⟨[], by simp [befs]⟩
  | o :: r, acc => by
    unfold befs
    rw [force_eq]
    obtain ⟨t, h⟩ := befs_pre r (acc ++ [msk1 acc o.after.toList])
    exact ⟨_ :: t, by rw [h, List.append_assoc]; rfl⟩
theorem befs_bit : ∀ (l : List Oper) (acc : List Nat) (j : Nat) (o : Oper), l[j]? = some o → ∀ k, ((befs l acc).getD (acc.length + j) 0).testBit k = true → ∃ e, e ∈ o.after.toList ∧ Region.binds .any e = true ∧ (k = e.on ∨ ((befs l acc).getD e.on 0).testBit k = true)
  | [], _, j, o, h, _, _ => by simp at h
  | o' :: r, acc, 0, o, h, k, hk => by
    simp only [List.getElem?_cons_zero, Option.some.injEq] at h
    subst h
    unfold befs at hk ⊢
    rw [force_eq] at hk ⊢
    obtain ⟨t, ht⟩ := befs_pre r (acc ++ [msk1 acc o'.after.toList])
    rw [ht] at hk ⊢
    have e1 : ((acc ++ [msk1 acc o'.after.toList]) ++ t).getD (acc.length + 0) 0 = msk1 acc o'.after.toList := by simp [List.getD]
    rw [e1] at hk
    obtain ⟨e, h1, h2, h3⟩ := msk1_bit _ _ _ hk
    refine ⟨e, h1, h2, h3.imp id fun h3 => ?_⟩
    by_cases hlt : e.on < acc.length
    · rw [List.append_assoc]
      have : (acc ++ ([msk1 acc o'.after.toList] ++ t)).getD e.on 0 = acc.getD e.on 0 := by
        simp only [List.getD]
        rw [List.getElem?_append_left hlt]
      rw [this]
      exact h3
    · have : acc.getD e.on 0 = 0 := by simp [List.getD, List.getElem?_eq_none (Nat.le_of_not_lt hlt)]
      rw [this] at h3
      simp at h3
  | o' :: r, acc, j + 1, o, h, k, hk => by
    unfold befs at hk ⊢
    rw [force_eq] at hk ⊢
    have := befs_bit r (acc ++ [msk1 acc o'.after.toList]) j o (by simpa using h) k (by
      rw [List.length_append, List.length_singleton]
      rw [Nat.add_assoc, Nat.add_comm 1 j]
      exact hk)
    exact this
theorem edges_lt : ∀ (l : List Edge) (i : Nat), edgesOk i l = true → ∀ e, e ∈ l → Region.binds .any e = true → e.on < i
  | [], _, _ => by simp
  | x :: r, i, h => by
    intro e he hb
    unfold edgesOk at h
    rcases List.mem_cons.1 he with rfl | he
    · rw [hb] at h
      cases hl : Nat.blt e.on i with
      | true => rw [Nat.blt_eq] at hl; exact hl
      | false => rw [hl] at h; cases h
    · cases hx : Region.binds .any x with
      | false => rw [hx] at h; exact edges_lt r i h e he hb
      | true =>
        rw [hx] at h
        cases hl : Nat.blt x.on i with
        | false => rw [hl] at h; cases h
        | true => rw [hl] at h; exact edges_lt r i h e he hb
theorem ord_lt : ∀ (l : List Oper) (i : Nat), ordOk i l = true → ∀ j o, l[j]? = some o → ∀ e, e ∈ o.after.toList → Region.binds .any e = true → e.on < i + j
  | [], _, _, j, o, h => by simp at h
  | x :: r, i, h, j, o, hj => by
    unfold ordOk at h
    cases hx : edgesOk i x.after.toList with
    | false => rw [hx] at h; cases h
    | true =>
      rw [hx] at h
      cases j with
      | zero =>
        simp only [List.getElem?_cons_zero, Option.some.injEq] at hj
        subst hj
        exact edges_lt _ i hx
      | succ j =>
        have := ord_lt r (i + 1) h j o (by simpa using hj)
        intro e he hb
        have := this e he hb
        omega
theorem indepOne_ok (mask : Nat) (r : Rec) : ∀ (l : List Rec) (i : Nat), indepOne mask r i l = true → ∀ x q, l[x]? = some q → mask.testBit (i + x) = true ∨ conflict q r = false
  | [], _, _, x, q, h => by simp at h
  | p :: l, i, h, x, q, hx => by
    unfold indepOne at h
    cases hc : (mask.testBit i || !conflict p r) with
    | false => rw [hc] at h; cases h
    | true =>
      rw [hc] at h
      cases x with
      | zero =>
        simp only [List.getElem?_cons_zero, Option.some.injEq] at hx
        subst hx
        simp only [Bool.or_eq_true, Bool.not_eq_true'] at hc
        exact hc
      | succ x =>
        have := indepOne_ok mask r l (i + 1) h x q (by simpa using hx)
        rw [show i + (x + 1) = i + 1 + x by omega]
        exact this
theorem indepAll_ok (bef : List Nat) : ∀ (l seen : List Rec), indepAll bef seen seen.length l = true → ∀ i q, l[i]? = some q → ∀ k p, (seen ++ l)[k]? = some p → k < seen.length + i → (bef.getD (seen.length + i) 0).testBit k = true ∨ conflict p q = false
  | [], _, _, i, q, h, _, _, _, _ => by simp at h
  | x :: l, seen, h, i, q, hi, k, p, hk, hlt => by
    unfold indepAll at h
    cases hc : indepOne (bef.getD seen.length 0) x 0 seen with
    | false => rw [hc] at h; cases h
    | true =>
      rw [hc] at h
      cases i with
      | zero =>
        simp only [List.getElem?_cons_zero, Option.some.injEq] at hi
        subst hi
        have := indepOne_ok _ _ seen 0 hc k p (by rw [List.getElem?_append_left (by omega)] at hk; exact hk)
        simpa using this
      | succ i =>
        have := indepAll_ok bef l (seen ++ [x]) (by rw [List.length_append]; exact h) i q (by simpa using hi) k p (by rw [List.append_assoc]; exact hk) (by simp; omega)
        rw [List.length_append, List.length_singleton] at this
        rw [show seen.length + (i + 1) = seen.length + 1 + i by omega]
        exact this
end Go.Ev
