/- A text of the claim: plain lemmas of what the functions compute. -/
import Derived.Test.YtkkjheildoclgaaPL
set_option linter.all false
set_option linter.unusedVariables false
set_option linter.unusedSimpArgs false
set_option autoImplicit false
set_option linter.unusedVariables false
set_option linter.unusedSimpArgs false
namespace Go.Ev
/-! ### tables -/
def col (R : Nat) (cs : List DCell) (f : Nat) : List DCell := (cs.take ((f + 1) * R)).drop (f * R)
def stepD (acc : List (List Int)) (c : DCell) : List (List Int) := bif c.1 then acc else bif acc.contains c.2.2.1 then acc else acc ++ [c.2.2.1]
def distP (acc : List (List Int)) : List DCell → List (List Int)
  | [] => acc
  | c :: r => distP (stepD acc c) r
theorem distP_app : ∀ (acc : List (List Int)) (xs : List DCell) (c : DCell), distP acc (xs ++ [c]) = stepD (distP acc xs) c
  | acc, [], c => rfl
  | acc, x :: xs, c => distP_app (stepD acc x) xs c
theorem stepD_len (acc : List (List Int)) (c : DCell) : acc.length ≤ (stepD acc c).length := by
  unfold stepD
  cases c.1 <;> cases acc.contains c.2.2.1 <;> simp
theorem distP_len : ∀ (acc : List (List Int)) (xs : List DCell), acc.length ≤ (distP acc xs).length
  | acc, [] => Nat.le_refl _
  | acc, c :: r => Nat.le_trans (stepD_len acc c) (distP_len (stepD acc c) r)
theorem stepD_by {acc : List (List Int)} {c : DCell} (h : ByS acc) (hc : By c.2.2.1) : ByS (stepD acc c) := by
  unfold stepD
  cases c.1
  · cases acc.contains c.2.2.1
    · intro x hx
      simp only [cond_false, List.mem_append, List.mem_singleton] at hx
      rcases hx with hx | rfl
      · exact h x hx
      · exact hc
    · exact h
  · exact h
theorem distP_by {cs : List DCell} : ∀ {acc : List (List Int)}, ByS acc → (∀ c, c ∈ cs → By c.2.2.1) → ByS (distP acc cs) := by
  induction cs with
  | nil => intro acc h _; exact h
  | cons c r ih => intro acc h hc; exact ih (stepD_by h (hc c (by simp))) fun d hd => hc d (by simp [hd])
theorem distP_drop (acc : List (List Int)) (cs : List DCell) (i : Nat) (h : i < cs.length) : distP acc (cs.drop i) = distP (stepD acc cs[i]) (cs.drop (i + 1)) := by
  rw [List.drop_eq_getElem_cons h]; rfl
def manyP (cs : List DCell) : Bool := decide (((distP [] cs).length : Int) > 40)
def colOk (f : DField) (cs : List DCell) : Bool := cs.all (cellP f) && !(f.2.1 == 3 && manyP cs)
def colsP (R : Nat) (cs : List DCell) : Nat → List DField → Bool
  | _, [] => true
  | i, f :: r => colOk f (col R cs i) && colsP R cs (i + 1) r
def tableP (fs : List DField) (t : DTable) : Bool :=
  fieldsP fs && (!decide (t.1 < 0) && (!decide (t.1 > 100) && ((t.2.1.length : Int) == (fs.length : Int) * t.1 && (colsP t.1.toNat t.2.1 0 fs && decide ((totC t.2.1 : Int) ≤ 4000)))))
theorem colsP_drop (R : Nat) (cs : List DCell) (fs : List DField) (i : Nat) (h : i < fs.length) : colsP R cs i (fs.drop i) = (colOk fs[i] (col R cs i) && colsP R cs (i + 1) (fs.drop (i + 1))) := by
  rw [List.drop_eq_getElem_cons h]; rfl
theorem namesP_all : ∀ {pre : List (List Int)} {fs : List DField}, namesP pre fs = true → ∀ f, f ∈ fs → fieldP f = true
  | pre, [], _, f, hf => by simp at hf
  | pre, g :: r, h, f, hf => by
    simp only [namesP, Bool.and_eq_true] at h
    rw [List.mem_cons] at hf
    rcases hf with rfl | hf
    · exact h.2.1
    · exact namesP_all h.2.2 f hf
theorem fieldsP_all {fs : List DField} (h : fieldsP fs = true) : fs.length ≤ 12 ∧ ∀ f, f ∈ fs → fieldP f = true := by
  unfold fieldsP at h
  simp only [Bool.and_eq_true, Bool.not_eq_true', decide_eq_false_iff_not] at h
  exact ⟨by omega, namesP_all h.2.2⟩
theorem totC_append : ∀ (xs ys : List DCell), totC (xs ++ ys) = totC xs + totC ys
  | [], ys => by simp [totC]
  | x :: xs, ys => by simp only [List.cons_append, totC, totC_append xs ys]; omega
theorem totC_take (xs : List DCell) (i : Nat) (h : i < xs.length) : totC (xs.take (i + 1)) = totC (xs.take i) + xs[i].2.2.1.length := by
  rw [List.take_succ_eq_append_getElem h, totC_app]
theorem totC_le (xs : List DCell) (i : Nat) : totC (xs.take i) ≤ totC xs := by
  have e : totC xs = totC (xs.take i) + totC (xs.drop i) := by rw [← totC_append, List.take_append_drop]
  omega
section
variable {R nf f : Nat} {cs : List DCell}
theorem col_le (hf : f < nf) (hl : cs.length = nf * R) : (f + 1) * R ≤ cs.length := by rw [hl]; exact Nat.mul_le_mul_right R hf
theorem col_len (hf : f < nf) (hl : cs.length = nf * R) : (col R cs f).length = R := by
  have := col_le hf hl
  unfold col
  rw [List.length_drop, List.length_take]
  have e : (f + 1) * R = f * R + R := Nat.succ_mul f R
  omega
theorem col_mem {c : DCell} (h : c ∈ col R cs f) : c ∈ cs := List.mem_of_mem_take (List.mem_of_mem_drop h)
theorem col_tot (hf : f < nf) (hl : cs.length = nf * R) : totC (cs.take ((f + 1) * R)) = totC (cs.take (f * R)) + totC (col R cs f) := by
  have e : (f + 1) * R = f * R + R := Nat.succ_mul f R
  have : cs.take ((f + 1) * R) = cs.take (f * R) ++ col R cs f := by
    unfold col
    conv => lhs; rw [← List.take_append_drop (f * R) (cs.take ((f + 1) * R))]
    rw [List.take_take, Nat.min_eq_left (by omega)]
  rw [this, totC_append]
theorem mul_bd {a b : Nat} (ha : a ≤ 13) (hb : b ≤ 100) : a * b ≤ 1300 := Nat.mul_le_mul ha hb
theorem S_col (hf : f < nf) (hn : nf ≤ 12) (hR : R ≤ 100) (hl : cs.length = nf * R) : S.l2column (((R : Int), cs, ()), (f : Int), ()) = some (col R cs f, (((), (), ()), (), ())) := by
  have h1 := col_le hf hl
  have e : (f + 1) * R = f * R + R := Nat.succ_mul f R
  have b1 := mul_bd (a := f + 1) (b := R) (by omega) hR
  have e1 : ((f + 1 : Nat) : Int) * (R : Int) = (((f + 1) * R : Nat) : Int) := by simp
  have e2 : (f : Int) * (R : Int) = ((f * R : Nat) : Int) := by simp
  unfold S.l2column
  dsimp only
  rw [show wr .i64 ((f : Int) + 1) = ((f + 1 : Nat) : Int) by rw [wr_i64 _ (by omega) (by omega)]; omega, e1, e2, wr_i64 (((f + 1) * R : Nat) : Int) (by omega) (by omega), wr_i64 ((f * R : Nat) : Int) (by omega) (by omega)]
  rw [ck_true (by simp only [Bool.and_eq_true, decide_eq_true_eq]; omega)]
  rfl
theorem I_col (hf : f < nf) (hn : nf ≤ 12) (hR : R ≤ 100) (hl : cs.length = nf * R) : I.column (((R : Int), cs, ()), (f : Int), ()) = some (col R cs f, (((), (), ()), (), ())) := by
  have h1 := col_le hf hl
  have e : (f + 1) * R = f * R + R := Nat.succ_mul f R
  have b1 := mul_bd (a := f + 1) (b := R) (by omega) hR
  have e1 : ((f + 1 : Nat) : Int) * (R : Int) = (((f + 1) * R : Nat) : Int) := by simp
  have e2 : (f : Int) * (R : Int) = ((f * R : Nat) : Int) := by simp
  unfold I.column
  dsimp only
  rw [show wr .i64 ((f : Int) + 1) = ((f + 1 : Nat) : Int) by rw [wr_i64 _ (by omega) (by omega)]; omega, e1, e2, wr_i64 (((f + 1) * R : Nat) : Int) (by omega) (by omega), wr_i64 ((f * R : Nat) : Int) (by omega) (by omega)]
  rw [ck_true (by simp only [Bool.and_eq_true, decide_eq_true_eq]; omega)]
  rfl
end
def OkC (cs : List DCell) : Prop := ∀ c, c ∈ cs → By c.2.2.1 ∧ R64 c.2.1
theorem S_texts (cs : List DCell) (hl : cs.length ≤ 100) (hb : OkC cs) : ∃ r : List (List Int), S.l2texts (cs, 40, ()) = some (r, ((), (), ())) ∧ decide ((r.length : Int) > 40) = manyP cs := by
  unfold S.l2texts S.l2texts.p S.l2texts.l3
  dsimp only
  refine rounds_inv (fuel := big) cs.length (fun i x => ∃ acc, x = (cs, (40 : Int), acc, (i : Int), ()) ∧ ByS acc ∧ distP [] cs = distP acc (cs.drop i)) (fun o => ∃ r : List (List Int), o = some (r, ((), (), ())) ∧ decide ((r.length : Int) > 40) = manyP cs) (by rw [big_pos]; omega) ⟨[], rfl, fun x hx => by simp at hx, rfl⟩ ?_ ?_
  · rintro i x hi ⟨acc, rfl, hba, hd⟩ Rc hRc
    unfold S.l2texts.st3
    dsimp only
    rw [distP_drop _ _ _ hi] at hd
    have hci := hb _ (List.getElem_mem hi)
    have hba' := stepD_by hba hci.1
    unfold stepD at hd hba'
    by_cases ha : (acc.length : Int) ≤ 40
    · simp only [lt_true hi, nn, Bool.and_self, ck_true rfl, cond_true, Int.toNat_natCast, gd hi, BEq.rfl, ha, decide_true]
      cases hn : cs[i].1
      · simp only [Bool.not_false, BEq.rfl, cond_true]
        rw [hn] at hd hba'
        rw [S_place _ _ hba hci.1 (by unfold maxL; omega), Option.bind_some]
        simp only []
        have hpm := placeP_mem cs[i].2.2.1 0 acc
        rw [show decide (placeP cs[i].2.2.1 0 acc < 0) = !acc.contains cs[i].2.2.1 by rw [← hpm]; by_cases h : placeP cs[i].2.2.1 0 acc < 0 <;> simp [h] <;> omega]
        cases hc : acc.contains cs[i].2.2.1
        · rw [hc] at hd hba'
          simp only [Bool.not_false, cond_true]
          rw [ck_true (by simp; omega), wr_succ hi (by omega)]
          exact hRc _ ⟨_, rfl, hba', hd⟩
        · rw [hc] at hd
          simp only [Bool.not_true, cond_false]
          rw [wr_succ hi (by omega)]
          exact hRc _ ⟨_, rfl, hba, hd⟩
      · rw [hn] at hd
        simp only [Bool.not_true, show (false == true) = false from rfl, cond_false]
        rw [wr_succ hi (by omega)]
        exact hRc _ ⟨_, rfl, hba, hd⟩
    · simp only [lt_true hi, BEq.rfl, cond_true, ha, decide_false, cond_false]
      refine ⟨acc, rfl, ?_⟩
      have h1 := distP_len acc (cs.drop i)
      rw [distP_drop _ _ _ hi] at h1
      unfold stepD at h1
      rw [← hd] at h1
      unfold manyP
      rw [show decide ((acc.length : Int) > 40) = true by simp; omega, show decide (((distP [] cs).length : Int) > 40) = true by simp; omega]
  · rintro x ⟨acc, rfl, hba, hd⟩ Rc
    unfold S.l2texts.st3
    rw [List.drop_length] at hd
    simp only [lt_false (Nat.le_refl _), show (false == true) = false from rfl, cond_false]
    refine ⟨acc, rfl, ?_⟩
    unfold manyP
    rw [hd]
    rfl
theorem S_inner (fs : List DField) (t : DTable) (s : Nat) (f : Nat) (cs : List DCell) (X : Nat → S.ValidTable.E9 → Option S.ValidTable.R) (hf : f < fs.length) (hF : fieldP fs[f] = true) (hl : cs.length ≤ 100) (hs : s + totC cs ≤ 1048576) :
    rounds S.ValidTable.st9 big X (fs, t, (s : Int), (f : Int), cs, 0, ()) = bif cs.all (cellP fs[f]) then X 2 (fs, t, ((s + totC cs : Nat) : Int), (f : Int), cs, ()) else some (false, ((), ((), (), ()), ())) := by
  refine (rounds_run (fuel := big) (X := X) cs.length (fun i => (fs, t, ((s + totC (cs.take i) : Nat) : Int), (f : Int), cs, (i : Int), ())) (fun i => bif (cs.drop i).all (cellP fs[f]) then X 2 (fs, t, ((s + totC cs : Nat) : Int), (f : Int), cs, ()) else some (false, ((), ((), (), ()), ()))) (by rw [big_pos]; omega) (fun i hi Rc hRc => ?_) (fun Rc => ?_) : _)
  · unfold S.ValidTable.st9
    dsimp only
    have h1 := totC_le cs (i + 1)
    rw [totC_take _ _ hi] at h1 hRc
    simp only [lt_true hi, lt_true hf, nn, Bool.and_self, ck_true rfl, cond_true, Int.toNat_natCast, gd hi, gd hf]
    rw [all_drop _ _ _ hi]
    refine bind_of (S_cell fs[f] cs[i] hF) ?_
    cases cellP fs[f] cs[i]
    · rfl
    · simp only [Bool.not_true, cond_false, Bool.true_and, ck_true rfl]
      rw [wr_i64 _ (by omega) (by omega), wr_succ hi (by omega)]
      rw [← Nat.add_assoc, Int.natCast_add] at hRc
      exact hRc
  · unfold S.ValidTable.st9
    simp only [lt_false (Nat.le_refl _), cond_false, List.drop_length, List.take_length, List.all_nil, cond_true]
theorem S_table (fs : List DField) (t : DTable) (hb : ByF fs) (hc : OkC t.2.1) (ht : totC t.2.1 ≤ 1048576) (hcl : t.2.1.length ≤ 1048576) (hfl : fs.length ≤ maxL) : S.ValidTable (fs, t, ()) = some (tableP fs t, ((), ((), (), ()), ())) := by
  obtain ⟨rows, cs, u⟩ := t
  simp only [] at hc ht hcl
  unfold S.ValidTable S.ValidTable.p tableP
  dsimp only
  refine bind_of (S_fields fs hb) ?_
  cases hfp : fieldsP fs
  · rfl
  obtain ⟨hf12, hfa⟩ := fieldsP_all hfp
  simp only [Bool.not_true, BEq.rfl, cond_true, Bool.true_and]
  by_cases h1 : rows < 0
  · simp [h1]
  by_cases h2 : rows > 100
  · simp [h1, h2]
  obtain ⟨R, rfl⟩ : ∃ R : Nat, rows = (R : Int) := ⟨rows.toNat, by omega⟩
  have hR : R ≤ 100 := by omega
  simp only [h1, h2, decide_false, BEq.rfl, cond_true, Bool.not_false, Bool.true_and, Int.toNat_natCast]
  have b1 := mul_bd (a := fs.length) (b := R) (by omega) hR
  rw [show (fs.length : Int) * (R : Int) = ((fs.length * R : Nat) : Int) by simp, wr_i64 _ (by omega) (by omega)]
  simp only [bne]
  cases he : ((cs.length : Int) == ((fs.length * R : Nat) : Int))
  · rfl
  have hl : cs.length = fs.length * R := by have := he; rw [beq_iff_eq] at this; omega
  simp only [Bool.not_true, cond_false, Bool.true_and]
  unfold S.ValidTable.l5
  refine (rounds_run (fuel := big) fs.length (fun i => (fs, ((R : Int), cs, ()), (totC (cs.take (R * i)) : Int), (i : Int), ())) (fun i => some (colsP R cs i (fs.drop i) && decide ((totC cs : Int) ≤ 4000), ((), ((), (), ()), ()))) (by rw [big_pos]; omega) (fun i hi Rc hRc => ?_) (fun Rc => ?_) : _)
  · unfold S.ValidTable.st5 S.ValidTable.l9
    dsimp only
    have hci : ∀ c, c ∈ col R cs i → By c.2.2.1 ∧ R64 c.2.1 := fun c hcc => hc c (col_mem hcc)
    have htot := col_tot hi hl
    have hle := totC_le cs ((i + 1) * R)
    have hlen := col_len hi hl
    simp only [lt_true hi, cond_true]
    refine bind_of (S_col hi hf12 hR hl) ?_
    simp only []
    rw [Nat.mul_comm R i, S_inner fs ((R : Int), cs, ()) (totC (cs.take (i * R))) i (col R cs i) _ hi (hfa _ (List.getElem_mem hi)) (by omega) (by omega)]
    rw [colsP_drop _ _ _ _ hi]
    unfold colOk
    cases (col R cs i).all (cellP fs[i])
    · rfl
    simp only [cond_true, show Nat.beq 2 2 = true from rfl, Bool.true_and]
    simp only [lt_true hi, nn, Bool.and_self, ck_true rfl, Int.toNat_natCast, gd hi]
    rw [Nat.mul_comm R (i + 1), htot] at hRc
    rw [wr_succ hi (by omega)]
    cases (fs[i].2.1 == 3)
    · exact hRc
    · simp only [BEq.rfl, cond_true, Bool.true_and]
      obtain ⟨r, hr1, hr2⟩ := S_texts (col R cs i) (by omega) hci
      refine bind_of hr1 ?_
      simp only []
      rw [hr2]
      cases manyP (col R cs i)
      · exact hRc
      · rfl
  · unfold S.ValidTable.st5
    simp only [lt_false (Nat.le_refl _), cond_false, List.drop_length, show Nat.beq 0 0 = true from rfl, cond_true]
    rw [show cs.take (R * fs.length) = cs by rw [Nat.mul_comm, ← hl, List.take_length]]
    rfl
/-! ### the map of a column's texts -/
theorem beq_ba {a b : ByteArray} (h : (a == b) = true) : a = b := by
  have : a.data = b.data := by
    have h' : ByteArray.beq a b = true := h
    unfold ByteArray.beq at h'
    simpa using h'
  cases a; cases b
  simp only [] at this
  rw [this]
theorem mput_keys (k : ByteArray) (v : Int) : ∀ (m : List (ByteArray × Int)), (mput k v m).map Prod.fst = bif mhas k m then m.map Prod.fst else m.map Prod.fst ++ [k]
  | [] => rfl
  | e :: r => by
    have ih := mput_keys k v r
    unfold mput mhas
    cases h : (k == e.1)
    · simp only [cond_false, List.map_cons, Bool.false_or, ih]
      cases mhas k r <;> rfl
    · simp only [cond_true, List.map_cons, Bool.true_or]
      rw [beq_ba h]
theorem mhas_keys {d : List Int} (hd : By d) : ∀ {m : List (ByteArray × Int)} {acc : List (List Int)}, m.map Prod.fst = acc.map strOf → ByS acc → mhas (strOf d) m = acc.contains d
  | [], [], _, _ => rfl
  | [], _ :: _, h, _ => by simp at h
  | _ :: _, [], h, _ => by simp at h
  | e :: m, a :: acc, h, hb => by
    simp only [List.map_cons, List.cons.injEq] at h
    unfold mhas
    rw [mhas_keys hd h.2 fun x hx => hb x (by simp [hx]), h.1, beq_str hd (hb a (by simp)), List.contains_cons]
    by_cases e : d = a <;> simp [e]
theorem I_inner (fs : List DField) (F : DField) (t : DTable) (s : Nat) (f nf : Int) (cs : List DCell) (X : Nat → I.ValidTable.E9 → Option I.ValidTable.R) (Z : Option I.ValidTable.R) (hF : fieldP F = true) (hl : cs.length ≤ 100) (hb : OkC cs) (hs : s + totC cs ≤ 1048576)
    (hX : ∀ m : List (ByteArray × Int), decide ((m.length : Int) > 40) = manyP cs → X 2 (t, ((s + totC cs : Nat) : Int), F, m, fs, nf, f, ()) = Z) :
    rounds I.ValidTable.st9 big X (t, (s : Int), F, [], fs, nf, f, cs, (cs.length : Int), 0, ()) = bif cs.all (cellP F) then Z else some (false, ((), ((), (), ()), ())) := by
  refine rounds_inv (fuel := big) (X := X) cs.length (fun i x => ∃ m, x = (t, ((s + totC (cs.take i) : Nat) : Int), F, m, fs, nf, f, cs, (cs.length : Int), (i : Int), ()) ∧ m.map Prod.fst = (distP [] (cs.take i)).map strOf ∧ cs.all (cellP F) = (cs.drop i).all (cellP F)) (fun o => o = bif cs.all (cellP F) then Z else some (false, ((), ((), (), ()), ()))) (by rw [big_pos]; omega) ⟨[], rfl, rfl, rfl⟩ ?_ ?_
  · rintro i x hi ⟨m, rfl, hm, hp⟩ Rc hRc
    unfold I.ValidTable.st9
    dsimp only
    have h1 := totC_le cs (i + 1)
    rw [totC_take _ _ hi] at h1
    have hci := hb _ (List.getElem_mem hi)
    simp only [lt_true hi, nn, Bool.and_self, ck_true rfl, cond_true, Int.toNat_natCast, gd hi]
    rw [all_drop _ _ _ hi] at hp
    refine bind_of (I_cell F cs[i] hF hci.2) ?_
    cases hcp : cellP F cs[i]
    · rw [hcp, Bool.false_and] at hp
      rw [hp]
      rfl
    rw [hcp, Bool.true_and] at hp
    simp only [Bool.not_true, cond_false]
    rw [wr_i64 (((s + totC (cs.take i) : Nat) : Int) + (cs[i].2.2.1.length : Int)) (by omega) (by omega), wr_succ hi (by omega)]
    rw [show ((s + totC (cs.take i) : Nat) : Int) + (cs[i].2.2.1.length : Int) = ((s + totC (cs.take (i + 1)) : Nat) : Int) by rw [totC_take _ _ hi]; omega]
    have hbt : ByS (distP [] (cs.take i)) := distP_by (fun x hx => by simp at hx) fun c hc => (hb c (List.mem_of_mem_take hc)).1
    have hst : distP [] (cs.take (i + 1)) = stepD (distP [] (cs.take i)) cs[i] := by rw [List.take_succ_eq_append_getElem hi, distP_app]
    unfold stepD at hst
    cases hn : cs[i].1
    · rw [hn] at hst
      simp only [Bool.not_false, cond_true]
      refine hRc _ ⟨_, rfl, ?_, hp⟩
      rw [mput_keys, mhas_keys hci.1 hm hbt, hst, hm]
      cases (distP [] (cs.take i)).contains cs[i].2.2.1
      · simp only [cond_false, List.map_append]; rfl
      · rfl
    · rw [hn] at hst
      simp only [Bool.not_true, cond_false]
      exact hRc _ ⟨_, rfl, by rw [hst]; exact hm, hp⟩
  · rintro x ⟨m, rfl, hm, hp⟩ Rc
    unfold I.ValidTable.st9
    dsimp only
    rw [hp, List.drop_length]
    rw [List.take_length] at hm ⊢
    simp only [lt_false (Nat.le_refl _), cond_false, List.all_nil, cond_true]
    refine hX m ?_
    have := congrArg List.length hm
    rw [List.length_map, List.length_map] at this
    unfold manyP
    rw [this]
theorem I_table (fs : List DField) (t : DTable) (hb : ByF fs) (hc : OkC t.2.1) (ht : totC t.2.1 ≤ 1048576) (hcl : t.2.1.length ≤ 1048576) (hfl : fs.length ≤ maxL) : I.ValidTable (fs, t, ()) = some (tableP fs t, ((), ((), (), ()), ())) := by
  obtain ⟨rows, cs, u⟩ := t
  simp only [] at hc ht hcl
  unfold I.ValidTable I.ValidTable.p tableP
  dsimp only
  refine bind_of (I_fields fs hb) ?_
  cases hfp : fieldsP fs
  · rfl
  obtain ⟨hf12, hfa⟩ := fieldsP_all hfp
  simp only [Bool.not_true, BEq.rfl, cond_true, Bool.true_and]
  by_cases h1 : rows < 0
  · simp [h1]
  by_cases h2 : rows > 100
  · simp [h1, h2]
  obtain ⟨R, rfl⟩ : ∃ R : Nat, rows = (R : Int) := ⟨rows.toNat, by omega⟩
  have hR : R ≤ 100 := by omega
  simp only [h1, h2, decide_false, BEq.rfl, cond_true, Bool.not_false, Bool.true_and, Int.toNat_natCast]
  have b1 := mul_bd (a := fs.length) (b := R) (by omega) hR
  rw [Int.mul_comm (R : Int), show (fs.length : Int) * (R : Int) = ((fs.length * R : Nat) : Int) by simp, wr_i64 _ (by omega) (by omega)]
  simp only [bne]
  cases he : ((cs.length : Int) == ((fs.length * R : Nat) : Int))
  · rfl
  have hl : cs.length = fs.length * R := by have := he; rw [beq_iff_eq] at this; omega
  simp only [Bool.not_true, cond_false, Bool.true_and]
  unfold I.ValidTable.l5
  refine (rounds_run (fuel := big) fs.length (fun i => (((R : Int), cs, ()), (totC (cs.take (R * i)) : Int), fs, (fs.length : Int), (i : Int), ())) (fun i => some (colsP R cs i (fs.drop i) && decide ((totC cs : Int) ≤ 4000), ((), ((), (), ()), ()))) (by rw [big_pos]; omega) (fun i hi Rc hRc => ?_) (fun Rc => ?_) : _)
  · unfold I.ValidTable.st5 I.ValidTable.l9
    dsimp only
    have hci : OkC (col R cs i) := fun c hcc => hc c (col_mem hcc)
    have htot := col_tot hi hl
    have hle := totC_le cs ((i + 1) * R)
    have hlen := col_len hi hl
    simp only [lt_true hi, nn, Bool.and_self, ck_true rfl, cond_true, Int.toNat_natCast, gd hi]
    refine bind_of (I_col hi hf12 hR hl) ?_
    simp only []
    rw [Nat.mul_comm R (i + 1), htot] at hRc
    rw [Nat.mul_comm R i, colsP_drop _ _ _ _ hi]
    refine (I_inner fs fs[i] ((R : Int), cs, ()) (totC (cs.take (i * R))) (i : Int) (fs.length : Int) (col R cs i) _ (some ((!(fs[i].2.1 == 3 && manyP (col R cs i)) && colsP R cs (i + 1) (fs.drop (i + 1))) && decide ((totC cs : Int) ≤ 4000), ((), ((), (), ()), ()))) (hfa _ (List.getElem_mem hi)) (by omega) hci (by omega) ?_).trans ?_
    · intro m hm
      simp only [show Nat.beq 2 2 = true from rfl, cond_true]
      rw [hm, wr_succ hi (by omega)]
      cases (fs[i].2.1 == 3)
      · exact hRc
      · cases manyP (col R cs i)
        · exact hRc
        · rfl
    · unfold colOk
      cases (col R cs i).all (cellP fs[i])
      · rfl
      · simp
  · unfold I.ValidTable.st5
    simp only [lt_false (Nat.le_refl _), cond_false, List.drop_length, show Nat.beq 0 0 = true from rfl, cond_true]
    rw [show cs.take (R * fs.length) = cs by rw [Nat.mul_comm, ← hl, List.take_length]]
    rfl
end Go.Ev

