/- A text of the claim: plain lemmas of what the functions compute. -/
import Derived.Test.YtkkjheildoclgaaPA
import Derived.Test.YtkkjheildoclgaaYF
set_option linter.all false
set_option linter.unusedVariables false
set_option linter.unusedSimpArgs false
set_option autoImplicit false
set_option linter.unusedVariables false
set_option linter.unusedSimpArgs false
namespace Go.Ev
/-! ### sizes -/
def Sm (xs : List Int) : Prop := xs.length ≤ 1048576
theorem szByteS_ok (a : List Int) (n : Int) (ha : a.length ≤ maxL) (h0 : 0 ≤ n) (hn : n ≤ 1048576) : ∃ r, L.szByteS (a, n, ()) = some (r, ((), (), ())) ∧ r ≤ n ∧ (0 ≤ r → Sm a ∧ r + a.length ≤ n) := by
  unfold maxL at ha
  unfold L.szByteS Sm
  dsimp only
  rw [wr_i64 _ (by omega) (by omega)]
  by_cases h : n - (a.length : Int) < 0
  · exact ⟨-1, by simp [h], by omega, by omega⟩
  · exact ⟨n - a.length, by simp [h], by omega, fun _ => ⟨by omega, by omega⟩⟩
theorem szField_ok (x : DField) (n : Int) (ha : x.1.length ≤ maxL) (h0 : 0 ≤ n) (hn : n ≤ 1048576) : ∃ r, L.szField (x, n, ()) = some (r, (((), (), (), ()), (), ())) ∧ r ≤ n ∧ (0 ≤ r → Sm x.1) := by
  obtain ⟨r, h1, h2, h3⟩ := szByteS_ok x.1 n ha h0 hn
  unfold L.szField
  dsimp only
  rw [h1, Option.bind_some]
  by_cases h : r < 0
  · exact ⟨-1, by simp [h], by omega, by omega⟩
  · exact ⟨r, by simp [h], h2, fun h => (h3 h).1⟩
theorem szCell_ok (x : DCell) (n : Int) (ha : x.2.2.1.length ≤ maxL) (h0 : 0 ≤ n) (hn : n ≤ 1048576) : ∃ r, L.szCell (x, n, ()) = some (r, (((), (), (), ()), (), ())) ∧ r ≤ n ∧ (0 ≤ r → Sm x.2.2.1 ∧ r + x.2.2.1.length ≤ n) := by
  obtain ⟨r, h1, h2, h3⟩ := szByteS_ok x.2.2.1 n ha h0 hn
  unfold L.szCell
  dsimp only
  rw [h1, Option.bind_some]
  by_cases h : r < 0
  · exact ⟨-1, by simp [h], by omega, by omega⟩
  · exact ⟨r, by simp [h], h2, h3⟩
def SmCells (xs : List DCell) : Prop := xs.length ≤ 1048576 ∧ ∀ i (h : i < xs.length), Sm xs[i].2.2.1
/-- the texts of the cells, all told -/
def totC : List DCell → Nat
  | [] => 0
  | c :: r => c.2.2.1.length + totC r
theorem totC_app : ∀ (xs : List DCell) (c : DCell), totC (xs ++ [c]) = totC xs + c.2.2.1.length
  | [], c => by simp [totC]
  | x :: xs, c => by simp only [List.cons_append, totC, totC_app xs c]; omega
def SmL (xs : List (List Int)) : Prop := xs.length ≤ 1048576 ∧ ∀ i (h : i < xs.length), Sm xs[i]
theorem szCellS_ok (xs : List DCell) (n : Int) (ha : xs.length ≤ maxL ∧ ∀ c ∈ xs, c.2.2.1.length ≤ maxL) (h0 : 0 ≤ n) (hn : n ≤ 1048576) : ∃ r, L.szCellS (xs, n, ()) = some (r, ((), (), ())) ∧ r ≤ n ∧ (0 ≤ r → SmCells xs ∧ totC xs ≤ 1048576) := by
  obtain ⟨ha, hc⟩ := ha
  unfold maxL at ha
  unfold L.szCellS L.szCellS.p
  dsimp only
  rw [wr_i64 _ (by omega) (by omega)]
  by_cases h : n - (xs.length : Int) < 0
  · exact ⟨-1, by simp [h], by omega, by omega⟩
  · simp only [h, decide_false, cond_false]
    unfold L.szCellS.l5
    refine rounds_inv (fuel := big) xs.length (fun i x => ∃ l, x = (xs, l, (i : Int), ()) ∧ 0 ≤ l ∧ l + totC (xs.take i) ≤ n ∧ ∀ j (h : j < xs.length), j < i → Sm xs[j].2.2.1) (fun o => ∃ r, o = some (r, ((), (), ())) ∧ r ≤ n ∧ (0 ≤ r → SmCells xs ∧ totC xs ≤ 1048576)) (by rw [big_pos]; omega) ⟨_, rfl, by omega, by simp [totC]; omega, fun j _ hj => absurd hj (Nat.not_lt_zero _)⟩ ?_ ?_
    · rintro i x hi ⟨l, rfl, hl0, hl, hp⟩ Rc hRc
      unfold L.szCellS.st5
      dsimp only
      simp only [lt_true hi, nn, Bool.and_self, ck, cond_true, Int.toNat_natCast, gd hi]
      obtain ⟨r, h1, h2, h3⟩ := szCell_ok xs[i] l (hc _ (List.getElem_mem hi)) hl0 (by omega)
      rw [show (xs[i].1, xs[i].2.1, xs[i].2.2.1, ()) = xs[i] from rfl, h1, Option.bind_some]
      by_cases hr : r < 0
      · exact ⟨-1, by simp [hr], by omega, by omega⟩
      · simp only [hr, decide_false, cond_false]
        have h4 := h3 (by omega)
        refine hRc _ ⟨r, by rw [wr_succ hi ha], by omega, by rw [List.take_succ_eq_append_getElem hi, totC_app]; omega, fun j hj hji => ?_⟩
        by_cases e : j = i
        · subst e; exact h4.1
        · exact hp j hj (by omega)
    · rintro x ⟨l, rfl, hl0, hl, hp⟩ Rc
      unfold L.szCellS.st5
      dsimp only
      rw [lt_false (Nat.le_refl _), cond_false]
      rw [List.take_length] at hl
      exact ⟨l, rfl, by omega, fun _ => ⟨⟨by omega, fun j hj => hp j hj hj⟩, by omega⟩⟩
theorem szByteSS_ok (xs : List (List Int)) (n : Int) (ha : xs.length ≤ maxL ∧ ∀ c ∈ xs, c.length ≤ maxL) (h0 : 0 ≤ n) (hn : n ≤ 1048576) : ∃ r, L.szByteSS (xs, n, ()) = some (r, ((), (), ())) ∧ r ≤ n ∧ (0 ≤ r → SmL xs) := by
  obtain ⟨ha, hc⟩ := ha
  unfold maxL at ha
  unfold L.szByteSS L.szByteSS.p
  dsimp only
  rw [wr_i64 _ (by omega) (by omega)]
  by_cases h : n - (xs.length : Int) < 0
  · exact ⟨-1, by simp [h], by omega, by omega⟩
  · simp only [h, decide_false, cond_false]
    unfold L.szByteSS.l5
    refine rounds_inv (fuel := big) xs.length (fun i x => ∃ l, x = (xs, l, (i : Int), ()) ∧ 0 ≤ l ∧ l ≤ n ∧ ∀ j (h : j < xs.length), j < i → Sm xs[j]) (fun o => ∃ r, o = some (r, ((), (), ())) ∧ r ≤ n ∧ (0 ≤ r → SmL xs)) (by rw [big_pos]; omega) ⟨_, rfl, by omega, by omega, fun j _ hj => absurd hj (Nat.not_lt_zero _)⟩ ?_ ?_
    · rintro i x hi ⟨l, rfl, hl0, hl, hp⟩ Rc hRc
      unfold L.szByteSS.st5
      dsimp only
      simp only [lt_true hi, nn, Bool.and_self, ck, cond_true, Int.toNat_natCast, gd hi]
      obtain ⟨r, h1, h2, h3⟩ := szByteS_ok xs[i] l (hc _ (List.getElem_mem hi)) hl0 (by omega)
      rw [h1, Option.bind_some]
      by_cases hr : r < 0
      · exact ⟨-1, by simp [hr], by omega, by omega⟩
      · simp only [hr, decide_false, cond_false]
        refine hRc _ ⟨r, by rw [wr_succ hi ha], by omega, by omega, fun j hj hji => ?_⟩
        by_cases e : j = i
        · subst e; exact (h3 (by omega)).1
        · exact hp j hj (by omega)
    · rintro x ⟨l, rfl, hl0, hl, hp⟩ Rc
      unfold L.szByteSS.st5
      dsimp only
      rw [lt_false (Nat.le_refl _), cond_false]
      exact ⟨l, rfl, hl, fun _ => ⟨by omega, fun j hj => hp j hj hj⟩⟩

/-! ### copies -/
theorem toByteS_ok (xs : List Int) (h : Sm xs) : L.toByteS (xs, ()) = some (xs, ((), ())) := by
  unfold Sm at h
  unfold L.toByteS L.toByteS.p
  dsimp only
  rw [ck_true (by simp; omega)]
  unfold L.toByteS.l3
  refine (rounds_run (fuel := big) xs.length (fun i => (xs, xs.take i ++ List.replicate (xs.length - i) 0, (i : Int), ())) (fun _ => some (xs, ((), ()))) (by rw [big_pos]; omega) (fun i hi Rc hRc => ?_) (fun Rc => ?_) : _)
  · unfold L.toByteS.st3
    have hl : i < (xs.take i ++ List.replicate (xs.length - i) (0 : Int)).length := by simp; omega
    simp only [lt_true hi, lt_true hl, nn, Bool.and_self, ck, cond_true, Int.toNat_natCast, gd hi, take_rep_set _ _ _ hi]
    rw [wr_succ hi (by omega)]
    exact hRc
  · unfold L.toByteS.st3
    simp [lt_false (Nat.le_refl _)]
theorem toField_ok (x : DField) (h : Sm x.1) : L.toField (x, ()) = some (x, (((), (), (), ()), ())) := by
  unfold L.toField
  dsimp only
  rw [toByteS_ok _ h]
  rfl
theorem toCell_ok (x : DCell) (h : Sm x.2.2.1) : L.toCell (x, ()) = some (x, (((), (), (), ()), ())) := by
  unfold L.toCell
  dsimp only
  rw [toByteS_ok _ h]
  rfl
theorem toCellS_ok (xs : List DCell) (h : SmCells xs) : L.toCellS (xs, ()) = some (xs, ((), ())) := by
  obtain ⟨h, hc⟩ := h
  unfold L.toCellS L.toCellS.p
  dsimp only
  rw [ck_true (by simp; omega)]
  unfold L.toCellS.l3
  refine (rounds_run (fuel := big) xs.length (fun i => (xs, xs.take i ++ List.replicate (xs.length - i) zCell, (i : Int), ())) (fun _ => some (xs, ((), ()))) (by rw [big_pos]; omega) (fun i hi Rc hRc => ?_) (fun Rc => ?_) : _)
  · unfold L.toCellS.st3
    have hl : i < (xs.take i ++ List.replicate (xs.length - i) zCell).length := by simp; omega
    simp only [lt_true hi, lt_true hl, nn, Bool.and_self, ck, cond_true, Int.toNat_natCast, gd hi, gd hl]
    rw [show (xs[i].1, xs[i].2.1, xs[i].2.2.1, ()) = xs[i] from rfl, toCell_ok _ (hc i hi)]
    simp only [Option.bind_some]
    rw [wr_succ hi (by omega)]
    refine Eq.trans (congrArg Rc ?_) hRc
    rw [← take_rep_set _ _ _ hi]
  · unfold L.toCellS.st3
    simp [lt_false (Nat.le_refl _)]
theorem toByteSS_ok (xs : List (List Int)) (h : SmL xs) : L.toByteSS (xs, ()) = some (xs, ((), ())) := by
  obtain ⟨h, hc⟩ := h
  unfold L.toByteSS L.toByteSS.p
  dsimp only
  rw [ck_true (by simp; omega)]
  unfold L.toByteSS.l3
  refine (rounds_run (fuel := big) xs.length (fun i => (xs, xs.take i ++ List.replicate (xs.length - i) [], (i : Int), ())) (fun _ => some (xs, ((), ()))) (by rw [big_pos]; omega) (fun i hi Rc hRc => ?_) (fun Rc => ?_) : _)
  · unfold L.toByteSS.st3
    have hl : i < (xs.take i ++ List.replicate (xs.length - i) ([] : List Int)).length := by simp; omega
    simp only [lt_true hi, lt_true hl, nn, Bool.and_self, ck, cond_true, Int.toNat_natCast, gd hi, gd hl]
    rw [toByteS_ok _ (hc i hi)]
    simp only [Option.bind_some]
    rw [wr_succ hi (by omega)]
    refine Eq.trans (congrArg Rc ?_) hRc
    rw [← take_rep_set _ _ _ hi]
  · unfold L.toByteSS.st3
    simp [lt_false (Nat.le_refl _)]

/-! ### equal to itself -/
theorem eqByteS_ok (xs : List Int) (h : xs.length ≤ maxL) : L.eqByteS (xs, xs, ()) = some (true, ((), (), ())) := by
  unfold maxL at h
  unfold L.eqByteS L.eqByteS.p
  simp only [bne_self_eq_false, cond_false]
  unfold L.eqByteS.l4
  refine (rounds_run (fuel := big) xs.length (fun i => (xs, xs, (i : Int), ())) (fun _ => some (true, ((), (), ()))) (by rw [big_pos]; omega) (fun i hi Rc hRc => ?_) (fun Rc => ?_) : _)
  · unfold L.eqByteS.st4
    simp only [lt_true hi, nn, Bool.and_self, ck, cond_true, bne_self_eq_false, cond_false]
    rw [wr_succ hi (by omega)]
    exact hRc
  · unfold L.eqByteS.st4
    simp [lt_false (Nat.le_refl _)]
theorem eqByteSS_ok (xs : List (List Int)) (h : xs.length ≤ maxL) (hc : ∀ c ∈ xs, c.length ≤ maxL) : L.eqByteSS (xs, xs, ()) = some (true, ((), (), ())) := by
  unfold maxL at h
  unfold L.eqByteSS L.eqByteSS.p
  simp only [bne_self_eq_false, cond_false]
  unfold L.eqByteSS.l4
  refine (rounds_run (fuel := big) xs.length (fun i => (xs, xs, (i : Int), ())) (fun _ => some (true, ((), (), ()))) (by rw [big_pos]; omega) (fun i hi Rc hRc => ?_) (fun Rc => ?_) : _)
  · unfold L.eqByteSS.st4
    simp only [lt_true hi, nn, Bool.and_self, ck, cond_true, Int.toNat_natCast, gd hi]
    rw [eqByteS_ok _ (hc _ (List.getElem_mem hi))]
    simp only [Option.bind_some, Bool.not_true, cond_false]
    rw [wr_succ hi (by omega)]
    exact hRc
  · unfold L.eqByteSS.st4
    simp [lt_false (Nat.le_refl _)]
theorem eqField_ok (x : DField) (h : x.1.length ≤ maxL) : L.eqField (x, x, ()) = some (true, (((), (), (), ()), ((), (), (), ()), ())) := by
  unfold L.eqField
  simp [eqByteS_ok _ h]
theorem eqCell_ok (x : DCell) (h : x.2.2.1.length ≤ maxL) : L.eqCell (x, x, ()) = some (true, (((), (), (), ()), ((), (), (), ()), ())) := by
  unfold L.eqCell
  simp [eqByteS_ok _ h]
theorem eqCellS_ok (xs : List DCell) (h : xs.length ≤ maxL) (hc : ∀ c ∈ xs, c.2.2.1.length ≤ maxL) : L.eqCellS (xs, xs, ()) = some (true, ((), (), ())) := by
  unfold maxL at h
  unfold L.eqCellS L.eqCellS.p
  simp only [bne_self_eq_false, cond_false]
  unfold L.eqCellS.l4
  refine (rounds_run (fuel := big) xs.length (fun i => (xs, xs, (i : Int), ())) (fun _ => some (true, ((), (), ()))) (by rw [big_pos]; omega) (fun i hi Rc hRc => ?_) (fun Rc => ?_) : _)
  · unfold L.eqCellS.st4
    simp only [lt_true hi, nn, Bool.and_self, ck, cond_true, Int.toNat_natCast, gd hi]
    rw [show (xs[i].1, xs[i].2.1, xs[i].2.2.1, ()) = xs[i] from rfl, eqCell_ok _ (hc _ (List.getElem_mem hi))]
    simp only [Option.bind_some, Bool.not_true, cond_false]
    rw [wr_succ hi (by omega)]
    exact hRc
  · unfold L.eqCellS.st4
    simp [lt_false (Nat.le_refl _)]
end Go.Ev

