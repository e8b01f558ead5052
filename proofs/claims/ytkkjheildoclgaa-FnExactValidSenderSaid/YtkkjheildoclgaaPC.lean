/- A text of the claim: plain lemmas of what the functions compute. -/
import Derived.Test.YtkkjheildoclgaaPB
set_option linter.all false
set_option linter.unusedVariables false
set_option linter.unusedSimpArgs false
set_option autoImplicit false
set_option linter.unusedVariables false
set_option linter.unusedSimpArgs false
namespace Go.Ev
/-! ### marks -/
def fB (k : Int) (_ : Int) : Int × Int := (k + 1, wr .u8 k)
theorem mkB_fst : ∀ (k : Int) (xs : List Int), (mkL fB k xs).1 = k + xs.length
  | k, [] => by simp [mkL]
  | k, x :: r => by simp only [mkL, mkB_fst _ r, List.length_cons, fB]; omega
theorem take_len {α : Type} {xs : List α} {i : Nat} (h : i ≤ xs.length) : (xs.take i).length = i := by simp; omega
theorem markByteS_ok (xs : List Int) (k : Int) (h : Sm xs) (h0 : 0 ≤ k) (hk : k ≤ 1152921504606846976) : L.markByteS (xs, k, ()) = some ((mkL fB k xs).1, ((mkL fB k xs).2, (), ())) := by
  unfold Sm at h
  unfold L.markByteS L.markByteS.p L.markByteS.l2
  have := rounds_run (fuel := big) (st := L.markByteS.st2) (X := fun i2 y2 => bif Nat.beq i2 0 then some (y2.2.1, (y2.1, (), ())) else none) xs.length
    (fun i => ((mkL fB k (xs.take i)).2 ++ xs.drop i, (mkL fB k (xs.take i)).1, (i : Int), ())) (fun _ => some ((mkL fB k xs).1, ((mkL fB k xs).2, (), ()))) (by rw [big_pos]; omega) (fun i hi Rc hRc => ?_) (fun Rc => ?_)
  · exact this
  · have hl := mkL_len fB k (xs.take i)
    rw [take_len (by omega)] at hl
    have hl2 := len_mid (b := xs) (i := i) (by omega) hl
    have hk1 := mkB_fst k (xs.take i)
    rw [take_len (by omega)] at hk1
    unfold L.markByteS.st2
    simp only [lt_true (show i < ((mkL fB k (xs.take i)).2 ++ xs.drop i).length by omega), nn, Bool.and_self, ck, cond_true, Int.toNat_natCast]
    rw [wr_succ hi (by omega), set_mid _ _ _ _ hi hl, wr_i64 _ (by omega) (by omega)]
    rw [mkL_take fB k xs i hi] at hRc
    exact hRc
  · unfold L.markByteS.st2
    simp [mkL_len]
theorem heldByteS_ok (xs : List Int) (k : Int) (h : Sm xs) (h0 : 0 ≤ k) (hk : k ≤ 1152921504606846976) : L.heldByteS ((mkL fB k xs).2, k, ()) = some ((mkL fB k xs).1, ((), (), ())) := by
  unfold Sm at h
  unfold L.heldByteS L.heldByteS.p L.heldByteS.l2
  have := rounds_run (fuel := big) (st := L.heldByteS.st2) (X := fun i2 y2 => bif Nat.beq i2 0 then some (y2.1, ((), (), ())) else none) xs.length
    (fun i => ((mkL fB k xs).2, (mkL fB k (xs.take i)).1, (i : Int), ())) (fun _ => some ((mkL fB k xs).1, ((), (), ()))) (by rw [big_pos]; omega) (fun i hi Rc hRc => ?_) (fun Rc => ?_)
  · exact this
  · have hl := mkL_len fB k xs
    have hk1 := mkB_fst k (xs.take i)
    rw [take_len (by omega)] at hk1
    unfold L.heldByteS.st2
    have hi' : i < (mkL fB k xs).2.length := by omega
    simp only [lt_true hi', nn, Bool.and_self, ck, cond_true, Int.toNat_natCast, gd hi']
    rw [mkL_get fB k xs i hi, wr_succ hi (by omega), wr_i64 _ (by omega) (by omega)]
    rw [mkL_take fB k xs i hi] at hRc
    simp only [fB, bne_self_eq_false, cond_false]
    exact hRc
  · unfold L.heldByteS.st2
    simp [mkL_len]
def fBS (k : Int) (x : List Int) : Int × List Int := mkL fB k x
theorem mkBS_bd {k : Int} {xs : List (List Int)} (h : SmL xs) : k ≤ (mkL fBS k xs).1 ∧ (mkL fBS k xs).1 ≤ k + 1099511627776 := by
  have := mkL_bd (f := fBS) (c := 1048576) (k := k) (xs := xs) fun k x hx => by
    obtain ⟨i, hi, rfl⟩ := List.getElem_of_mem hx
    have := h.2 i hi
    unfold Sm at this
    simp only [fBS, mkB_fst]
    omega
  have := h.1
  omega
theorem SmL.take {xs : List (List Int)} (h : SmL xs) (i : Nat) : SmL (xs.take i) := ⟨by simp; have := h.1; omega, fun j hj => by simpa using h.2 j (by simp at hj; omega)⟩
theorem markByteSS_ok (xs : List (List Int)) (k : Int) (h : SmL xs) (h0 : 0 ≤ k) (hk : k ≤ 576460752303423488) : L.markByteSS (xs, k, ()) = some ((mkL fBS k xs).1, ((mkL fBS k xs).2, (), ())) := by
  have h1 := h.1
  unfold L.markByteSS L.markByteSS.p L.markByteSS.l2
  have := rounds_run (fuel := big) (st := L.markByteSS.st2) (X := fun i2 y2 => bif Nat.beq i2 0 then some (y2.2.1, (y2.1, (), ())) else none) xs.length
    (fun i => ((mkL fBS k (xs.take i)).2 ++ xs.drop i, (mkL fBS k (xs.take i)).1, (i : Int), ())) (fun _ => some ((mkL fBS k xs).1, ((mkL fBS k xs).2, (), ()))) (by rw [big_pos]; omega) (fun i hi Rc hRc => ?_) (fun Rc => ?_)
  · exact this
  · have hl := mkL_len fBS k (xs.take i)
    rw [take_len (by omega)] at hl
    have hl2 := len_mid (b := xs) (i := i) (by omega) hl
    have hk1 := mkBS_bd (k := k) (h.take i)
    unfold L.markByteSS.st2
    simp only [lt_true (show i < ((mkL fBS k (xs.take i)).2 ++ xs.drop i).length by omega), nn, Bool.and_self, ck, cond_true]
    rw [get_mid _ _ _ _ hi hl, markByteS_ok _ _ (h.2 i hi) (by omega) (by omega)]
    simp only [Option.bind_some, Int.toNat_natCast]
    rw [wr_succ hi (by omega), set_mid _ _ _ _ hi hl]
    rw [mkL_take fBS k xs i hi] at hRc
    exact hRc
  · unfold L.markByteSS.st2
    simp [mkL_len]
theorem heldByteSS_ok (xs : List (List Int)) (k : Int) (h : SmL xs) (h0 : 0 ≤ k) (hk : k ≤ 576460752303423488) : L.heldByteSS ((mkL fBS k xs).2, k, ()) = some ((mkL fBS k xs).1, ((), (), ())) := by
  have h1 := h.1
  unfold L.heldByteSS L.heldByteSS.p L.heldByteSS.l2
  have := rounds_run (fuel := big) (st := L.heldByteSS.st2) (X := fun i2 y2 => bif Nat.beq i2 0 then some (y2.1, ((), (), ())) else none) xs.length
    (fun i => ((mkL fBS k xs).2, (mkL fBS k (xs.take i)).1, (i : Int), ())) (fun _ => some ((mkL fBS k xs).1, ((), (), ()))) (by rw [big_pos]; omega) (fun i hi Rc hRc => ?_) (fun Rc => ?_)
  · exact this
  · have hl := mkL_len fBS k xs
    have hk1 := mkBS_bd (k := k) (h.take i)
    unfold L.heldByteSS.st2
    have hi' : i < (mkL fBS k xs).2.length := by omega
    simp only [lt_true hi', nn, Bool.and_self, ck, cond_true, Int.toNat_natCast, gd hi']
    rw [mkL_get fBS k xs i hi]
    simp only [fBS]
    rw [heldByteS_ok _ _ (h.2 i hi) (by omega) (by omega), mkB_fst]
    rw [mkL_take fBS k xs i hi] at hRc
    simp only [fBS, mkB_fst] at hRc
    simp only [Option.bind_some]
    rw [show decide ((mkL fBS k (xs.take i)).1 + ((xs[i]).length : Int) < 0) = false from by simp; omega, cond_false, wr_succ hi (by omega)]
    exact hRc
  · unfold L.heldByteSS.st2
    simp [mkL_len]
def fC (k : Int) (c : DCell) : Int × DCell := ((mkL fB (k + 2) c.2.2.1).1, ((Int.tmod k 3 == 0), k + 1, (mkL fB (k + 2) c.2.2.1).2, ()))
theorem SmCells.take {xs : List DCell} (h : SmCells xs) (i : Nat) : SmCells (xs.take i) := ⟨by simp; have := h.1; omega, fun j hj => by simpa using h.2 j (by simp at hj; omega)⟩
theorem mkC_bd {k : Int} {xs : List DCell} (h : SmCells xs) : k ≤ (mkL fC k xs).1 ∧ (mkL fC k xs).1 ≤ k + 2199023255552 := by
  have := mkL_bd (f := fC) (c := 1048578) (k := k) (xs := xs) fun k x hx => by
    obtain ⟨i, hi, rfl⟩ := List.getElem_of_mem hx
    have := h.2 i hi
    unfold Sm at this
    simp only [fC, mkB_fst]
    omega
  have := h.1
  omega
theorem markField_ok (x : DField) (k : Int) (h : Sm x.1) (h0 : 0 ≤ k) (hk : k ≤ 1152921504606846976) : L.markField (x, k, ()) = some (k + x.1.length, (((mkL fB k x.1).2, (), (), ()), (), ())) := by
  unfold L.markField
  dsimp only
  rw [markByteS_ok _ _ h h0 hk, Option.bind_some, mkB_fst]
theorem gds {α : Type} {xs : List α} {i : Nat} {d y : α} (h : i < xs.length) : (xs.set i y).getD i d = y := by
  simp [List.getD_eq_getElem?_getD, h]
theorem markCellS_ok (xs : List DCell) (k : Int) (h : SmCells xs) (h0 : 0 ≤ k) (hk : k ≤ 576460752303423488) : L.markCellS (xs, k, ()) = some ((mkL fC k xs).1, ((mkL fC k xs).2, (), ())) := by
  have h1 := h.1
  unfold L.markCellS L.markCellS.p L.markCellS.l2
  have := rounds_run (fuel := big) (st := L.markCellS.st2) (X := fun i2 y2 => bif Nat.beq i2 0 then some (y2.2.1, (y2.1, (), ())) else none) xs.length
    (fun i => ((mkL fC k (xs.take i)).2 ++ xs.drop i, (mkL fC k (xs.take i)).1, (i : Int), ())) (fun _ => some ((mkL fC k xs).1, ((mkL fC k xs).2, (), ()))) (by rw [big_pos]; omega) (fun i hi Rc hRc => ?_) (fun Rc => ?_)
  · exact this
  · have hl := mkL_len fC k (xs.take i)
    rw [take_len (by omega)] at hl
    have hl2 := len_mid (b := xs) (i := i) (by omega) hl
    have hk1 := mkC_bd (k := k) (h.take i)
    have hil : i < ((mkL fC k (xs.take i)).2 ++ xs.drop i).length := by omega
    unfold L.markCellS.st2
    simp only [lt_true hil, nn, Bool.and_self, ck, cond_true, Int.toNat_natCast, List.length_set, gds hil, List.set_set, get_mid _ _ _ _ hi hl]
    have hg := get_mid (mkL fC k (xs.take i)).2 xs i zCell hi hl
    rw [Int.toNat_natCast] at hg
    rw [hg, wr_i64 ((mkL fC k (xs.take i)).1 + 1) (by omega) (by omega), wr_i64 ((mkL fC k (xs.take i)).1 + 1 + 1) (by omega) (by omega), markByteS_ok _ _ (h.2 i hi) (by omega) (by omega)]
    simp only [Option.bind_some]
    rw [wr_succ hi (by omega), set_mid _ _ _ _ hi hl]
    rw [mkL_take fC k xs i hi] at hRc
    refine Eq.trans (congrArg Rc ?_) hRc
    simp only [fC, Int.add_assoc]
    rfl
  · unfold L.markCellS.st2
    simp [mkL_len]
end Go.Ev

