/- A text of the claim: plain lemmas of what the functions compute. -/
import Derived.Test.YtkkjheildoclgaaPE
set_option linter.all false
set_option linter.unusedVariables false
set_option linter.unusedSimpArgs false
set_option autoImplicit false
set_option linter.unusedVariables false
set_option linter.unusedSimpArgs false
namespace Go.Ev
/-! ### bits -/
def bi (b : Bool) : Int := bif b then 1 else 0
def byte8 (a b c d e f g h : Bool) : Int := bi a + 2 * (bi b + 2 * (bi c + 2 * (bi d + 2 * (bi e + 2 * (bi f + 2 * (bi g + 2 * bi h))))))
def bt (bs : List Bool) (k : Nat) : Bool := bs.getD k false
def byteP (bs : List Bool) (s : Nat) : Int := byte8 (bt bs s) (bt bs (s + 1)) (bt bs (s + 2)) (bt bs (s + 3)) (bt bs (s + 4)) (bt bs (s + 5)) (bt bs (s + 6)) (bt bs (s + 7))
def bitsP (bs : List Bool) : List Int := (List.range ((bs.length + 7) / 8)).map fun k => byteP bs (8 * k)
def accP (bs : List Bool) (s : Nat) : Nat → Int
  | 0 => 0
  | m + 1 => 2 * accP bs s m + bi (bt bs (s + 7 - m))
theorem accP_8 (bs : List Bool) (s : Nat) : accP bs s 8 = byteP bs s := by
  simp only [accP, byteP, byte8, show s + 7 - 0 = s + 7 by omega, show s + 7 - 1 = s + 6 by omega, show s + 7 - 2 = s + 5 by omega, show s + 7 - 3 = s + 4 by omega, show s + 7 - 4 = s + 3 by omega, show s + 7 - 5 = s + 2 by omega, show s + 7 - 6 = s + 1 by omega, show s + 7 - 7 = s by omega]
  omega
theorem bi_bd (b : Bool) : 0 ≤ bi b ∧ bi b ≤ 1 := by cases b <;> decide
theorem accP_bd (bs : List Bool) (s : Nat) : ∀ m, 0 ≤ accP bs s m ∧ accP bs s m < 2 ^ m
  | 0 => by simp [accP]
  | m + 1 => by
    have h1 := accP_bd bs s m
    have h2 := bi_bd (bt bs (s + 7 - m))
    have h3 : (2 : Int) ^ (m + 1) = 2 * 2 ^ m := by rw [Int.pow_succ]; omega
    rw [h3]
    simp only [accP]
    omega
theorem accP_bd8 (bs : List Bool) (s m : Nat) (h : m ≤ 8) : 0 ≤ accP bs s m ∧ accP bs s m ≤ 255 := by
  have h1 := accP_bd bs s m
  have : (2 : Int) ^ m ≤ 256 := by
    have : m = 0 ∨ m = 1 ∨ m = 2 ∨ m = 3 ∨ m = 4 ∨ m = 5 ∨ m = 6 ∨ m = 7 ∨ m = 8 := by omega
    rcases this with h | h | h | h | h | h | h | h | h <;> subst h <;> decide
  omega
theorem bt_in {bs : List Bool} {k : Nat} (h : k < bs.length) : bt bs k = bs[k] := gd h
theorem bt_out {bs : List Bool} {k : Nat} (h : bs.length ≤ k) : bt bs k = false := by
  simp [bt, List.getD_eq_getElem?_getD, h]
theorem S_bits (bs : List Bool) (hl : bs.length ≤ 1048576) : S.PackBits (bs, ()) = some (bitsP bs, ((), ())) := by
  unfold S.PackBits S.PackBits.p S.PackBits.l3
  refine (rounds_run (fuel := big) ((bs.length + 7) / 8) (fun m => (bs, (List.range m).map (fun k => byteP bs (8 * k)), ((8 * m : Nat) : Int), ())) (fun _ => some (bitsP bs, ((), ()))) (by rw [big_pos]; omega) (fun m hm Rc hRc => ?_) (fun Rc => ?_) : _)
  · unfold S.PackBits.st3 S.PackBits.l7
    simp only [show decide (((8 * m : Nat) : Int) < (bs.length : Int)) = true by simp; omega, cond_true]
    refine (rounds_run (fuel := big) 8 (fun j => (bs, (List.range m).map (fun k => byteP bs (8 * k)), ((8 * m : Nat) : Int), accP bs (8 * m) j, (7 : Int) - (j : Int), ())) (fun _ => some (bitsP bs, ((), ()))) (by rw [big_pos]; omega) (fun j hj Rd hRd => ?_) (fun Rd => ?_) : _)
    · have ha := accP_bd8 bs (8 * m) j (by omega)
      unfold S.PackBits.st7
      simp only [show decide ((7 : Int) - (j : Int) ≥ 0) = true by simp; omega, cond_true]
      rw [wr_i64 (((8 * m : Nat) : Int) + ((7 : Int) - (j : Int))) (by omega) (by omega), wr_i64 (accP bs (8 * m) j * 2) (by omega) (by omega), wr_i64 ((7 : Int) - (j : Int) - 1) (by omega) (by omega), wr_i64 (accP bs (8 * m) j * 2 + 1) (by omega) (by omega)]
      rw [show ((8 * m : Nat) : Int) + ((7 : Int) - (j : Int)) = ((8 * m + 7 - j : Nat) : Int) by omega, show (7 : Int) - (j : Int) - 1 = 7 - ((j + 1 : Nat) : Int) by omega]
      by_cases hb : 8 * m + 7 - j < bs.length
      · simp only [lt_true hb, nn, Bool.and_self, ck, cond_true, Int.toNat_natCast, gd hb, BEq.rfl]
        have e := bt_in hb
        cases hx : bs[8 * m + 7 - j]
        · simp only [cond_false]
          rw [hx] at e
          simp only [accP, e, bi, cond_false, Int.add_zero] at hRd
          rw [Int.mul_comm]; exact hRd
        · simp only [cond_true]
          rw [hx] at e
          simp only [accP, e, bi, cond_true] at hRd
          rw [Int.mul_comm]; exact hRd
      · have e := bt_out (bs := bs) (k := 8 * m + 7 - j) (by omega)
        simp only [lt_false (show bs.length ≤ 8 * m + 7 - j by omega), show (false == true) = false from rfl, cond_false]
        simp only [accP, e, bi, cond_false, Int.add_zero] at hRd
        rw [Int.mul_comm]; exact hRd
    · unfold S.PackBits.st7
      have ha := accP_bd8 bs (8 * m) 8 (by omega)
      simp only [show decide ((7 : Int) - ((8 : Nat) : Int) ≥ 0) = false from rfl, cond_false, show Nat.beq 2 2 = true from rfl, cond_true]
      rw [ck_true (by simp; omega), wr_u8, Int.emod_eq_of_lt ha.1 (by omega), accP_8, wr_i64 _ (by omega) (by omega)]
      rw [List.range_succ, List.map_append] at hRc
      exact hRc
  · unfold S.PackBits.st3
    simp only [show decide (((8 * ((bs.length + 7) / 8) : Nat) : Int) < (bs.length : Int)) = false by simp; omega, cond_false]
    rfl
theorem or_bit : ∀ (a b c d e f g h : Bool), (ior .u8 (byte8 false b c d e f g h) (ishl .u8 1 0) = byte8 true b c d e f g h) ∧ (ior .u8 (byte8 a false c d e f g h) (ishl .u8 1 1) = byte8 a true c d e f g h) ∧ (ior .u8 (byte8 a b false d e f g h) (ishl .u8 1 2) = byte8 a b true d e f g h) ∧ (ior .u8 (byte8 a b c false e f g h) (ishl .u8 1 3) = byte8 a b c true e f g h) ∧
    (ior .u8 (byte8 a b c d false f g h) (ishl .u8 1 4) = byte8 a b c d true f g h) ∧ (ior .u8 (byte8 a b c d e false g h) (ishl .u8 1 5) = byte8 a b c d e true g h) ∧ (ior .u8 (byte8 a b c d e f false h) (ishl .u8 1 6) = byte8 a b c d e f true h) ∧ (ior .u8 (byte8 a b c d e f g false) (ishl .u8 1 7) = byte8 a b c d e f g true) := by decide +kernel
theorem bt_take (bs : List Bool) (i k : Nat) : bt (bs.take i) k = (decide (k < i) && bt bs k) := by
  unfold bt
  simp only [List.getD_eq_getElem?_getD, List.getElem?_take]
  by_cases h : k < i <;> simp [h]
theorem byteP_take_ne (bs : List Bool) (i k : Nat) (h : k ≠ i / 8) : byteP (bs.take (i + 1)) (8 * k) = byteP (bs.take i) (8 * k) := by
  have e : ∀ j, j < 8 → bt (bs.take (i + 1)) (8 * k + j) = bt (bs.take i) (8 * k + j) := fun j hj => by
    rw [bt_take, bt_take]
    by_cases h1 : 8 * k + j < i
    · simp [h1, show 8 * k + j < i + 1 by omega]
    · simp [h1, show ¬ 8 * k + j < i + 1 by omega]
  unfold byteP
  rw [e 1 (by omega), e 2 (by omega), e 3 (by omega), e 4 (by omega), e 5 (by omega), e 6 (by omega), e 7 (by omega), show bt (bs.take (i + 1)) (8 * k) = bt (bs.take i) (8 * k) from e 0 (by omega)]
theorem byteP_take_off (bs : List Bool) (i k : Nat) (hi : i < bs.length) (hb : bs[i] = false) : byteP (bs.take (i + 1)) (8 * k) = byteP (bs.take i) (8 * k) := by
  have e : ∀ j, j < 8 → bt (bs.take (i + 1)) (8 * k + j) = bt (bs.take i) (8 * k + j) := fun j hj => by
    rw [bt_take, bt_take]
    by_cases h1 : 8 * k + j < i
    · simp [h1, show 8 * k + j < i + 1 by omega]
    · by_cases h2 : 8 * k + j = i
      · rw [h2, bt_in hi, hb]; simp
      · simp [h1, show ¬ 8 * k + j < i + 1 by omega]
  unfold byteP
  rw [e 1 (by omega), e 2 (by omega), e 3 (by omega), e 4 (by omega), e 5 (by omega), e 6 (by omega), e 7 (by omega), show bt (bs.take (i + 1)) (8 * k) = bt (bs.take i) (8 * k) from e 0 (by omega)]
theorem byteP_take_on (bs : List Bool) (i : Nat) (hi : i < bs.length) (hb : bs[i] = true) : ior .u8 (byteP (bs.take i) (8 * (i / 8))) (ishl .u8 1 ((i % 8 : Nat) : Int)) = byteP (bs.take (i + 1)) (8 * (i / 8)) := by
  have on : ∀ k, k = i → bt (bs.take (i + 1)) k = true := fun k hk => by rw [bt_take, hk, bt_in hi, hb]; simp
  have off : ∀ k, i ≤ k → bt (bs.take i) k = false := fun k hk => by rw [bt_take]; simp [show ¬ k < i by omega]
  have ne : ∀ k, k ≠ i → bt (bs.take (i + 1)) k = bt (bs.take i) k := fun k hk => by
    rw [bt_take, bt_take]
    by_cases h1 : k < i
    · simp [h1, show k < i + 1 by omega]
    · simp [h1, show ¬ k < i + 1 by omega]
  unfold byteP
  have hr : i % 8 = 0 ∨ i % 8 = 1 ∨ i % 8 = 2 ∨ i % 8 = 3 ∨ i % 8 = 4 ∨ i % 8 = 5 ∨ i % 8 = 6 ∨ i % 8 = 7 := by omega
  rcases hr with h | h | h | h | h | h | h | h <;> rw [h]
  · rw [off (8 * (i / 8)) (by omega), on (8 * (i / 8)) (by omega), ne (8 * (i / 8) + 1) (by omega), ne (8 * (i / 8) + 2) (by omega), ne (8 * (i / 8) + 3) (by omega), ne (8 * (i / 8) + 4) (by omega), ne (8 * (i / 8) + 5) (by omega), ne (8 * (i / 8) + 6) (by omega), ne (8 * (i / 8) + 7) (by omega)]
    exact (or_bit true _ _ _ _ _ _ _).1
  · rw [off (8 * (i / 8) + 1) (by omega), on (8 * (i / 8) + 1) (by omega), ne (8 * (i / 8)) (by omega), ne (8 * (i / 8) + 2) (by omega), ne (8 * (i / 8) + 3) (by omega), ne (8 * (i / 8) + 4) (by omega), ne (8 * (i / 8) + 5) (by omega), ne (8 * (i / 8) + 6) (by omega), ne (8 * (i / 8) + 7) (by omega)]
    exact (or_bit _ true _ _ _ _ _ _).2.1
  · rw [off (8 * (i / 8) + 2) (by omega), on (8 * (i / 8) + 2) (by omega), ne (8 * (i / 8)) (by omega), ne (8 * (i / 8) + 1) (by omega), ne (8 * (i / 8) + 3) (by omega), ne (8 * (i / 8) + 4) (by omega), ne (8 * (i / 8) + 5) (by omega), ne (8 * (i / 8) + 6) (by omega), ne (8 * (i / 8) + 7) (by omega)]
    exact (or_bit _ _ true _ _ _ _ _).2.2.1
  · rw [off (8 * (i / 8) + 3) (by omega), on (8 * (i / 8) + 3) (by omega), ne (8 * (i / 8)) (by omega), ne (8 * (i / 8) + 1) (by omega), ne (8 * (i / 8) + 2) (by omega), ne (8 * (i / 8) + 4) (by omega), ne (8 * (i / 8) + 5) (by omega), ne (8 * (i / 8) + 6) (by omega), ne (8 * (i / 8) + 7) (by omega)]
    exact (or_bit _ _ _ true _ _ _ _).2.2.2.1
  · rw [off (8 * (i / 8) + 4) (by omega), on (8 * (i / 8) + 4) (by omega), ne (8 * (i / 8)) (by omega), ne (8 * (i / 8) + 1) (by omega), ne (8 * (i / 8) + 2) (by omega), ne (8 * (i / 8) + 3) (by omega), ne (8 * (i / 8) + 5) (by omega), ne (8 * (i / 8) + 6) (by omega), ne (8 * (i / 8) + 7) (by omega)]
    exact (or_bit _ _ _ _ true _ _ _).2.2.2.2.1
  · rw [off (8 * (i / 8) + 5) (by omega), on (8 * (i / 8) + 5) (by omega), ne (8 * (i / 8)) (by omega), ne (8 * (i / 8) + 1) (by omega), ne (8 * (i / 8) + 2) (by omega), ne (8 * (i / 8) + 3) (by omega), ne (8 * (i / 8) + 4) (by omega), ne (8 * (i / 8) + 6) (by omega), ne (8 * (i / 8) + 7) (by omega)]
    exact (or_bit _ _ _ _ _ true _ _).2.2.2.2.2.1
  · rw [off (8 * (i / 8) + 6) (by omega), on (8 * (i / 8) + 6) (by omega), ne (8 * (i / 8)) (by omega), ne (8 * (i / 8) + 1) (by omega), ne (8 * (i / 8) + 2) (by omega), ne (8 * (i / 8) + 3) (by omega), ne (8 * (i / 8) + 4) (by omega), ne (8 * (i / 8) + 5) (by omega), ne (8 * (i / 8) + 7) (by omega)]
    exact (or_bit _ _ _ _ _ _ true _).2.2.2.2.2.2.1
  · rw [off (8 * (i / 8) + 7) (by omega), on (8 * (i / 8) + 7) (by omega), ne (8 * (i / 8)) (by omega), ne (8 * (i / 8) + 1) (by omega), ne (8 * (i / 8) + 2) (by omega), ne (8 * (i / 8) + 3) (by omega), ne (8 * (i / 8) + 4) (by omega), ne (8 * (i / 8) + 5) (by omega), ne (8 * (i / 8) + 6) (by omega)]
    exact (or_bit _ _ _ _ _ _ _ true).2.2.2.2.2.2.2
theorem byteP_none (s : Nat) : byteP [] s = 0 := by
  unfold byteP
  simp only [bt, List.getD_nil]
  decide
theorem I_bits (bs : List Bool) (hl : bs.length ≤ 1048576) : I.PackBits (bs, ()) = some (bitsP bs, ((), ())) := by
  unfold I.PackBits I.PackBits.p I.PackBits.l3
  dsimp only
  have e1 : wr .i64 (Int.tdiv (wr .i64 ((bs.length : Int) + 7)) 8) = (((bs.length + 7) / 8 : Nat) : Int) := by
    rw [wr_i64 ((bs.length : Int) + 7) (by omega) (by omega), Int.tdiv_eq_ediv_of_nonneg (by omega), wr_i64 _ (by omega) (by omega)]
    omega
  rw [e1, ck_true (by simp; omega), Int.toNat_natCast]
  have e0 : List.replicate ((bs.length + 7) / 8) (0 : Int) = (List.range ((bs.length + 7) / 8)).map fun k => byteP (bs.take 0) (8 * k) := by
    rw [List.take_zero]
    apply List.ext_getElem
    · simp
    · intro i h1 h2; simp [byteP_none]
  rw [e0]
  refine (rounds_run (fuel := big) bs.length (fun i => ((List.range ((bs.length + 7) / 8)).map (fun k => byteP (bs.take i) (8 * k)), bs, (bs.length : Int), (i : Int), ())) (fun _ => some (bitsP bs, ((), ()))) (by rw [big_pos]; omega) (fun i hi Rc hRc => ?_) (fun Rc => ?_) : _)
  · unfold I.PackBits.st3
    simp only [lt_true hi, nn, Bool.and_self, ck, cond_true, Int.toNat_natCast, gd hi]
    rw [wr_succ hi (by omega)]
    cases hb : bs[i]
    · simp only [cond_false]
      rw [show ((List.range ((bs.length + 7) / 8)).map fun k => byteP (bs.take (i + 1)) (8 * k)) = (List.range ((bs.length + 7) / 8)).map fun k => byteP (bs.take i) (8 * k) from List.map_congr_left fun k _ => byteP_take_off bs i k hi hb] at hRc
      exact hRc
    · simp only [cond_true]
      rw [show Int.tdiv (i : Int) 8 = ((i / 8 : Nat) : Int) by rw [Int.tdiv_eq_ediv_of_nonneg (by omega)]; omega]
      rw [show Int.tmod (i : Int) 8 = ((i % 8 : Nat) : Int) by rw [Int.tmod_eq_emod_of_nonneg (by omega)]; omega]
      rw [wr_i64 ((i / 8 : Nat) : Int) (by omega) (by omega)]
      have hin : i / 8 < ((List.range ((bs.length + 7) / 8)).map fun k => byteP (bs.take i) (8 * k)).length := by simp; omega
      simp only [lt_true hin, nn, Bool.and_self, cond_true, Int.toNat_natCast, gd hin, List.getElem_map, List.getElem_range]
      rw [byteP_take_on bs i hi hb]
      refine Eq.trans (congrArg Rc ?_) hRc
      refine Prod.ext ?_ rfl
      simp only []
      apply List.ext_getElem
      · simp
      · intro k h1 h2
        rw [List.getElem_set]
        by_cases hk : i / 8 = k
        · subst hk; simp
        · simp only [hk, if_false, List.getElem_map, List.getElem_range]
          rw [byteP_take_ne bs i k (fun h => hk h.symm)]
  · unfold I.PackBits.st3
    simp only [lt_false (Nat.le_refl _), cond_false, List.take_length]
    rfl
end Go.Ev

