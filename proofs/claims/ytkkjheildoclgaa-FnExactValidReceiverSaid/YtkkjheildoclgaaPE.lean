/- A text of the claim: plain lemmas of what the functions compute. -/
import Derived.Test.YtkkjheildoclgaaPD
set_option linter.all false
set_option linter.unusedVariables false
set_option linter.unusedSimpArgs false
set_option autoImplicit false
set_option linter.unusedVariables false
set_option linter.unusedSimpArgs false
namespace Go.Ev
/-! ### little ends -/
def R64 (x : Int) : Prop := -9223372036854775808 ≤ x ∧ x ≤ 9223372036854775807
def shv : Nat → Int → Int
  | 0, v => v
  | k + 1, v => shv k v / 256
def littleP : Nat → Int → List Int
  | 0, _ => []
  | k + 1, v => littleP k v ++ [shv k v % 256]
theorem littleP_len : ∀ (k : Nat) (v : Int), (littleP k v).length = k
  | 0, _ => rfl
  | k + 1, v => by simp [littleP, littleP_len k v]
theorem shv_R64 : ∀ (k : Nat) {v : Int}, R64 v → R64 (shv k v)
  | 0, _, h => h
  | k + 1, v, h => by
    have := shv_R64 k h
    unfold R64 at this ⊢
    simp only [shv]
    omega
theorem shv_u : ∀ (k : Nat) {v : Int}, (0 ≤ v ∧ v ≤ 18446744073709551615) → 0 ≤ shv k v ∧ shv k v ≤ 18446744073709551615
  | 0, _, h => h
  | k + 1, v, h => by
    have := shv_u k h
    simp only [shv]
    omega
theorem wr_u64' (v : Int) : wr .u64 v = v % 18446744073709551616 := by
  simp only [wr, IntKind.wrap, IntKind.bits, IntKind.signed]
  simp
def okW (w : Nat) : Prop := w = 1 ∨ w = 2 ∨ w = 4 ∨ w = 8
theorem okW.le {w : Nat} (h : okW w) : w ≤ 8 := by rcases h with h | h | h | h <;> omega
theorem okW.pos {w : Nat} (h : okW w) : 1 ≤ w := by rcases h with h | h | h | h <;> omega
theorem littleP_u {w : Nat} (h : okW w) (v : Int) : littleP w (v % 18446744073709551616) = littleP w v := by
  rcases h with rfl | rfl | rfl | rfl
  · simp only [littleP, shv, List.nil_append, List.cons.injEq, and_true]; omega
  · simp only [littleP, shv, List.nil_append, List.cons_append, List.cons.injEq, and_true]; omega
  · simp only [littleP, shv, List.nil_append, List.cons_append, List.cons.injEq, and_true]; omega
  · simp only [littleP, shv, List.nil_append, List.cons_append, List.cons.injEq, and_true]
    refine ⟨?_, ?_, ?_, ?_, ?_, ?_, ?_, ?_⟩ <;> omega
theorem shl8 (v : Int) : ishr .i64 v 8 = v / 256 := by
  unfold ishr
  rw [show (2 : Int) ^ (min (8 : Int).toNat IntKind.i64.bits) = 256 from by decide, Int.fdiv_eq_ediv_of_nonneg _ (by decide)]
theorem S_little (v : Int) (w : Nat) (h : okW w) : S.l1little (v, (w : Int), ()) = some (littleP w v, ((), (), ())) := by
  rw [← littleP_u h]
  have hw := h.le
  unfold S.l1little S.l1little.p S.l1little.l4
  dsimp only
  rw [wr_u64']
  have hr : 0 ≤ v % 18446744073709551616 ∧ v % 18446744073709551616 ≤ 18446744073709551615 := by omega
  generalize v % 18446744073709551616 = u at hr ⊢
  refine (rounds_run (fuel := big) w (fun i => ((w : Int), shv i u, littleP i u, (i : Int), ())) (fun i => some (littleP w u, ((), (), ()))) (by rw [big_pos]; omega) (fun i hi Rc hRc => ?_) (fun Rc => ?_) : _)
  · unfold S.l1little.st4
    have hu := shv_u i hr
    have e1 : Int.tmod (shv i u) 256 = shv i u % 256 := Int.tmod_eq_emod_of_nonneg hu.1
    have e2 : Int.tdiv (shv i u) 256 = shv i u / 256 := Int.tdiv_eq_ediv_of_nonneg hu.1
    simp only [show decide ((i : Int) < (w : Int)) = true by simp; omega, cond_true, e1, e2]
    rw [ck_true (by simp [littleP_len]; omega), wr_u8, wr_u64 _ (by omega) (by omega), wr_succ hi (by omega), Int.emod_emod_of_dvd _ (by decide)]
    exact hRc
  · unfold S.l1little.st4
    simp
/-! ### numbers that fit -/
def fitsP (w : Nat) (v : Int) : Bool := match w with
  | 1 => decide (-128 ≤ v) && decide (v < 128)
  | 2 => decide (-32768 ≤ v) && decide (v < 32768)
  | 4 => decide (-2147483648 ≤ v) && decide (v < 2147483648)
  | _ => true
theorem S_fits (v : Int) (w : Nat) (h : okW w) : S.l1fits (v, (w : Int), ()) = some (fitsP w v, ((), (), ())) := by
  rcases h with rfl | rfl | rfl | rfl
  · unfold S.l1fits fitsP
    dsimp only
    rw [show ishl .i64 1 (wr .u64 (wr .i64 (wr .i64 (8 * ((1 : Nat) : Int)) - 1))) = 128 by decide]
    rw [show wr .i64 (0 - 128) = -128 by decide]
    rw [ck_true (by decide)]
    by_cases h : v ≥ -128 <;> simp [h] <;> omega
  · unfold S.l1fits fitsP
    dsimp only
    rw [show ishl .i64 1 (wr .u64 (wr .i64 (wr .i64 (8 * ((2 : Nat) : Int)) - 1))) = 32768 by decide]
    rw [show wr .i64 (0 - 32768) = -32768 by decide]
    rw [ck_true (by decide)]
    by_cases h : v ≥ -32768 <;> simp [h] <;> omega
  · unfold S.l1fits fitsP
    dsimp only
    rw [show ishl .i64 1 (wr .u64 (wr .i64 (wr .i64 (8 * ((4 : Nat) : Int)) - 1))) = 2147483648 by decide]
    rw [show wr .i64 (0 - 2147483648) = -2147483648 by decide]
    rw [ck_true (by decide)]
    by_cases h : v ≥ -2147483648 <;> simp [h] <;> omega
  · rfl
def flatP (w : Nat) : List Int → List Int
  | [] => []
  | v :: r => littleP w v ++ flatP w r
theorem flatP_app (w : Nat) : ∀ (xs : List Int) (v : Int), flatP w (xs ++ [v]) = flatP w xs ++ littleP w v
  | [], v => by simp [flatP]
  | x :: xs, v => by simp [flatP, flatP_app w xs v]
theorem flatP_len (w : Nat) : ∀ (xs : List Int), (flatP w xs).length = w * xs.length
  | [] => rfl
  | x :: xs => by simp only [flatP, List.length_append, littleP_len, flatP_len w xs, List.length_cons, Nat.mul_add]; omega
def packP (w : Nat) (xs : List Int) : List Int × Int × Unit := bif xs.all (fitsP w) then (flatP w xs, 0, ()) else ([], 1, ())
theorem S_pack (xs : List Int) (w : Nat) (h : okW w) (hl : Sm xs) : S.PackInts (xs, (w : Int), ()) = some (packP w xs, ((), (), ())) := by
  unfold Sm at hl
  have hw := h.le
  unfold S.PackInts S.PackInts.p S.PackInts.l5
  rw [S_width, Option.bind_some]
  rw [show widthP (w : Int) = true by rcases h with rfl | rfl | rfl | rfl <;> rfl]
  simp only [Bool.not_true, cond_false]
  refine (rounds_run (fuel := big) xs.length (fun i => (xs, (w : Int), flatP w (xs.take i), (i : Int), ())) (fun i => some (bif (xs.drop i).all (fitsP w) then (flatP w xs, (0 : Int), ()) else ([], 1, ()), ((), (), ()))) (by rw [big_pos]; omega) (fun i hi Rc hRc => ?_) (fun Rc => ?_) : _)
  · unfold S.PackInts.st5
    simp only [lt_true hi, nn, Bool.and_self, ck, cond_true, Int.toNat_natCast, gd hi]
    rw [S_fits _ _ h, S_little _ _ h, Option.bind_some, Option.bind_some, all_drop _ _ _ hi]
    cases fitsP w xs[i]
    · rfl
    · simp only [Bool.not_true, cond_false, Bool.true_and]
      rw [show Nat.ble (((flatP w (xs.take i)).length + (littleP w xs[i]).length) * 1) 140737488355328 = true from by
        simp only [flatP_len, littleP_len, take_len (show i ≤ xs.length by omega)]
        have : w * i ≤ 8 * 1048576 := Nat.mul_le_mul hw (by omega)
        rw [Nat.ble_eq]; omega]
      simp only [cond_true]
      rw [List.take_succ_eq_append_getElem hi, flatP_app] at hRc
      rw [wr_succ hi (by omega)]
      exact hRc
  · unfold S.PackInts.st5
    simp [lt_false (Nat.le_refl _)]
theorem wr_i8 (n : Int) : (wr .i8 n = n) ↔ (-128 ≤ n ∧ n < 128) := by
  simp only [wr, IntKind.wrap, IntKind.bits, IntKind.signed]
  simp
  omega
theorem wr_i16 (n : Int) : (wr .i16 n = n) ↔ (-32768 ≤ n ∧ n < 32768) := by
  simp only [wr, IntKind.wrap, IntKind.bits, IntKind.signed]
  simp
  omega
theorem wr_i32 (n : Int) : (wr .i32 n = n) ↔ (-2147483648 ≤ n ∧ n < 2147483648) := by
  simp only [wr, IntKind.wrap, IntKind.bits, IntKind.signed]
  simp
  omega
theorem wr_bd (k : IntKind) (h : k = .i8 ∨ k = .i16 ∨ k = .i32 ∨ k = .i64) (n : Int) : R64 (wr k n) := by
  unfold R64
  rcases h with rfl | rfl | rfl | rfl <;> simp only [wr, IntKind.wrap, IntKind.bits, IntKind.signed] <;> simp <;> omega

theorem I_fits8 (v : Int) (hv : R64 v) : ((wr .i64 (wr .i8 v)) != v) = !fitsP 1 v := by
  have hb := wr_bd .i8 (by simp) v
  unfold R64 at hb hv
  rw [wr_i64 _ hb.1 hb.2]
  unfold fitsP
  by_cases h : wr .i8 v = v
  · simp only [bne, h, BEq.rfl]
    have := (wr_i8 v).1 h
    simp [this]
  · rw [show (wr .i8 v != v) = true by simp [h]]
    rw [wr_i8] at h
    by_cases h1 : -128 ≤ v
    · have : ¬ v < 128 := fun h2 => h ⟨h1, h2⟩
      simp [this]
    · simp [h1]
theorem I_pack8 (xs : List Int) (hl : Sm xs) (hr : ∀ x, x ∈ xs → R64 x) : I.packed_int8 (xs, 1, ()) = some (packP 1 xs, ((), (), ())) := by
  unfold Sm at hl
  unfold I.packed_int8 I.packed_int8.p I.packed_int8.l3
  dsimp only
  rw [wr_i64 _ (by omega) (by omega), ck_true (by simp; omega)]
  refine (rounds_run (fuel := big) xs.length (fun i => ((1 : Int), flatP 1 (xs.take i), xs, (xs.length : Int), (i : Int), ())) (fun i => some (bif (xs.drop i).all (fitsP 1) then (flatP 1 xs, (0 : Int), ()) else ([], 1, ()), ((), (), ()))) (by rw [big_pos]; omega) (fun i hi Rc hRc => ?_) (fun Rc => ?_) : _)
  · unfold I.packed_int8.st3 I.packed_int8.l9
    simp only [lt_true hi, nn, Bool.and_self, ck, cond_true, Int.toNat_natCast, gd hi]
    rw [I_fits8 _ (hr _ (List.getElem_mem hi)), all_drop _ _ _ hi]
    have hv := hr _ (List.getElem_mem hi)
    cases fitsP 1 xs[i]
    · rfl
    · simp only [Bool.not_true, cond_false, Bool.true_and]
      rw [List.take_succ_eq_append_getElem hi, flatP_app] at hRc
      rw [show flatP 1 (xs.take i) = flatP 1 (xs.take i) ++ littleP 0 xs[i] from (List.append_nil _).symm]
      refine (rounds_run (fuel := big) 1 (fun k => ((1 : Int), flatP 1 (xs.take i) ++ littleP k xs[i], shv k xs[i], xs, (xs.length : Int), (i : Int), (1 : Int), (k : Int), ())) (fun _ => some (bif (xs.drop (i + 1)).all (fitsP 1) then (flatP 1 xs, (0 : Int), ()) else ([], 1, ()), ((), (), ()))) (by rw [big_pos]; omega) (fun k hk Rd hRd => ?_) (fun Rd => ?_) : _)
      · unfold I.packed_int8.st9
        simp only [show decide ((k : Int) < (1 : Int)) = true by simp; omega, cond_true]
        rw [ck_true (by
          simp only [List.length_append, flatP_len, littleP_len, take_len (show i ≤ xs.length by omega), List.length_cons, List.length_nil]
          rw [Nat.ble_eq]; omega), shl8, wr_u8, wr_succ hk (by omega), List.append_assoc]
        exact hRd
      · unfold I.packed_int8.st9
        simp only [show decide (((1 : Nat) : Int) < (1 : Int)) = false by simp, cond_false]
        simp only [show Nat.beq 2 2 = true from rfl, cond_true]
        rw [wr_succ hi (by omega)]
        exact hRc
  · unfold I.packed_int8.st3
    simp [lt_false (Nat.le_refl _)]

theorem I_fits16 (v : Int) (hv : R64 v) : ((wr .i64 (wr .i16 v)) != v) = !fitsP 2 v := by
  have hb := wr_bd .i16 (by simp) v
  unfold R64 at hb hv
  rw [wr_i64 _ hb.1 hb.2]
  unfold fitsP
  by_cases h : wr .i16 v = v
  · simp only [bne, h, BEq.rfl]
    have := (wr_i16 v).1 h
    simp [this]
  · rw [show (wr .i16 v != v) = true by simp [h]]
    rw [wr_i16] at h
    by_cases h1 : -32768 ≤ v
    · have : ¬ v < 32768 := fun h2 => h ⟨h1, h2⟩
      simp [this]
    · simp [h1]
theorem I_pack16 (xs : List Int) (hl : Sm xs) (hr : ∀ x, x ∈ xs → R64 x) : I.packed_int16 (xs, 2, ()) = some (packP 2 xs, ((), (), ())) := by
  unfold Sm at hl
  unfold I.packed_int16 I.packed_int16.p I.packed_int16.l3
  dsimp only
  rw [wr_i64 _ (by omega) (by omega), ck_true (by simp; omega)]
  refine (rounds_run (fuel := big) xs.length (fun i => ((2 : Int), flatP 2 (xs.take i), xs, (xs.length : Int), (i : Int), ())) (fun i => some (bif (xs.drop i).all (fitsP 2) then (flatP 2 xs, (0 : Int), ()) else ([], 1, ()), ((), (), ()))) (by rw [big_pos]; omega) (fun i hi Rc hRc => ?_) (fun Rc => ?_) : _)
  · unfold I.packed_int16.st3 I.packed_int16.l9
    simp only [lt_true hi, nn, Bool.and_self, ck, cond_true, Int.toNat_natCast, gd hi]
    rw [I_fits16 _ (hr _ (List.getElem_mem hi)), all_drop _ _ _ hi]
    have hv := hr _ (List.getElem_mem hi)
    cases fitsP 2 xs[i]
    · rfl
    · simp only [Bool.not_true, cond_false, Bool.true_and]
      rw [List.take_succ_eq_append_getElem hi, flatP_app] at hRc
      rw [show flatP 2 (xs.take i) = flatP 2 (xs.take i) ++ littleP 0 xs[i] from (List.append_nil _).symm]
      refine (rounds_run (fuel := big) 2 (fun k => ((2 : Int), flatP 2 (xs.take i) ++ littleP k xs[i], shv k xs[i], xs, (xs.length : Int), (i : Int), (2 : Int), (k : Int), ())) (fun _ => some (bif (xs.drop (i + 1)).all (fitsP 2) then (flatP 2 xs, (0 : Int), ()) else ([], 1, ()), ((), (), ()))) (by rw [big_pos]; omega) (fun k hk Rd hRd => ?_) (fun Rd => ?_) : _)
      · unfold I.packed_int16.st9
        simp only [show decide ((k : Int) < (2 : Int)) = true by simp; omega, cond_true]
        rw [ck_true (by
          simp only [List.length_append, flatP_len, littleP_len, take_len (show i ≤ xs.length by omega), List.length_cons, List.length_nil]
          rw [Nat.ble_eq]; omega), shl8, wr_u8, wr_succ hk (by omega), List.append_assoc]
        exact hRd
      · unfold I.packed_int16.st9
        simp only [show decide (((2 : Nat) : Int) < (2 : Int)) = false by simp, cond_false]
        simp only [show Nat.beq 2 2 = true from rfl, cond_true]
        rw [wr_succ hi (by omega)]
        exact hRc
  · unfold I.packed_int16.st3
    simp [lt_false (Nat.le_refl _)]

theorem I_fits32 (v : Int) (hv : R64 v) : ((wr .i64 (wr .i32 v)) != v) = !fitsP 4 v := by
  have hb := wr_bd .i32 (by simp) v
  unfold R64 at hb hv
  rw [wr_i64 _ hb.1 hb.2]
  unfold fitsP
  by_cases h : wr .i32 v = v
  · simp only [bne, h, BEq.rfl]
    have := (wr_i32 v).1 h
    simp [this]
  · rw [show (wr .i32 v != v) = true by simp [h]]
    rw [wr_i32] at h
    by_cases h1 : -2147483648 ≤ v
    · have : ¬ v < 2147483648 := fun h2 => h ⟨h1, h2⟩
      simp [this]
    · simp [h1]
theorem I_pack32 (xs : List Int) (hl : Sm xs) (hr : ∀ x, x ∈ xs → R64 x) : I.packed_int32 (xs, 4, ()) = some (packP 4 xs, ((), (), ())) := by
  unfold Sm at hl
  unfold I.packed_int32 I.packed_int32.p I.packed_int32.l3
  dsimp only
  rw [wr_i64 _ (by omega) (by omega), ck_true (by simp; omega)]
  refine (rounds_run (fuel := big) xs.length (fun i => ((4 : Int), flatP 4 (xs.take i), xs, (xs.length : Int), (i : Int), ())) (fun i => some (bif (xs.drop i).all (fitsP 4) then (flatP 4 xs, (0 : Int), ()) else ([], 1, ()), ((), (), ()))) (by rw [big_pos]; omega) (fun i hi Rc hRc => ?_) (fun Rc => ?_) : _)
  · unfold I.packed_int32.st3 I.packed_int32.l9
    simp only [lt_true hi, nn, Bool.and_self, ck, cond_true, Int.toNat_natCast, gd hi]
    rw [I_fits32 _ (hr _ (List.getElem_mem hi)), all_drop _ _ _ hi]
    have hv := hr _ (List.getElem_mem hi)
    cases fitsP 4 xs[i]
    · rfl
    · simp only [Bool.not_true, cond_false, Bool.true_and]
      rw [List.take_succ_eq_append_getElem hi, flatP_app] at hRc
      rw [show flatP 4 (xs.take i) = flatP 4 (xs.take i) ++ littleP 0 xs[i] from (List.append_nil _).symm]
      refine (rounds_run (fuel := big) 4 (fun k => ((4 : Int), flatP 4 (xs.take i) ++ littleP k xs[i], shv k xs[i], xs, (xs.length : Int), (i : Int), (4 : Int), (k : Int), ())) (fun _ => some (bif (xs.drop (i + 1)).all (fitsP 4) then (flatP 4 xs, (0 : Int), ()) else ([], 1, ()), ((), (), ()))) (by rw [big_pos]; omega) (fun k hk Rd hRd => ?_) (fun Rd => ?_) : _)
      · unfold I.packed_int32.st9
        simp only [show decide ((k : Int) < (4 : Int)) = true by simp; omega, cond_true]
        rw [ck_true (by
          simp only [List.length_append, flatP_len, littleP_len, take_len (show i ≤ xs.length by omega), List.length_cons, List.length_nil]
          rw [Nat.ble_eq]; omega), shl8, wr_u8, wr_succ hk (by omega), List.append_assoc]
        exact hRd
      · unfold I.packed_int32.st9
        simp only [show decide (((4 : Nat) : Int) < (4 : Int)) = false by simp, cond_false]
        simp only [show Nat.beq 2 2 = true from rfl, cond_true]
        rw [wr_succ hi (by omega)]
        exact hRc
  · unfold I.packed_int32.st3
    simp [lt_false (Nat.le_refl _)]

theorem I_fits64 (v : Int) (hv : R64 v) : (v != v) = !fitsP 8 v := by
  simp [fitsP]
theorem I_pack64 (xs : List Int) (hl : Sm xs) (hr : ∀ x, x ∈ xs → R64 x) : I.packed_int64 (xs, 8, ()) = some (packP 8 xs, ((), (), ())) := by
  unfold Sm at hl
  unfold I.packed_int64 I.packed_int64.p I.packed_int64.l3
  dsimp only
  rw [wr_i64 _ (by omega) (by omega), ck_true (by simp; omega)]
  refine (rounds_run (fuel := big) xs.length (fun i => ((8 : Int), flatP 8 (xs.take i), xs, (xs.length : Int), (i : Int), ())) (fun i => some (bif (xs.drop i).all (fitsP 8) then (flatP 8 xs, (0 : Int), ()) else ([], 1, ()), ((), (), ()))) (by rw [big_pos]; omega) (fun i hi Rc hRc => ?_) (fun Rc => ?_) : _)
  · unfold I.packed_int64.st3 I.packed_int64.l9
    simp only [lt_true hi, nn, Bool.and_self, ck, cond_true, Int.toNat_natCast, gd hi]
    rw [I_fits64 _ (hr _ (List.getElem_mem hi)), all_drop _ _ _ hi]
    have hv := hr _ (List.getElem_mem hi)
    cases fitsP 8 xs[i]
    · rfl
    · simp only [Bool.not_true, cond_false, Bool.true_and]
      rw [List.take_succ_eq_append_getElem hi, flatP_app] at hRc
      rw [show flatP 8 (xs.take i) = flatP 8 (xs.take i) ++ littleP 0 xs[i] from (List.append_nil _).symm]
      refine (rounds_run (fuel := big) 8 (fun k => ((8 : Int), flatP 8 (xs.take i) ++ littleP k xs[i], shv k xs[i], xs, (xs.length : Int), (i : Int), (8 : Int), (k : Int), ())) (fun _ => some (bif (xs.drop (i + 1)).all (fitsP 8) then (flatP 8 xs, (0 : Int), ()) else ([], 1, ()), ((), (), ()))) (by rw [big_pos]; omega) (fun k hk Rd hRd => ?_) (fun Rd => ?_) : _)
      · unfold I.packed_int64.st9
        simp only [show decide ((k : Int) < (8 : Int)) = true by simp; omega, cond_true]
        rw [ck_true (by
          simp only [List.length_append, flatP_len, littleP_len, take_len (show i ≤ xs.length by omega), List.length_cons, List.length_nil]
          rw [Nat.ble_eq]; omega), shl8, wr_u8, wr_succ hk (by omega), List.append_assoc]
        exact hRd
      · unfold I.packed_int64.st9
        simp only [show decide (((8 : Nat) : Int) < (8 : Int)) = false by simp, cond_false]
        simp only [show Nat.beq 2 2 = true from rfl, cond_true]
        rw [wr_succ hi (by omega)]
        exact hRc
  · unfold I.packed_int64.st3
    simp [lt_false (Nat.le_refl _)]

theorem I_pack (xs : List Int) (w : Nat) (h : okW w) (hl : Sm xs) (hr : ∀ x, x ∈ xs → R64 x) : I.PackInts (xs, (w : Int), ()) = some (packP w xs, ((), (), ())) := by
  unfold I.PackInts
  rcases h with rfl | rfl | rfl | rfl
  · show (I.packed_int8 (xs, 1, ())).bind _ = _
    rw [I_pack8 xs hl hr]; rfl
  · show (I.packed_int16 (xs, 2, ())).bind _ = _
    rw [I_pack16 xs hl hr]; rfl
  · show (I.packed_int32 (xs, 4, ())).bind _ = _
    rw [I_pack32 xs hl hr]; rfl
  · show (I.packed_int64 (xs, 8, ())).bind _ = _
    rw [I_pack64 xs hl hr]; rfl
end Go.Ev

