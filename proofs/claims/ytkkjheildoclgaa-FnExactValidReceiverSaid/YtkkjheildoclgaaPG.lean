/- A text of the claim: plain lemmas of what the functions compute. -/
import Derived.Test.YtkkjheildoclgaaPF
set_option linter.all false
set_option linter.unusedVariables false
set_option linter.unusedSimpArgs false
set_option autoImplicit false
set_option linter.unusedVariables false
set_option linter.unusedSimpArgs false
namespace Go.Ev
/-! ### cells -/
def wN (f : DField) : Nat := f.2.2.1.toNat
theorem field_w {f : DField} (h : fieldP f = true) (hk : f.2.1 = 1) : okW (wN f) ∧ f.2.2.1 = (wN f : Int) := by
  unfold fieldP widthP at h
  unfold wN okW
  simp [hk] at h
  omega
def cellP (f : DField) (c : DCell) : Bool :=
  (bif c.1 then c.2.1 == 0 else bif f.2.1 == 0 then (c.2.1 == 0 || c.2.1 == 1) else bif f.2.1 == 1 then fitsP (wN f) c.2.1 else true) &&
  (bif !c.1 && !(f.2.1 == 0) && !(f.2.1 == 1) then c.2.1 == 0 else (List.length c.2.2.1 : Int) == 0)
theorem S_cell (f : DField) (c : DCell) (hf : fieldP f = true) : S.l2cellOK (f, c, ()) = some (cellP f c, (((), (), (), ()), ((), (), (), ()), ())) := by
  unfold S.l2cellOK cellP
  dsimp only
  cases c.1
  · by_cases h0 : f.2.1 = 0
    · simp only [h0]
      generalize (c.2.1 == 0) = a
      generalize (c.2.1 == 1) = b
      cases a <;> cases b <;> rfl
    · by_cases h1 : f.2.1 = 1
      · obtain ⟨hw, e⟩ := field_w hf h1
        simp only [h1, e]
        rw [S_fits _ _ hw]
        simp only [Option.bind_some]
        cases fitsP (wN f) c.2.1 <;> rfl
      · rw [show (f.2.1 == 0) = false by simp [h0], show (f.2.1 == 1) = false by simp [h1]]
        cases (c.2.1 == 0) <;> rfl
  · cases (c.2.1 == 0) <;> rfl
theorem I_cell (f : DField) (c : DCell) (hf : fieldP f = true) (hc : R64 c.2.1) : I.cellOk (f, c, ()) = some (cellP f c, (((), (), (), ()), ((), (), (), ()), ())) := by
  unfold I.cellOk cellP
  dsimp only
  cases c.1
  · by_cases h0 : f.2.1 = 0
    · simp only [h0]
      generalize (c.2.1 == 0) = a
      generalize (c.2.1 == 1) = b
      cases a <;> cases b <;> rfl
    · by_cases h1 : f.2.1 = 1
      · obtain ⟨hw, e⟩ := field_w hf h1
        simp only [h1, e]
        rw [I_pack [c.2.1] _ hw (by unfold Sm; simp) (by simp; exact hc)]
        simp only [Option.bind_some, packP, List.all_cons, List.all_nil, Bool.and_true]
        cases fitsP (wN f) c.2.1 <;> rfl
      · rw [show (f.2.1 == 0) = false by simp [h0], show (f.2.1 == 1) = false by simp [h1]]
        cases (c.2.1 == 0) <;> rfl
  · cases (c.2.1 == 0) <;> rfl
theorem S_cells (f : DField) (cs : List DCell) (hl : cs.length ≤ maxL) : S.l2cellsOK (f, cs, ()) = some (fieldP f && (decide (cs.length ≤ 100) && cs.all (cellP f)), (((), (), (), ()), (), ())) := by
  unfold maxL at hl
  unfold S.l2cellsOK S.l2cellsOK.p
  dsimp only
  rw [show (f.1, f.2.1, f.2.2.1, ()) = f from rfl, S_field, Option.bind_some]
  cases hf : fieldP f
  · rfl
  simp only [Bool.not_true, BEq.rfl, cond_true, Bool.true_and]
  by_cases h : cs.length ≤ 100
  · simp only [show decide ((cs.length : Int) > 100) = false by simp; omega, cond_false, h, decide_true, Bool.true_and]
    unfold S.l2cellsOK.l4
    refine (rounds_run (fuel := big) cs.length (fun i => (cs, f, (i : Int), ())) (fun i => some ((cs.drop i).all (cellP f), (((), (), (), ()), (), ()))) (by rw [big_pos]; omega) (fun i hi Rc hRc => ?_) (fun Rc => ?_) : _)
    · unfold S.l2cellsOK.st4
      simp only [lt_true hi, nn, Bool.and_self, ck, cond_true, Int.toNat_natCast, gd hi]
      rw [show (f.1, f.2.1, f.2.2.1, ()) = f from rfl, show (cs[i].1, cs[i].2.1, cs[i].2.2.1, ()) = cs[i] from rfl, S_cell _ _ hf, Option.bind_some, wr_succ hi (by omega), hRc, all_drop _ _ _ hi]
      cases cellP f cs[i] <;> rfl
    · unfold S.l2cellsOK.st4
      simp [lt_false (Nat.le_refl _)]
  · simp [show ((cs.length : Int) > 100) by omega, h]
/-! ### validity -/
def valP (cs : List DCell) : List Int := bif cs.all (fun c => !c.1) then [] else bitsP (cs.map fun c => !c.1)
theorem map_take {α β : Type} (g : α → β) (xs : List α) (i : Nat) (h : i < xs.length) : (xs.take (i + 1)).map g = (xs.take i).map g ++ [g xs[i]] := by
  rw [List.take_succ_eq_append_getElem h, List.map_append]; rfl
theorem all_take {α : Type} (g : α → Bool) (xs : List α) (i : Nat) (h : i < xs.length) : (xs.take (i + 1)).all g = ((xs.take i).all g && g xs[i]) := by
  rw [List.take_succ_eq_append_getElem h, List.all_append]; simp
theorem S_val (cs : List DCell) (hl : cs.length ≤ 100) : S.l2validity (cs, ()) = some (valP cs, ((), ())) := by
  unfold S.l2validity S.l2validity.p S.l2validity.l4
  refine (rounds_run (fuel := big) cs.length (fun i => (cs, (cs.take i).map (fun c => !c.1), (cs.take i).all (fun c => !c.1), (i : Int), ())) (fun _ => some (valP cs, ((), ()))) (by rw [big_pos]; omega) (fun i hi Rc hRc => ?_) (fun Rc => ?_) : _)
  · unfold S.l2validity.st4
    simp only [lt_true hi, nn, Bool.and_self, cond_true, Int.toNat_natCast, gd hi]
    rw [ck_true rfl, ck_true (by simp; omega), wr_succ hi (by omega)]
    rw [map_take _ _ _ hi, all_take _ _ _ hi] at hRc
    cases hx : (cs.take i).all fun c => !c.1
    · rw [hx] at hRc
      exact hRc
    · rw [hx] at hRc
      exact hRc
  · unfold S.l2validity.st4 valP
    simp only [lt_false (Nat.le_refl _), cond_false, show Nat.beq 0 0 = true from rfl, cond_true, List.take_length]
    rw [S_bits _ (by simp; omega)]
    cases cs.all fun c => !c.1 <;> rfl
theorem I_contains (bs : List Bool) (hl : bs.length ≤ maxL) : B.slices_Contains_bool (bs, false, ()) = some (!bs.all id, ((), (), ())) := by
  unfold maxL at hl
  unfold B.slices_Contains_bool B.slices_Index_bool B.slices_Index_bool.p B.slices_Index_bool.l2
  dsimp only
  have key : ∃ r : Int, decide (r ≥ 0) = (!bs.all id) ∧ rounds B.slices_Index_bool.st2 big (fun i2 y2 => bif Nat.beq i2 0 then some (-1, ((), (), ())) else none) (bs, false, (bs.length : Int), 0, ()) = some (r, ((), (), ())) := by
    refine rounds_inv (fuel := big) bs.length (fun i x => x = (bs, false, (bs.length : Int), (i : Int), ()) ∧ (bs.take i).all id = true) (fun o => ∃ r : Int, decide (r ≥ 0) = (!bs.all id) ∧ o = some (r, ((), (), ()))) (by rw [big_pos]; omega) ⟨rfl, rfl⟩ ?_ ?_
    · rintro i x hi ⟨rfl, hp⟩ Rc hRc
      unfold B.slices_Index_bool.st2
      simp only [lt_true hi, nn, Bool.and_self, ck, cond_true, Int.toNat_natCast, gd hi]
      cases hb : bs[i]
      · refine ⟨i, ?_, rfl⟩
        rw [show bs.all id = false from by
          rw [List.all_eq_false]; exact ⟨bs[i], List.getElem_mem hi, by rw [hb]; simp⟩]
        simp
      · simp only [show (false == true) = false from rfl, cond_false]
        refine hRc _ ⟨by rw [wr_succ hi (by omega)], ?_⟩
        rw [all_take _ _ _ hi, hp, hb]; rfl
    · rintro x ⟨rfl, hp⟩ Rc
      unfold B.slices_Index_bool.st2
      rw [List.take_length] at hp
      refine ⟨-1, by rw [hp]; rfl, ?_⟩
      simp [lt_false (Nat.le_refl _)]
  obtain ⟨r, h1, h2⟩ := key
  rw [h2, Option.bind_some, h1]
/-! ### the text buffers -/
def endsP (ts : List (List Int)) : List Int := (List.range (ts.length + 1)).map fun k => (tot (ts.take k) : Int)
theorem ends_take (ts : List (List Int)) (i : Nat) (h : i < ts.length) : (List.range (i + 1 + 1)).map (fun k => (tot (ts.take k) : Int)) = (List.range (i + 1)).map (fun k => (tot (ts.take k) : Int)) ++ [((tot (ts.take i) + ts[i].length : Nat) : Int)] := by
  rw [List.range_succ, List.map_append, ← tot_take _ _ h]; rfl
theorem flat_len : ∀ (ts : List (List Int)), ts.flatten.length = tot ts
  | [] => rfl
  | t :: r => by simp [tot, flat_len r]
theorem flat_take (ts : List (List Int)) (i : Nat) (h : i < ts.length) : (ts.take (i + 1)).flatten = (ts.take i).flatten ++ ts[i] := by
  rw [List.take_succ_eq_append_getElem h, List.flatten_append]; simp
theorem tot_le (ts : List (List Int)) (k : Nat) : tot (ts.take k) ≤ tot ts := by
  conv => rhs; rw [← List.take_append_drop k ts]
  rw [tot_app]; omega
theorem ends_fit (ts : List (List Int)) (h : tot ts ≤ 1048576) : (endsP ts).all (fitsP 4) = true := by
  rw [List.all_eq_true]
  intro x hx
  unfold endsP at hx
  rw [List.mem_map] at hx
  obtain ⟨k, _, rfl⟩ := hx
  have := tot_le ts k
  unfold fitsP
  simp only [Bool.and_eq_true, decide_eq_true_eq]
  omega
theorem ends_R64 (ts : List (List Int)) (h : tot ts ≤ 1048576) : ∀ x, x ∈ endsP ts → R64 x := by
  intro x hx
  unfold endsP at hx
  rw [List.mem_map] at hx
  obtain ⟨k, _, rfl⟩ := hx
  have := tot_le ts k
  unfold R64
  omega
theorem S_text (ts : List (List Int)) (hl : ts.length ≤ 100) (ht : tot ts ≤ 1048576) : S.l2textBuffers (ts, ()) = some ([flatP 4 (endsP ts), ts.flatten], ((), ())) := by
  unfold S.l2textBuffers S.l2textBuffers.p S.l2textBuffers.l4
  refine (rounds_run (fuel := big) ts.length (fun i => (ts, (List.range (i + 1)).map (fun k => (tot (ts.take k) : Int)), (ts.take i).flatten, (i : Int), ())) (fun _ => some ([flatP 4 (endsP ts), ts.flatten], ((), ()))) (by rw [big_pos]; omega) (fun i hi Rc hRc => ?_) (fun Rc => ?_) : _)
  · unfold S.l2textBuffers.st4
    have h1 := tot_le ts i
    have h2 := tot_le ts (i + 1)
    rw [tot_take _ _ hi] at h2
    simp only [lt_true hi, nn, Bool.and_self, cond_true, Int.toNat_natCast, gd hi]
    rw [ck_true rfl, ck_true (by rw [flat_len, Nat.ble_eq]; omega), ck_true (by simp; omega), wr_succ hi (by omega)]
    rw [ends_take _ _ hi, flat_take _ _ hi, ← flat_len] at hRc
    rw [List.length_append]
    exact hRc
  · unfold S.l2textBuffers.st4
    simp only [lt_false (Nat.le_refl _), cond_false, show Nat.beq 0 0 = true from rfl, cond_true, List.take_length]
    rw [show (List.range (ts.length + 1)).map (fun k => (tot (ts.take k) : Int)) = endsP ts from rfl]
    rw [show (4 : Int) = ((4 : Nat) : Int) from rfl, S_pack _ 4 (by unfold okW; omega) (by unfold Sm endsP; simp; omega)]
    simp [packP, ends_fit _ ht]
def txt (cs : List DCell) : List (List Int) := cs.map fun c => c.2.2.1
theorem txt_len (cs : List DCell) : (txt cs).length = cs.length := by simp [txt]
theorem txt_get (cs : List DCell) (i : Nat) (h : i < cs.length) : (txt cs)[i]'(by rw [txt_len]; exact h) = cs[i].2.2.1 := by simp [txt]
theorem I_ends (cs : List DCell) (hl : cs.length ≤ 100) (ht : tot (txt cs) ≤ 1048576) : I.offsets_ends ((), cs, ()) = some ((flatP 4 (endsP (txt cs)), 0, ()), ((()), (), ())) := by
  unfold I.offsets_ends I.offsets_ends.p I.offsets_ends.l3
  refine (rounds_run (fuel := big) cs.length (fun i => ((List.range (i + 1)).map (fun k => (tot ((txt cs).take k) : Int)), cs, (cs.length : Int), (i : Int), ())) (fun _ => some ((flatP 4 (endsP (txt cs)), (0 : Int), ()), ((()), (), ()))) (by rw [big_pos]; omega) (fun i hi Rc hRc => ?_) (fun Rc => ?_) : _)
  · unfold I.offsets_ends.st3
    have hi' : i < (txt cs).length := by rw [txt_len]; exact hi
    have h1 := tot_le (txt cs) i
    have h2 := tot_le (txt cs) (i + 1)
    rw [tot_take _ _ hi', txt_get _ _ hi] at h2
    have h3 : i < ((List.range (i + 1)).map (fun k => (tot ((txt cs).take k) : Int))).length := by simp
    simp only [lt_true hi, lt_true h3, nn, Bool.and_self, cond_true, Int.toNat_natCast, gd hi, gd h3, List.getElem_map, List.getElem_range]
    rw [wr_i64 ((tot ((txt cs).take i) : Int) + (cs[i].2.2.1.length : Int)) (by omega) (by omega), ck_true rfl, ck_true rfl, ck_true (by simp; omega), wr_succ hi (by omega)]
    rw [ends_take _ _ hi', txt_get _ _ hi, Int.natCast_add] at hRc
    exact hRc
  · unfold I.offsets_ends.st3
    simp only [lt_false (Nat.le_refl _), cond_false, show Nat.beq 0 0 = true from rfl, cond_true]
    rw [show (List.range (cs.length + 1)).map (fun k => (tot ((txt cs).take k) : Int)) = endsP (txt cs) from by unfold endsP; rw [txt_len]]
    rw [show (4 : Int) = ((4 : Nat) : Int) from rfl, I_pack _ 4 (by unfold okW; omega) (by unfold Sm endsP; simp [txt_len]; omega) (ends_R64 _ ht)]
    simp [packP, ends_fit _ ht]
theorem I_text (cs : List DCell) (hl : cs.length ≤ 100) (ht : tot (txt cs) ≤ 1048576) : I.texts_build ((), cs, ()) = some (([flatP 4 (endsP (txt cs)), (txt cs).flatten], 0, ()), ((()), (), ())) := by
  unfold I.texts_build I.texts_build.p
  dsimp only
  rw [I_ends _ hl ht, Option.bind_some]
  unfold I.texts_build.l4
  refine (rounds_run (fuel := big) cs.length (fun i => (flatP 4 (endsP (txt cs)), (0 : Int), ((txt cs).take i).flatten, cs, (cs.length : Int), (i : Int), ())) (fun _ => some (([flatP 4 (endsP (txt cs)), (txt cs).flatten], (0 : Int), ()), ((()), (), ()))) (by rw [big_pos]; omega) (fun i hi Rc hRc => ?_) (fun Rc => ?_) : _)
  · unfold I.texts_build.st4
    have hi' : i < (txt cs).length := by rw [txt_len]; exact hi
    have h1 := tot_le (txt cs) i
    have h2 := tot_le (txt cs) (i + 1)
    rw [tot_take _ _ hi', txt_get _ _ hi] at h2
    simp only [lt_true hi, nn, Bool.and_self, cond_true, Int.toNat_natCast, gd hi]
    rw [ck_true rfl, ck_true (by rw [flat_len, Nat.ble_eq]; omega), wr_succ hi (by omega)]
    rw [flat_take _ _ hi', txt_get _ _ hi] at hRc
    exact hRc
  · unfold I.texts_build.st4
    simp only [lt_false (Nat.le_refl _), cond_false, show Nat.beq 0 0 = true from rfl, cond_true]
    rw [show (txt cs).take cs.length = txt cs from by rw [← txt_len, List.take_length]]
theorem I_bools (cs : List DCell) (hl : cs.length ≤ 100) : I.bools_build ((), cs, ()) = some (([bitsP (cs.map fun c => c.2.1 == 1)], 0, ()), ((()), (), ())) := by
  unfold I.bools_build I.bools_build.p I.bools_build.l3
  refine (rounds_run (fuel := big) cs.length (fun i => ((cs.take i).map (fun c => c.2.1 == 1), cs, (cs.length : Int), (i : Int), ())) (fun _ => some (([bitsP (cs.map fun c => c.2.1 == 1)], (0 : Int), ()), ((()), (), ()))) (by rw [big_pos]; omega) (fun i hi Rc hRc => ?_) (fun Rc => ?_) : _)
  · unfold I.bools_build.st3
    simp only [lt_true hi, nn, Bool.and_self, cond_true, Int.toNat_natCast, gd hi]
    rw [ck_true rfl, ck_true (by simp; omega), wr_succ hi (by omega)]
    rw [map_take _ _ _ hi] at hRc
    exact hRc
  · unfold I.bools_build.st3
    simp only [lt_false (Nat.le_refl _), cond_false, show Nat.beq 0 0 = true from rfl, cond_true, List.take_length]
    rw [I_bits _ (by simp; omega)]
    rfl
theorem I_nums (cs : List DCell) (w : Nat) (hw : okW w) (hl : cs.length ≤ 100) (hr : ∀ c, c ∈ cs → R64 c.2.1) : I.numbers_build (((w : Int), ()), cs, ()) = some (([(packP w (cs.map fun c => c.2.1)).1], (packP w (cs.map fun c => c.2.1)).2.1, ()), (((), ()), (), ())) := by
  unfold I.numbers_build I.numbers_build.p I.numbers_build.l3
  refine (rounds_run (fuel := big) cs.length (fun i => (((w : Int), ()), (cs.take i).map (fun c => c.2.1), cs, (cs.length : Int), (i : Int), ())) (fun _ => some (([(packP w (cs.map fun c => c.2.1)).1], (packP w (cs.map fun c => c.2.1)).2.1, ()), (((), ()), (), ()))) (by rw [big_pos]; omega) (fun i hi Rc hRc => ?_) (fun Rc => ?_) : _)
  · unfold I.numbers_build.st3
    simp only [lt_true hi, nn, Bool.and_self, cond_true, Int.toNat_natCast, gd hi]
    rw [ck_true rfl, ck_true (by simp; omega), wr_succ hi (by omega)]
    rw [map_take _ _ _ hi] at hRc
    exact hRc
  · unfold I.numbers_build.st3
    simp only [lt_false (Nat.le_refl _), cond_false, show Nat.beq 0 0 = true from rfl, cond_true, List.take_length]
    rw [I_pack _ w hw (by unfold Sm; simp; omega) (by
      intro x hx
      obtain ⟨c, hc, rfl⟩ := List.mem_map.1 hx
      exact hr c hc)]
    rfl
/-! ### places -/
def numP (vs : List (List Int)) (c : DCell) : Int := bif c.1 then 0 else placeP c.2.2.1 0 vs
def badP (vs : List (List Int)) (c : DCell) : Bool := !c.1 && decide (placeP c.2.2.1 0 vs < 0)
def placesP (vs : List (List Int)) (cs : List DCell) : List (List Int) × Int × Unit := bif cs.any (badP vs) then ([], 1, ()) else ([flatP 1 (cs.map (numP vs))], 0, ())
theorem any_drop {α : Type} (f : α → Bool) (xs : List α) (i : Nat) (h : i < xs.length) : (xs.drop i).any f = (f xs[i] || (xs.drop (i + 1)).any f) := by
  rw [List.drop_eq_getElem_cons h]; rfl
theorem nums_fit {vs : List (List Int)} (hv : vs.length ≤ 40) (cs : List DCell) : (cs.map (numP vs)).all (fitsP 1) = true := by
  rw [List.all_eq_true]
  intro x hx
  obtain ⟨c, hc, rfl⟩ := List.mem_map.1 hx
  have := placeP_bd c.2.2.1 0 vs
  unfold fitsP numP
  simp only [Bool.and_eq_true, decide_eq_true_eq]
  cases c.1
  · simp only [cond_false]; omega
  · simp
theorem nums_R64 {vs : List (List Int)} (hv : vs.length ≤ 40) (cs : List DCell) : ∀ x, x ∈ cs.map (numP vs) → R64 x := by
  intro x hx
  obtain ⟨c, hc, rfl⟩ := List.mem_map.1 hx
  have := placeP_bd c.2.2.1 0 vs
  unfold R64 numP
  cases c.1
  · simp only [cond_false]; omega
  · simp
theorem I_places (vs : List (List Int)) (cs : List DCell) (hl : cs.length ≤ 100) (hv : vs.length ≤ 40) (hbv : ByS vs) (hbc : ∀ c, c ∈ cs → By c.2.2.1) : I.places_build ((vs, ()), cs, ()) = some (placesP vs cs, (((), ()), (), ())) := by
  unfold I.places_build I.places_build.p I.places_build.l3
  refine (rounds_run (fuel := big) cs.length (fun i => ((vs, ()), (cs.take i).map (numP vs), cs, (cs.length : Int), (i : Int), ())) (fun i => some (bif (cs.drop i).any (badP vs) then ([], (1 : Int), ()) else ([flatP 1 (cs.map (numP vs))], 0, ()), (((), ()), (), ()))) (by rw [big_pos]; omega) (fun i hi Rc hRc => ?_) (fun Rc => ?_) : _)
  · unfold I.places_build.st3
    simp only [lt_true hi, nn, Bool.and_self, cond_true, Int.toNat_natCast, gd hi]
    rw [I_place _ _ hbv (hbc _ (List.getElem_mem hi)) (by unfold maxL; omega), Option.bind_some, any_drop _ _ _ hi]
    rw [map_take _ _ _ hi] at hRc
    have e1 : badP vs cs[i] = (!cs[i].1 && decide (placeP cs[i].2.2.1 0 vs < 0)) := rfl
    have e2 : numP vs cs[i] = bif cs[i].1 then 0 else placeP cs[i].2.2.1 0 vs := rfl
    rw [e1]
    rw [e2] at hRc
    cases hc : cs[i].1
    · rw [hc] at hRc
      simp only [Bool.not_false, cond_true, Bool.true_and, ck_true rfl]
      cases decide (placeP cs[i].2.2.1 0 vs < 0)
      · simp only [cond_false, Bool.false_or]
        rw [ck_true (by simp; omega), wr_succ hi (by omega)]
        exact hRc
      · rfl
    · rw [hc] at hRc
      simp only [Bool.not_true, cond_false, Bool.false_and, Bool.false_or, ck_true rfl]
      rw [ck_true (by simp; omega), wr_succ hi (by omega)]
      exact hRc
  · unfold I.places_build.st3
    simp only [lt_false (Nat.le_refl _), cond_false, show Nat.beq 0 0 = true from rfl, cond_true, List.take_length, List.drop_length]
    rw [show (1 : Int) = ((1 : Nat) : Int) from rfl, I_pack _ 1 (by unfold okW; omega) (by unfold Sm; simp; omega) (nums_R64 hv cs)]
    simp [packP, nums_fit hv]
end Go.Ev

