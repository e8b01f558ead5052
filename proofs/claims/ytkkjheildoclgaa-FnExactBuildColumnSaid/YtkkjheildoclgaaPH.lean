/- A text of the claim: plain lemmas of what the functions compute. -/
import Derived.Test.YtkkjheildoclgaaPG
set_option linter.all false
set_option linter.unusedVariables false
set_option linter.unusedSimpArgs false
set_option autoImplicit false
set_option linter.unusedVariables false
set_option linter.unusedSimpArgs false
namespace Go.Ev
def Pre (cs : List DCell) (vs : List (List Int)) : Prop := SmCells cs ∧ totC cs ≤ 1048576 ∧ SmL vs ∧ ByS vs ∧ ∀ c, c ∈ cs → By c.2.2.1 ∧ R64 c.2.1
theorem tot_txt : ∀ (cs : List DCell), tot (txt cs) = totC cs
  | [] => rfl
  | c :: r => by
    have := tot_txt r
    unfold txt at this ⊢
    simp only [List.map_cons, tot, totC, this]
def bodyP (f : DField) (cs : List DCell) (vs : List (List Int)) : List (List Int) × Int × Unit :=
  bif f.2.1 == 0 then ([valP cs, bitsP (cs.map fun c => c.2.1 == 1)], 0, ())
  else bif f.2.1 == 2 then ([valP cs, flatP 4 (endsP (txt cs)), (txt cs).flatten], 0, ())
  else bif f.2.1 == 3 then (bif cs.any (badP vs) then ([], 1, ()) else ([valP cs, flatP 1 (cs.map (numP vs))], 0, ()))
  else ([valP cs, flatP (wN f) (cs.map fun c => c.2.1)], 0, ())
def buildP (f : DField) (cs : List DCell) (vs : List (List Int)) : List (List Int) × Int × Unit :=
  bif (fieldP f && (decide (cs.length ≤ 100) && cs.all (cellP f))) && dictP vs then bodyP f cs vs else ([], 1, ())
def nS (f : DField) (vs : List (List Int)) (c : DCell) : Int := bif f.2.1 == 3 then numP vs c else c.2.1
def bS (f : DField) (vs : List (List Int)) (c : DCell) : Bool := f.2.1 == 3 && badP vs c
theorem S_loop (f : DField) (cs : List DCell) (vs out : List (List Int)) (X : Nat → S.BuildColumn.E8 → Option S.BuildColumn.R) (hl : cs.length ≤ 100) (hv : vs.length ≤ 40) (hbv : ByS vs) (hbc : ∀ c, c ∈ cs → By c.2.2.1) :
    rounds S.BuildColumn.st8 big X (cs, vs, f, out, [], [], [], 0, ()) = bif cs.any (bS f vs) then some (([], 1, ()), (((), (), (), ()), (), (), ())) else X 0 (f, out, cs.map (fun c => c.2.1 == 1), cs.map (nS f vs), txt cs, ()) := by
  refine (rounds_run (fuel := big) (X := X) cs.length (fun i => (cs, vs, f, out, (cs.take i).map (fun c => c.2.1 == 1), (cs.take i).map (nS f vs), txt (cs.take i), (i : Int), ())) (fun i => bif (cs.drop i).any (bS f vs) then some (([], (1 : Int), ()), (((), (), (), ()), (), (), ())) else X 0 (f, out, cs.map (fun c => c.2.1 == 1), cs.map (nS f vs), txt cs, ())) (by rw [big_pos]; omega) (fun i hi Rc hRc => ?_) (fun Rc => ?_) : _)
  · unfold S.BuildColumn.st8
    simp only [lt_true hi, nn, Bool.and_self, cond_true, Int.toNat_natCast, gd hi]
    rw [ck_true rfl, ck_true (by simp; omega), ck_true (by simp [txt]; omega), wr_succ hi (by omega), any_drop _ _ _ hi]
    unfold txt at hRc ⊢
    rw [map_take _ _ _ hi, map_take _ _ _ hi, map_take _ _ _ hi] at hRc
    have e1 : bS f vs cs[i] = (f.2.1 == 3 && badP vs cs[i]) := rfl
    have e2 : nS f vs cs[i] = bif f.2.1 == 3 then numP vs cs[i] else cs[i].2.1 := rfl
    rw [e1]
    rw [e2] at hRc
    rw [show (f.2.1 != 3) = !(f.2.1 == 3) from rfl]
    cases hk : (f.2.1 == 3)
    · rw [hk] at hRc
      simp only [Bool.not_false, cond_true, Bool.false_and, Bool.false_or]
      rw [ck_true (by simp; omega)]
      exact hRc
    · rw [hk] at hRc
      simp only [Bool.not_true, cond_false, Bool.true_and]
      have e1 : badP vs cs[i] = (!cs[i].1 && decide (placeP cs[i].2.2.1 0 vs < 0)) := rfl
      have e2 : numP vs cs[i] = bif cs[i].1 then 0 else placeP cs[i].2.2.1 0 vs := rfl
      rw [e1]
      rw [cond_true, e2] at hRc
      cases hc : cs[i].1
      · rw [hc] at hRc
        simp only [cond_false, Bool.not_false, Bool.true_and]
        rw [S_place _ _ hbv (hbc _ (List.getElem_mem hi)) (by unfold maxL; omega), Option.bind_some]
        simp only []
        cases decide (placeP cs[i].2.2.1 0 vs < 0)
        · simp only [cond_false, Bool.false_or]
          rw [ck_true (by simp; omega)]
          exact hRc
        · rfl
      · rw [hc] at hRc
        simp only [cond_true, Bool.not_true, Bool.false_and, Bool.false_or]
        rw [ck_true (by simp; omega)]
        exact hRc
  · unfold S.BuildColumn.st8
    simp only [lt_false (Nat.le_refl _), cond_false, List.take_length, List.drop_length, List.any_nil]
theorem fields_kind {f : DField} (h : fieldP f = true) : f.2.1 = 0 ∨ f.2.1 = 1 ∨ f.2.1 = 2 ∨ f.2.1 = 3 := by
  unfold fieldP at h
  simp at h
  omega
theorem cells_fit {f : DField} {cs : List DCell} (hf : fieldP f = true) (h1 : f.2.1 = 1) (h : cs.all (cellP f) = true) : (cs.map fun c => c.2.1).all (fitsP (wN f)) = true := by
  rw [List.all_eq_true] at h ⊢
  intro x hx
  obtain ⟨c, hc, rfl⟩ := List.mem_map.1 hx
  have := h c hc
  unfold cellP at this
  obtain ⟨hw, _⟩ := field_w hf h1
  rw [h1] at this
  cases hn : c.1
  · rw [hn] at this
    simp only [cond_false, show ((1 : Int) == 0) = false from rfl, show ((1 : Int) == 1) = true from rfl, cond_true, Bool.and_eq_true] at this
    exact this.1
  · rw [hn] at this
    simp only [cond_true, Bool.and_eq_true, beq_iff_eq] at this
    rw [this.1]
    rcases hw with h | h | h | h <;> rw [h] <;> rfl
theorem S_build (f : DField) (cs : List DCell) (vs : List (List Int)) (h : Pre cs vs) : S.BuildColumn (f, cs, vs, ()) = some (buildP f cs vs, (((), (), (), ()), (), (), ())) := by
  obtain ⟨h1, h2, h3, h4, h5⟩ := h
  unfold S.BuildColumn S.BuildColumn.p buildP
  dsimp only
  rw [show (f.1, f.2.1, f.2.2.1, ()) = f from rfl, S_cells f cs (by unfold maxL; have := h1.1; omega), Option.bind_some]
  cases hc : (fieldP f && (decide (cs.length ≤ 100) && cs.all (cellP f)))
  · rfl
  simp only [Bool.and_eq_true, decide_eq_true_eq] at hc
  obtain ⟨hf, hl, hcs⟩ := hc
  simp only [Bool.not_true, BEq.rfl, cond_true, Bool.true_and]
  rw [S_dict vs h4 h3, Option.bind_some]
  cases hd : dictP vs
  · rfl
  have hv : vs.length ≤ 40 := by
    unfold dictP at hd
    simp only [Bool.and_eq_true, decide_eq_true_eq] at hd
    exact hd.1
  simp only [Bool.not_true, cond_false, cond_true]
  rw [S_val cs hl, Option.bind_some]
  unfold S.BuildColumn.l8
  rw [S_loop f cs vs [valP cs] _ hl hv h4 fun c hc => (h5 c hc).1]
  unfold bodyP
  rcases fields_kind hf with k | k | k | k
  · have eb : cs.any (bS f vs) = false := by rw [List.any_eq_false]; intro c _; simp [bS, k]
    rw [eb]
    simp only [k, cond_false, show Nat.beq 0 0 = true from rfl, cond_true, show ((0 : Int) == 0) = true from rfl]
    rw [S_bits _ (by simp; omega)]
    rfl
  · have eb : cs.any (bS f vs) = false := by rw [List.any_eq_false]; intro c _; simp [bS, k]
    have en : cs.map (nS f vs) = cs.map fun c => c.2.1 := by apply List.map_congr_left; intro c _; simp [nS, k]
    obtain ⟨hw, ew⟩ := field_w hf k
    rw [eb, en]
    simp only [k, cond_false, show Nat.beq 0 0 = true from rfl, cond_true, show ((1 : Int) == 0) = false from rfl, show ((1 : Int) == 2) = false from rfl, show ((1 : Int) == 3) = false from rfl]
    rw [ew, S_pack _ _ hw (by unfold Sm; simp; omega)]
    simp only [packP, cells_fit hf k hcs, cond_true, Option.bind_some]
    rfl
  · have eb : cs.any (bS f vs) = false := by rw [List.any_eq_false]; intro c _; simp [bS, k]
    rw [eb]
    simp only [k, cond_false, show Nat.beq 0 0 = true from rfl, cond_true, show ((2 : Int) == 0) = false from rfl, show ((2 : Int) == 2) = true from rfl]
    rw [S_text _ (by rw [txt_len]; omega) (by rw [tot_txt]; omega)]
    rfl
  · have eb : cs.any (bS f vs) = cs.any (badP vs) := by congr 1; funext c; simp [bS, k]
    have en : cs.map (nS f vs) = cs.map (numP vs) := by apply List.map_congr_left; intro c _; simp [nS, k]
    rw [eb, en]
    simp only [k, show Nat.beq 0 0 = true from rfl, cond_true, cond_false, show ((3 : Int) == 0) = false from rfl, show ((3 : Int) == 2) = false from rfl, show ((3 : Int) == 3) = true from rfl]
    cases cs.any (badP vs)
    · simp only [cond_false]
      rw [show (1 : Int) = ((1 : Nat) : Int) from rfl, S_pack _ 1 (by unfold okW; omega) (by unfold Sm; simp; omega)]
      simp only [packP, nums_fit hv, cond_true, Option.bind_some]
      rfl
    · rfl
theorem I_loop (f : DField) (cs : List DCell) (vs : List (List Int)) (X : Nat → I.BuildColumn.E5 → Option I.BuildColumn.R) (hf : fieldP f = true) (hl : cs.length ≤ 100) (hr : ∀ c, c ∈ cs → R64 c.2.1) :
    rounds I.BuildColumn.st5 big X (cs, vs, f, [], cs, (cs.length : Int), 0, ()) = bif cs.all (cellP f) then X 0 (cs, vs, f, cs.map (fun c => !c.1), ()) else some (([], 1, ()), (((), (), (), ()), (), (), ())) := by
  refine (rounds_run (fuel := big) (X := X) cs.length (fun i => (cs, vs, f, (cs.take i).map (fun c => !c.1), cs, (cs.length : Int), (i : Int), ())) (fun i => bif (cs.drop i).all (cellP f) then X 0 (cs, vs, f, cs.map (fun c => !c.1), ()) else some (([], (1 : Int), ()), (((), (), (), ()), (), (), ()))) (by rw [big_pos]; omega) (fun i hi Rc hRc => ?_) (fun Rc => ?_) : _)
  · unfold I.BuildColumn.st5
    simp only [lt_true hi, nn, Bool.and_self, cond_true, Int.toNat_natCast, gd hi]
    rw [ck_true rfl, show (f.1, f.2.1, f.2.2.1, ()) = f from rfl, show (cs[i].1, cs[i].2.1, cs[i].2.2.1, ()) = cs[i] from rfl, I_cell _ _ hf (hr _ (List.getElem_mem hi)), Option.bind_some, all_drop _ _ _ hi]
    rw [map_take _ _ _ hi] at hRc
    cases cellP f cs[i]
    · rfl
    · simp only [Bool.not_true, cond_false, Bool.true_and]
      rw [ck_true (by simp; omega), wr_succ hi (by omega)]
      exact hRc
  · unfold I.BuildColumn.st5
    simp only [lt_false (Nat.le_refl _), cond_false, List.take_length, List.drop_length, List.all_nil, cond_true]
theorem val_flags (cs : List DCell) : (cs.map fun c => !c.1).all id = cs.all fun c => !c.1 := by
  rw [List.all_map]; rfl
theorem I_build (f : DField) (cs : List DCell) (vs : List (List Int)) (h : Pre cs vs) : I.BuildColumn (f, cs, vs, ()) = some (buildP f cs vs, (((), (), (), ()), (), (), ())) := by
  obtain ⟨h1, h2, h3, h4, h5⟩ := h
  have hls := h1.1
  unfold I.BuildColumn I.BuildColumn.p buildP
  dsimp only
  rw [show (f.1, f.2.1, f.2.2.1, ()) = f from rfl, I_field f, Option.bind_some]
  cases hf : fieldP f
  · rfl
  simp only [Bool.not_true, BEq.rfl, cond_true, Bool.true_and]
  rw [I_dict vs h4 h3, Option.bind_some]
  cases hd : dictP vs
  · simp
  have hv : vs.length ≤ 40 := by
    unfold dictP at hd
    simp only [Bool.and_eq_true, decide_eq_true_eq] at hd
    exact hd.1
  simp only [Bool.not_true, cond_true, BEq.rfl, Bool.and_true]
  by_cases hl : cs.length ≤ 100
  case neg => simp [show (cs.length : Int) > 100 by omega, hl]
  simp only [show decide ((cs.length : Int) > 100) = false by simp; omega, cond_false, hl, decide_true, Bool.true_and]
  unfold I.BuildColumn.l5
  rw [I_loop f cs vs _ hf hl fun c hc => (h5 c hc).2]
  cases hcs : cs.all (cellP f)
  · rfl
  simp only [cond_true, show Nat.beq 0 0 = true from rfl]
  rw [I_contains _ (by simp; unfold maxL; omega), Option.bind_some, val_flags, I_bits _ (by simp; omega), show (f.1, f.2.1, f.2.2.1, ()) = f from rfl]
  unfold bodyP valP I.builderOf
  rcases fields_kind hf with k | k | k | k
  · simp only [k, cond_true, show ((0 : Int) == 0) = true from rfl, Option.bind_some]
    rw [I_bools cs hl]
    cases cs.all fun c => !c.1 <;> rfl
  · obtain ⟨hw, ew⟩ := field_w hf k
    simp only [k, cond_true, cond_false, show ((1 : Int) == 0) = false from rfl, show ((1 : Int) == 1) = true from rfl, show ((1 : Int) == 2) = false from rfl, show ((1 : Int) == 3) = false from rfl, Option.bind_some]
    rw [ew, I_nums cs _ hw hl fun c hc => (h5 c hc).2]
    simp only [packP, cells_fit hf k hcs, cond_true, Option.bind_some]
    cases cs.all fun c => !c.1 <;> rfl
  · simp only [k, cond_true, cond_false, show ((2 : Int) == 0) = false from rfl, show ((2 : Int) == 1) = false from rfl, show ((2 : Int) == 2) = true from rfl, show ((2 : Int) == 3) = false from rfl, Option.bind_some]
    rw [I_text cs hl (by rw [tot_txt]; omega)]
    cases cs.all fun c => !c.1 <;> rfl
  · simp only [k, cond_true, cond_false, show ((3 : Int) == 0) = false from rfl, show ((3 : Int) == 1) = false from rfl, show ((3 : Int) == 2) = false from rfl, show ((3 : Int) == 3) = true from rfl, Option.bind_some]
    rw [I_places vs cs hl hv h4 fun c hc => (h5 c hc).1]
    unfold placesP
    cases cs.any (badP vs)
    · cases cs.all fun c => !c.1 <;> rfl
    · cases cs.all fun c => !c.1 <;> rfl
/-! ### the size of what comes -/
theorem bits_len (bs : List Bool) : (bitsP bs).length = (bs.length + 7) / 8 := by simp [bitsP]
theorem val_sm (cs : List DCell) (hl : cs.length ≤ 100) : Sm (valP cs) := by
  unfold valP Sm
  cases cs.all fun c => !c.1
  · simp [bits_len]; omega
  · simp
theorem flat_sm (w : Nat) (hw : w ≤ 8) (xs : List Int) (hl : xs.length ≤ 101) : Sm (flatP w xs) := by
  unfold Sm
  rw [flatP_len]
  have : w * xs.length ≤ 8 * 101 := Nat.mul_le_mul hw hl
  omega
theorem build_sm (f : DField) (cs : List DCell) (vs : List (List Int)) (h : Pre cs vs) : SmL (buildP f cs vs).1 := by
  obtain ⟨h1, h2, h3, h4, h5⟩ := h
  have nil : SmL [] := ⟨by simp, by simp⟩
  have two : ∀ {a b : List Int}, Sm a → Sm b → SmL [a, b] := fun ha hb => ⟨by simp, fun i hi => by
    match i, hi with
    | 0, _ => exact ha
    | 1, _ => exact hb⟩
  have three : ∀ {a b c : List Int}, Sm a → Sm b → Sm c → SmL [a, b, c] := fun ha hb hc => ⟨by simp, fun i hi => by
    match i, hi with
    | 0, _ => exact ha
    | 1, _ => exact hb
    | 2, _ => exact hc⟩
  unfold buildP
  cases hc : ((fieldP f && (decide (cs.length ≤ 100) && cs.all (cellP f))) && dictP vs)
  · exact nil
  simp only [Bool.and_eq_true, decide_eq_true_eq] at hc
  obtain ⟨⟨hf, hl, hcs⟩, hd⟩ := hc
  have hval := val_sm cs hl
  simp only [cond_true]
  unfold bodyP
  rcases fields_kind hf with k | k | k | k
  · simp only [k, cond_true, show ((0 : Int) == 0) = true from rfl]
    exact two hval (by unfold Sm; simp [bits_len]; omega)
  · obtain ⟨hw, ew⟩ := field_w hf k
    simp only [k, cond_false, show ((1 : Int) == 0) = false from rfl, show ((1 : Int) == 2) = false from rfl, show ((1 : Int) == 3) = false from rfl]
    exact two hval (flat_sm _ hw.le _ (by simp; omega))
  · simp only [k, cond_true, cond_false, show ((2 : Int) == 0) = false from rfl, show ((2 : Int) == 2) = true from rfl]
    exact three hval (flat_sm _ (by omega) _ (by simp [endsP, txt_len]; omega)) (by unfold Sm; rw [flat_len, tot_txt]; omega)
  · simp only [k, cond_true, cond_false, show ((3 : Int) == 0) = false from rfl, show ((3 : Int) == 2) = false from rfl, show ((3 : Int) == 3) = true from rfl]
    cases cs.any (badP vs)
    · exact two hval (flat_sm _ (by omega) _ (by simp; omega))
    · exact nil
end Go.Ev
