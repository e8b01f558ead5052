/- A text of the claim: plain lemmas of what the functions compute. -/
import Derived.Test.YtkkjheildoclgaaPC
import Derived.Laws.Strings
set_option linter.all false
set_option linter.unusedVariables false
set_option linter.unusedSimpArgs false
set_option autoImplicit false
set_option linter.unusedVariables false
set_option linter.unusedSimpArgs false
namespace Go.Ev
/-! ### bytes -/
def By (xs : List Int) : Prop := ∀ x, x ∈ xs → 0 ≤ x ∧ x ≤ 255
theorem u8_inj {x y : Int} (hx : 0 ≤ x ∧ x ≤ 255) (hy : 0 ≤ y ∧ y ≤ 255) (h : UInt8.ofNat x.toNat = UInt8.ofNat y.toNat) : x = y := by
  have := congrArg UInt8.toNat h
  simp only [UInt8.toNat_ofNat'] at this
  omega
theorem map_u8_inj : ∀ {xs ys : List Int}, By xs → By ys → xs.map (fun n => UInt8.ofNat n.toNat) = ys.map (fun n => UInt8.ofNat n.toNat) → xs = ys
  | [], [], _, _, _ => rfl
  | [], _ :: _, _, _, h => by simp at h
  | _ :: _, [], _, _, h => by simp at h
  | x :: xs, y :: ys, hx, hy, h => by
    simp only [List.map_cons, List.cons.injEq] at h
    rw [u8_inj (hx x (by simp)) (hy y (by simp)) h.1, map_u8_inj (fun z hz => hx z (by simp [hz])) (fun z hz => hy z (by simp [hz])) h.2]
theorem strOf_inj {xs ys : List Int} (hx : By xs) (hy : By ys) : strOf xs = strOf ys ↔ xs = ys := by
  refine ⟨fun h => map_u8_inj hx hy ?_, fun h => by rw [h]⟩
  have := congrArg (fun b => b.data.toList) h
  simpa [strOf, strOfNums] using this
theorem same_str {xs ys : List Int} (hx : By xs) (hy : By ys) : (ByteArray.toList (strOf xs) == ByteArray.toList (strOf ys)) = decide (xs = ys) := by
  rw [ByteArray.toList_eq, ByteArray.toList_eq]
  by_cases h : xs = ys
  · subst h; simp
  · simp only [h, decide_false, beq_eq_false_iff_ne]
    intro h'
    exact h (map_u8_inj hx hy (by simpa [strOf, strOfNums] using h'))
theorem beq_str {xs ys : List Int} (hx : By xs) (hy : By ys) : (strOf xs == strOf ys) = decide (xs = ys) := by
  show ByteArray.beq _ _ = _
  unfold ByteArray.beq
  by_cases h : xs = ys
  · subst h; simp
  · simp only [h, decide_false, beq_eq_false_iff_ne]
    intro h'
    exact h (map_u8_inj hx hy (by simpa [strOf, strOfNums] using h'))

/-! ### names, fields -/
def okc (c : Int) : Bool := (decide (c ≥ 97) && decide (c ≤ 122)) || (decide (c ≥ 65) && decide (c ≤ 90)) || (decide (c ≥ 48) && decide (c ≤ 57)) || (c == 95)
def nameP (xs : List Int) : Bool := decide (1 ≤ xs.length) && decide (xs.length ≤ 20) && xs.all okc
theorem all_drop {α : Type} (f : α → Bool) (xs : List α) (i : Nat) (h : i < xs.length) : (xs.drop i).all f = (f xs[i] && (xs.drop (i + 1)).all f) := by
  rw [List.drop_eq_getElem_cons h]; rfl
theorem S_nameOK (xs : List Int) : S.l2nameOK (xs, ()) = some (nameP xs, ((), ())) := by
  unfold S.l2nameOK S.l2nameOK.p nameP
  by_cases h1 : xs.length < 1
  · have : ¬ 1 ≤ xs.length := by omega
    simp [show ((xs.length : Int) < 1) by omega, this]
  by_cases h2 : xs.length > 20
  · have : ¬ xs.length ≤ 20 := by omega
    simp [show ¬ ((xs.length : Int) < 1) by omega, show ((xs.length : Int) > 20) by omega, this]
  have e1 : decide ((xs.length : Int) < 1) = false := by simp; omega
  have e2 : decide ((xs.length : Int) > 20) = false := by simp; omega
  have e3 : decide (1 ≤ xs.length) = true := by simp; omega
  have e4 : decide (xs.length ≤ 20) = true := by simp; omega
  simp only [e1, e2, e3, e4, Bool.true_and, BEq.rfl, cond_true, cond_false]
  unfold S.l2nameOK.l4
  refine (rounds_run (fuel := big) xs.length (fun i => (xs, (i : Int), ())) (fun i => some ((xs.drop i).all okc, ((), ()))) (by rw [big_pos]; omega) (fun i hi Rc hRc => ?_) (fun Rc => ?_) : _)
  · unfold S.l2nameOK.st4
    simp only [lt_true hi, nn, Bool.and_self, ck, cond_true, Int.toNat_natCast, gd hi]
    rw [wr_succ hi (by omega), hRc, all_drop _ _ _ hi]
    unfold okc
    generalize decide (xs[i] ≥ 97) = a
    generalize decide (xs[i] ≤ 122) = b
    generalize decide (xs[i] ≥ 65) = c
    generalize decide (xs[i] ≤ 90) = d
    generalize decide (xs[i] ≥ 48) = e
    generalize decide (xs[i] ≤ 57) = f
    rw [show (xs[i] != 95) = !(xs[i] == 95) from rfl]
    generalize (xs[i] == 95) = g
    cases a <;> cases b <;> cases c <;> cases d <;> cases e <;> cases f <;> cases g <;> rfl
  · unfold S.l2nameOK.st4
    simp [lt_false (Nat.le_refl _)]
theorem I_nameOk (xs : List Int) : I.nameOk (xs, ()) = some (nameP xs, ((), ())) := by
  unfold I.nameOk I.nameOk.p nameP
  by_cases h1 : xs.length < 1
  · have : ¬ 1 ≤ xs.length := by omega
    simp [show ((xs.length : Int) < 1) by omega, this]
  by_cases h2 : xs.length > 20
  · have : ¬ xs.length ≤ 20 := by omega
    simp [show ¬ ((xs.length : Int) < 1) by omega, show ((xs.length : Int) > 20) by omega, this]
  have e1 : decide ((xs.length : Int) < 1) = false := by simp; omega
  have e2 : decide ((xs.length : Int) > 20) = false := by simp; omega
  have e3 : decide (1 ≤ xs.length) = true := by simp; omega
  have e4 : decide (xs.length ≤ 20) = true := by simp; omega
  simp only [e1, e2, e3, e4, Bool.true_and, BEq.rfl, cond_true, cond_false]
  unfold I.nameOk.l4
  refine (rounds_run (fuel := big) xs.length (fun i => (xs, (xs.length : Int), (i : Int), ())) (fun i => some ((xs.drop i).all okc, ((), ()))) (by rw [big_pos]; omega) (fun i hi Rc hRc => ?_) (fun Rc => ?_) : _)
  · unfold I.nameOk.st4
    simp only [lt_true hi, nn, Bool.and_self, ck, cond_true, Int.toNat_natCast, gd hi]
    rw [wr_succ hi (by omega), hRc, all_drop _ _ _ hi]
    unfold okc
    generalize decide (xs[i] ≥ 97) = a
    generalize decide (xs[i] ≤ 122) = b
    generalize decide (xs[i] ≥ 65) = c
    generalize decide (xs[i] ≤ 90) = d
    generalize decide (xs[i] ≥ 48) = e
    generalize decide (xs[i] ≤ 57) = f
    generalize (xs[i] == 95) = g
    cases a <;> cases b <;> cases c <;> cases d <;> cases e <;> cases f <;> cases g <;> rfl
  · unfold I.nameOk.st4
    simp [lt_false (Nat.le_refl _)]
def widthP (w : Int) : Bool := (w == 1) || (w == 2) || (w == 4) || (w == 8)
theorem S_width (w : Int) : S.l1width (w, ()) = some (widthP w, ((), ())) := by
  unfold S.l1width widthP
  dsimp only
  generalize (w == 1) = a
  generalize (w == 2) = b
  generalize (w == 4) = c
  generalize (w == 8) = d
  cases a <;> cases b <;> cases c <;> cases d <;> rfl
def fieldP (f : DField) : Bool := nameP f.1 && ((f.2.1 == 1 && widthP f.2.2.1) || ((f.2.1 == 0 || f.2.1 == 2 || f.2.1 == 3) && f.2.2.1 == 0))
theorem S_field (f : DField) : S.l2fieldOK (f, ()) = some (fieldP f, (((), (), (), ()), ())) := by
  unfold S.l2fieldOK fieldP
  dsimp only
  rw [S_nameOK, Option.bind_some]
  cases nameP f.1
  · rfl
  simp only [Bool.not_true, BEq.rfl, cond_true, Bool.true_and]
  by_cases h0 : f.2.1 < 0
  · have k0 : (f.2.1 == 0) = false := by simp; omega
    have k1 : (f.2.1 == 1) = false := by simp; omega
    have k2 : (f.2.1 == 2) = false := by simp; omega
    have k3 : (f.2.1 == 3) = false := by simp; omega
    simp [h0, k0, k1, k2, k3]
  by_cases h3 : f.2.1 > 3
  · have k0 : (f.2.1 == 0) = false := by simp; omega
    have k1 : (f.2.1 == 1) = false := by simp; omega
    have k2 : (f.2.1 == 2) = false := by simp; omega
    have k3 : (f.2.1 == 3) = false := by simp; omega
    simp [h0, h3, k0, k1, k2, k3]
  have : f.2.1 = 0 ∨ f.2.1 = 1 ∨ f.2.1 = 2 ∨ f.2.1 = 3 := by omega
  rcases this with h | h | h | h <;> simp [h, S_width]
theorem I_field (f : DField) : I.fieldOk (f, ()) = some (fieldP f, (((), (), (), ()), ())) := by
  unfold I.fieldOk fieldP widthP
  dsimp only
  rw [I_nameOk, Option.bind_some]
  generalize (f.2.2.1 == 0) = v
  generalize (f.2.2.1 == 1) = w
  generalize (f.2.2.1 == 2) = x
  generalize (f.2.2.1 == 4) = y
  generalize (f.2.2.1 == 8) = z
  cases nameP f.1
  · rfl
  by_cases h1 : f.2.1 = 1
  · simp [h1]; cases w <;> cases x <;> cases y <;> cases z <;> rfl
  by_cases h0 : f.2.1 = 0
  · simp [h0]
  by_cases h2 : f.2.1 = 2
  · simp [h2]
  by_cases h3 : f.2.1 = 3
  · simp [h3]
  have k0 : (f.2.1 == 0) = false := by simp; omega
  have k1 : (f.2.1 == 1) = false := by simp; omega
  have k2 : (f.2.1 == 2) = false := by simp; omega
  have k3 : (f.2.1 == 3) = false := by simp; omega
  simp [k0, k1, k2, k3]

/-! ### dictionaries -/
def placeP (d : List Int) : Nat → List (List Int) → Int
  | _, [] => -1
  | i, e :: r => bif decide (e = d) then i else placeP d (i + 1) r
def ByS (xs : List (List Int)) : Prop := ∀ x, x ∈ xs → By x
theorem placeP_drop (d : List Int) (xs : List (List Int)) (i : Nat) (h : i < xs.length) : placeP d i (xs.drop i) = bif decide (xs[i] = d) then (i : Int) else placeP d (i + 1) (xs.drop (i + 1)) := by
  rw [List.drop_eq_getElem_cons h]; rfl
theorem S_place (xs : List (List Int)) (d : List Int) (hx : ByS xs) (hd : By d) (hl : xs.length ≤ maxL) : S.l2place (xs, d, ()) = some (placeP d 0 xs, ((), (), ())) := by
  unfold maxL at hl
  unfold S.l2place S.l2place.p S.l2place.l2
  refine (rounds_run (fuel := big) xs.length (fun i => (xs, d, (i : Int), ())) (fun i => some (placeP d i (xs.drop i), ((), (), ()))) (by rw [big_pos]; omega) (fun i hi Rc hRc => ?_) (fun Rc => ?_) : _)
  · unfold S.l2place.st2 S.l1same
    simp only [lt_true hi, nn, Bool.and_self, ck, cond_true, Int.toNat_natCast, gd hi, Option.bind_some]
    rw [wr_succ hi (by omega), hRc, same_str (hx _ (List.getElem_mem hi)) hd, placeP_drop _ _ _ hi]
    cases decide (xs[i] = d) <;> rfl
  · unfold S.l2place.st2
    simp [lt_false (Nat.le_refl _), placeP]
theorem I_place (xs : List (List Int)) (d : List Int) (hx : ByS xs) (hd : By d) (hl : xs.length ≤ maxL) : I.placeOf (xs, d, ()) = some (placeP d 0 xs, ((), (), ())) := by
  unfold maxL at hl
  unfold I.placeOf B.slices_IndexFunc_byte_placeOf_f1 B.slices_IndexFunc_byte_placeOf_f1.p B.slices_IndexFunc_byte_placeOf_f1.l2
  dsimp only
  rw [show rounds B.slices_IndexFunc_byte_placeOf_f1.st2 big (fun (i2 : Nat) (y2 : Unit) => bif Nat.beq i2 0 then some ((-1 : Int), ((), (), ())) else none) (xs, (d, ()), (xs.length : Int), 0, ()) = some (placeP d 0 xs, ((), (), ())) from rounds_run (fuel := big) (X := fun (i2 : Nat) (y2 : Unit) => bif Nat.beq i2 0 then some ((-1 : Int), ((), (), ())) else none) xs.length (fun i => (xs, (d, ()), (xs.length : Int), (i : Int), ())) (fun i => some (placeP d i (xs.drop i), ((), (), ()))) (by rw [big_pos]; omega) (fun i hi Rc hRc => ?_) (fun Rc => ?_)]
  · rfl
  · unfold B.slices_IndexFunc_byte_placeOf_f1.st2 I.placeOf_f1 B.bytes_Equal
    simp only [lt_true hi, nn, Bool.and_self, ck, cond_true, Int.toNat_natCast, gd hi, Option.bind_some]
    rw [wr_succ hi (by omega), hRc, same_str (hx _ (List.getElem_mem hi)) hd, placeP_drop _ _ _ hi]
    cases decide (xs[i] = d) <;> rfl
  · unfold B.slices_IndexFunc_byte_placeOf_f1.st2
    simp [lt_false (Nat.le_refl _), placeP]
theorem placeP_bd (d : List Int) : ∀ (i : Nat) (xs : List (List Int)), -1 ≤ placeP d i xs ∧ placeP d i xs < i + xs.length
  | i, [] => by simp [placeP]; omega
  | i, e :: r => by
    have := placeP_bd d (i + 1) r
    unfold placeP
    cases decide (e = d)
    · simp only [cond_false, List.length_cons]; omega
    · simp only [cond_true, List.length_cons]; omega
theorem placeP_mem (d : List Int) : ∀ (i : Nat) (xs : List (List Int)), decide (placeP d i xs ≥ 0) = xs.contains d
  | i, [] => by simp [placeP]
  | i, e :: r => by
    have := placeP_mem d (i + 1) r
    unfold placeP
    rw [List.contains_cons]
    by_cases h : e = d
    · simp [h]
    · simp only [h, decide_false, cond_false, this]
      rw [show (d == e) = false by simp; exact fun h' => h h'.symm]
      rfl
def dI (pre : List (List Int)) : List (List Int) → Bool
  | [] => true
  | d :: r => !pre.contains d && dI (pre ++ [d]) r
def tot : List (List Int) → Nat
  | [] => 0
  | d :: r => d.length + tot r
theorem tot_app : ∀ (xs ys : List (List Int)), tot (xs ++ ys) = tot xs + tot ys
  | [], ys => by simp [tot]
  | x :: xs, ys => by simp only [List.cons_append, tot, tot_app xs ys]; omega
theorem tot_take (xs : List (List Int)) (i : Nat) (h : i < xs.length) : tot (xs.take (i + 1)) = tot (xs.take i) + xs[i].length := by
  rw [List.take_succ_eq_append_getElem h, tot_app]; simp [tot]
def dS (s : Nat) (pre : List (List Int)) : List (List Int) → Bool
  | [] => true
  | d :: r => decide (s + d.length ≤ 4000) && (!pre.contains d && dS (s + d.length) (pre ++ [d]) r)
theorem dS_eq : ∀ (s : Nat) (pre xs : List (List Int)), s ≤ 4000 → dS s pre xs = (dI pre xs && decide (s + tot xs ≤ 4000))
  | s, pre, [], h => by simp [dS, dI, tot, h]
  | s, pre, d :: r, h => by
    unfold dS dI tot
    by_cases h1 : s + d.length ≤ 4000
    · rw [dS_eq _ _ r h1, Nat.add_assoc]; simp [show s + d.length ≤ 4000 from h1, Bool.and_assoc]
    · simp [h1, show ¬ s + (d.length + tot r) ≤ 4000 by omega]
def dictP (xs : List (List Int)) : Bool := decide (xs.length ≤ 40) && (dI [] xs && decide (tot xs ≤ 4000))
theorem tot_bd : ∀ {xs : List (List Int)}, (∀ x, x ∈ xs → Sm x) → tot xs ≤ 1048576 * xs.length
  | [], _ => by simp [tot]
  | x :: r, h => by
    have h1 := tot_bd (xs := r) fun y hy => h y (by simp [hy])
    have h2 := h x (by simp)
    unfold Sm at h2
    simp only [tot, List.length_cons]; omega
theorem SmL.mem {xs : List (List Int)} (h : SmL xs) : ∀ x, x ∈ xs → Sm x := fun x hx => by
  obtain ⟨i, hi, rfl⟩ := List.getElem_of_mem hx
  exact h.2 i hi
theorem tot_bd' {xs : List (List Int)} (h : SmL xs) (i : Nat) : tot (xs.take i) ≤ 1099511627776 := by
  have := tot_bd (h.take i).mem
  have := (h.take i).1
  omega
theorem S_dict (xs : List (List Int)) (hx : ByS xs) (hl : SmL xs) : S.ValidDict (xs, ()) = some (dictP xs, ((), ())) := by
  have hl1 := hl.1
  unfold S.ValidDict S.ValidDict.p dictP
  by_cases h : xs.length ≤ 40
  · have e : decide ((xs.length : Int) > 40) = false := by simp; omega
    simp only [e, cond_false, h, decide_true, Bool.true_and]
    rw [show (dI [] xs && decide (tot xs ≤ 4000)) = dS 0 [] xs by rw [dS_eq 0 [] xs (by omega)]; simp]
    unfold S.ValidDict.l5
    refine (rounds_run (fuel := big) xs.length (fun i => (xs, (tot (xs.take i) : Int), (i : Int), ())) (fun i => some (dS (tot (xs.take i)) (xs.take i) (xs.drop i), ((), ()))) (by rw [big_pos]; omega) (fun i hi Rc hRc => ?_) (fun Rc => ?_) : _)
    · unfold S.ValidDict.st5
      have hb := tot_bd' hl i
      have hb2 := hl.2 i hi
      unfold Sm at hb2
      simp only [lt_true hi, nn, Bool.and_self, ck, cond_true, Int.toNat_natCast, gd hi]
      rw [wr_i64 _ (by omega) (by omega)]
      rw [List.drop_eq_getElem_cons hi]
      unfold dS
      by_cases h1 : tot (xs.take i) + xs[i].length ≤ 4000
      · have e1 : decide ((tot (xs.take i) : Int) + (xs[i].length : Int) > 4000) = false := by simp; omega
        have e2 : decide ((i : Int) ≤ (xs.length : Int)) = true := by simp; omega
        simp only [e1, e2, BEq.rfl, cond_true, h1, decide_true, Bool.true_and, show decide ((0 : Int) ≤ 0) = true from rfl, Int.toNat_zero, List.drop_zero]
        rw [S_place _ _ (fun x hx' => hx x (List.mem_of_mem_take hx')) (hx _ (List.getElem_mem hi)) (by simp; unfold maxL; omega), Option.bind_some]
        simp only []
        rw [placeP_mem]
        cases (xs.take i).contains xs[i]
        · simp only [cond_false, Bool.not_false, Bool.true_and]
          rw [wr_succ hi (by omega)]
          rw [tot_take _ _ hi, List.take_succ_eq_append_getElem hi] at hRc
          exact hRc
        · rfl
      · have e1 : decide ((tot (xs.take i) : Int) + (xs[i].length : Int) > 4000) = true := by simp; omega
        simp [e1, h1]
    · unfold S.ValidDict.st5
      simp [lt_false (Nat.le_refl _), dS]
  · have e : decide ((xs.length : Int) > 40) = true := by simp; omega
    simp [e, h]
/-- the map after the first ones -/
def mpP : Nat → List (List Int) → List (ByteArray × Int)
  | _, [] => []
  | i, d :: r => (strOf d, (i : Int)) :: mpP (i + 1) r
theorem mpP_app : ∀ (i : Nat) (xs : List (List Int)) (d : List Int), mpP i (xs ++ [d]) = mpP i xs ++ [(strOf d, ((i + xs.length : Nat) : Int))]
  | i, [], d => by simp [mpP]
  | i, x :: xs, d => by simp only [List.cons_append, mpP, mpP_app (i + 1) xs d, List.length_cons, List.cons.injEq, true_and]; congr 4; omega
theorem mhas_mpP (d : List Int) (hd : By d) : ∀ (i : Nat) (xs : List (List Int)), ByS xs → mhas (strOf d) (mpP i xs) = xs.contains d
  | i, [], _ => rfl
  | i, x :: xs, h => by
    simp only [mpP, mhas, List.contains_cons]
    rw [mhas_mpP d hd (i + 1) xs fun y hy => h y (by simp [hy]), beq_str hd (h x (by simp))]
    by_cases e : d = x <;> simp [e]
theorem mput_new (d : ByteArray) (v : Int) : ∀ (m : List (ByteArray × Int)), mhas d m = false → mput d v m = m ++ [(d, v)]
  | [], _ => rfl
  | e :: r, h => by
    simp only [mhas, Bool.or_eq_false_iff] at h
    simp only [mput, h.1, cond_false, mput_new d v r h.2, List.cons_append]
theorem I_dict (xs : List (List Int)) (hx : ByS xs) (hl : SmL xs) : I.ValidDict (xs, ()) = some (dictP xs, ((), ())) := by
  have hl1 := hl.1
  unfold I.ValidDict I.ValidDict.p dictP
  by_cases h : xs.length ≤ 40
  · have e : decide ((xs.length : Int) > 40) = false := by simp; omega
    simp only [e, cond_false, h, decide_true, Bool.true_and]
    unfold I.ValidDict.l5
    refine (rounds_run (fuel := big) xs.length (fun i => (mpP 0 (xs.take i), (tot (xs.take i) : Int), xs, (xs.length : Int), (i : Int), ())) (fun i => some (dI (xs.take i) (xs.drop i) && decide (tot xs ≤ 4000), ((), ()))) (by rw [big_pos]; omega) (fun i hi Rc hRc => ?_) (fun Rc => ?_) : _)
    · unfold I.ValidDict.st5
      have hb := tot_bd' hl i
      have hb2 := hl.2 i hi
      unfold Sm at hb2
      simp only [lt_true hi, nn, Bool.and_self, ck, cond_true, Int.toNat_natCast, gd hi]
      rw [wr_i64 _ (by omega) (by omega)]
      rw [mhas_mpP _ (hx _ (List.getElem_mem hi)) 0 _ (fun x hx' => hx x (List.mem_of_mem_take hx')), List.drop_eq_getElem_cons hi]
      unfold dI
      cases hc : (xs.take i).contains xs[i]
      · simp only [cond_false, Bool.not_false, Bool.true_and]
        rw [mput_new _ _ _ (by rw [mhas_mpP _ (hx _ (List.getElem_mem hi)) 0 _ (fun x hx' => hx x (List.mem_of_mem_take hx')), hc])]
        rw [tot_take _ _ hi, List.take_succ_eq_append_getElem hi, mpP_app, take_len (by omega), Nat.zero_add] at hRc
        rw [wr_succ hi (by omega)]
        exact hRc
      · rfl
    · unfold I.ValidDict.st5
      have e : decide (((tot xs : Nat) : Int) ≤ 4000) = decide (tot xs ≤ 4000) := by
        by_cases h4 : tot xs ≤ 4000
        · simp [h4]; omega
        · simp [h4]; omega
      simp [lt_false (Nat.le_refl _), dI]
      omega
  · have e : decide ((xs.length : Int) > 40) = true := by simp; omega
    simp [e, h]
end Go.Ev

