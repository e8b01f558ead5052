/- A text of the claim: plain lemmas of what the functions compute. -/
import Derived.Test.YtkkjheildoclgaaPK
import Derived.Test.YtkkjheildoclgaaPG
set_option linter.all false
set_option linter.unusedVariables false
set_option linter.unusedSimpArgs false
set_option autoImplicit false
set_option linter.unusedVariables false
set_option linter.unusedSimpArgs false
namespace Go.Ev
/-! ### packets -/
def pktP (p : DPacket) : Bool :=
  !decide (p.1 < 1) && (!decide (p.1 > 4) && (!decide (p.2.1 < 1) && (!decide (p.2.1 > 1000000000) && (!decide (p.2.2.1 < 0) && (!decide (p.2.2.1 > 1000000000000) && (!decide (p.2.2.2.1 < 0) && (!decide (p.2.2.2.1 > 1000000000) &&
  (bif p.1 == 1 then decide (p.2.2.1 < 1000000000000) && (p.2.2.2.1 == 0 && (decide ((p.2.2.2.2.2.1.length : Int) ≥ 1) && decide ((p.2.2.2.2.2.1.length : Int) ≤ 100)))
   else !p.2.2.2.2.1 && ((p.2.2.2.2.2.1.length : Int) == 0 && (p.1 == 2 || (p.2.2.1 == 0 && (p.1 == 3 || p.2.2.2.1 == 0))))))))))))
theorem S_pkt (p : DPacket) : S.l5valid (p, ()) = some (pktP p, (((), (), (), (), (), (), ()), ())) := by
  unfold S.l5valid pktP
  dsimp only
  generalize decide (p.1 < 1) = a1
  cases a1
  case true => rfl
  generalize decide (p.1 > 4) = a2
  cases a2
  case true => rfl
  generalize decide (p.2.1 < 1) = a3
  cases a3
  case true => rfl
  generalize decide (p.2.1 > 1000000000) = a4
  cases a4
  case true => rfl
  generalize decide (p.2.2.1 < 0) = a5
  cases a5
  case true => rfl
  generalize decide (p.2.2.1 > 1000000000000) = a6
  cases a6
  case true => rfl
  generalize decide (p.2.2.2.1 < 0) = a7
  cases a7
  case true => rfl
  generalize decide (p.2.2.2.1 > 1000000000) = a8
  cases a8
  case true => rfl
  rw [show ((p.2.2.2.2.2.1.length : Int) != 0) = !((p.2.2.2.2.2.1.length : Int) == 0) from rfl]
  generalize (p.1 == 1) = b1
  generalize (p.1 == 2) = b2
  generalize (p.1 == 3) = b3
  generalize (p.2.2.1 == 0) = b4
  generalize (p.2.2.2.1 == 0) = b5
  generalize ((p.2.2.2.2.2.1.length : Int) == 0) = b6
  generalize decide ((p.2.2.2.2.2.1.length : Int) ≥ 1) = b7
  generalize decide ((p.2.2.2.2.2.1.length : Int) ≤ 100) = b8
  generalize decide (p.2.2.1 < 1000000000000) = b9
  generalize p.2.2.2.2.1 = b0
  cases b1
  · cases b0 <;> cases b6 <;> cases b2 <;> cases b3 <;> cases b4 <;> cases b5 <;> rfl
  · cases b5 <;> cases b7 <;> cases b8 <;> cases b9 <;> rfl
theorem I_pkt (p : DPacket) : I.packetOk (p, ()) = some (pktP p, (((), (), (), (), (), (), ()), ())) := by
  unfold I.packetOk pktP
  dsimp only
  by_cases k : p.1 = 1 ∨ p.1 = 2 ∨ p.1 = 3 ∨ p.1 = 4
  case neg =>
    have k1 : (p.1 == 1) = false := by simp; omega
    have k2 : (p.1 == 2) = false := by simp; omega
    have k3 : (p.1 == 3) = false := by simp; omega
    have k4 : (p.1 == 4) = false := by simp; omega
    have e : (!decide (p.1 < 1) && !decide (p.1 > 4)) = false := by simp; omega
    rw [← Bool.and_assoc, e, Bool.false_and]
    simp only [k1, k2, k3, k4, cond_false]
    generalize decide (p.2.1 < 1) = a3
    generalize decide (p.2.1 > 1000000000) = a4
    generalize decide (p.2.2.1 < 0) = a5
    generalize decide (p.2.2.1 > 1000000000000) = a6
    generalize decide (p.2.2.2.1 < 0) = a7
    generalize decide (p.2.2.2.1 > 1000000000) = a8
    generalize p.2.2.2.2.1 = b0
    cases a3
    case true => rfl
    cases a4
    case true => rfl
    cases a5
    case true => rfl
    cases a6
    case true => rfl
    cases a7
    case true => rfl
    cases a8
    case true => rfl
    cases b0 <;> rfl
  have e1 : decide (p.1 < 1) = false := by simp; omega
  have e2 : decide (p.1 > 4) = false := by simp; omega
  rw [e1, e2]
  generalize decide (p.2.1 < 1) = a3
  cases a3
  case true => rfl
  generalize decide (p.2.1 > 1000000000) = a4
  cases a4
  case true => rfl
  generalize decide (p.2.2.1 < 0) = a5
  cases a5
  case true => rfl
  generalize decide (p.2.2.1 > 1000000000000) = a6
  cases a6
  case true => rfl
  generalize decide (p.2.2.2.1 < 0) = a7
  cases a7
  case true => rfl
  generalize decide (p.2.2.2.1 > 1000000000) = a8
  cases a8
  case true => rfl
  generalize (p.2.2.1 == 0) = b4
  generalize (p.2.2.2.1 == 0) = b5
  generalize ((p.2.2.2.2.2.1.length : Int) == 0) = b6
  generalize decide ((p.2.2.2.2.2.1.length : Int) ≥ 1) = b7
  generalize decide ((p.2.2.2.2.2.1.length : Int) ≤ 100) = b8
  generalize decide (p.2.2.1 < 1000000000000) = b9
  generalize p.2.2.2.2.1 = b0
  rcases k with k | k | k | k <;> rw [k]
  · cases b0 <;> cases b5 <;> cases b7 <;> cases b8 <;> cases b9 <;> rfl
  · cases b0 <;> cases b6 <;> rfl
  · cases b0 <;> cases b6 <;> cases b4 <;> rfl
  · cases b0 <;> cases b6 <;> cases b4 <;> cases b5 <;> rfl
/-! ### what a receiver holds back -/
def dataP (e : Int) (p : DPacket) : Bool := pktP p && (p.1 == 1 && p.2.1 == e)
theorem S_data (e : Int) (p : DPacket) : S.l5data (p, e, ()) = some (dataP e p, (((), (), (), (), (), (), ()), (), ())) := by
  unfold S.l5data dataP
  dsimp only
  refine bind_of (S_pkt p) ?_
  simp only []
  generalize pktP p = a
  generalize (p.1 == 1) = b
  generalize (p.2.1 == e) = c
  cases a <;> cases b <;> cases c <;> rfl
def waitP (e hi : Int) : Int → List DPacket → Bool
  | _, [] => true
  | last, p :: r => dataP e p && (!decide (p.2.2.1 ≤ last) && (!decide (p.2.2.1 ≥ hi) && waitP e hi p.2.2.1 r))
theorem waitP_len (e hi : Int) : ∀ (last : Int) (xs : List DPacket), waitP e hi last xs = true → last < hi → last + xs.length < hi
  | last, [], _, h => by simpa using h
  | last, p :: r, hw, h => by
    simp only [waitP, Bool.and_eq_true, Bool.not_eq_true', decide_eq_false_iff_not] at hw
    have := waitP_len e hi p.2.2.1 r hw.2.2.2 (by omega)
    simp only [List.length_cons]
    omega
def lastP (b : Int) (xs : List DPacket) : Nat → Int
  | 0 => b
  | i + 1 => (xs.getD i zPacket).2.2.1
def inP (x : DLinkIn) : Bool :=
  !decide (x.1 < 0) && (!decide (x.1 > 1000000000) && (!decide (x.2.1 < 0) && (!decide (x.2.1 > 1000000000000) && (!decide ((x.2.2.2.1.length : Int) > 20000) && waitP x.1 (x.2.1 + 8) x.2.1 x.2.2.1))))
theorem waitP_drop (e hi last : Int) (xs : List DPacket) (i : Nat) (h : i < xs.length) : waitP e hi last (xs.drop i) = (dataP e xs[i] && (!decide (xs[i].2.2.1 ≤ last) && (!decide (xs[i].2.2.1 ≥ hi) && waitP e hi xs[i].2.2.1 (xs.drop (i + 1))))) := by
  rw [List.drop_eq_getElem_cons h]; rfl
theorem S_in (x : DLinkIn) (hl : x.2.2.1.length ≤ maxL) : S.ValidIn (x, ()) = some (inP x, (((), (), (), (), ()), ())) := by
  unfold maxL at hl
  unfold S.ValidIn S.ValidIn.p inP
  dsimp only
  by_cases h1 : x.1 < 0
  · simp [h1]
  by_cases h2 : x.1 > 1000000000
  · simp [h1, h2]
  by_cases h3 : x.2.1 < 0
  · simp [h1, h2, h3]
  by_cases h4 : x.2.1 > 1000000000000
  · simp [h1, h2, h3, h4]
  simp only [h1, h2, h3, h4, decide_false, BEq.rfl, cond_true, Bool.not_false, Bool.true_and]
  cases decide ((x.2.2.2.1.length : Int) > 20000)
  case true => rfl
  simp only [cond_false, Bool.not_false, Bool.true_and]
  unfold S.ValidIn.l4
  refine rounds_inv (fuel := big) x.2.2.1.length (fun i y => y = (x, (i : Int), ()) ∧ x.2.1 ≤ lastP x.2.1 x.2.2.1 i ∧ waitP x.1 (x.2.1 + 8) x.2.1 x.2.2.1 = waitP x.1 (x.2.1 + 8) (lastP x.2.1 x.2.2.1 i) (x.2.2.1.drop i)) (fun o => o = some (waitP x.1 (x.2.1 + 8) x.2.1 x.2.2.1, (((), (), (), (), ()), ()))) (by rw [big_pos]; omega) ⟨rfl, Int.le_refl _, rfl⟩ ?_ ?_
  · rintro i y hi ⟨rfl, hb, hp⟩ Rc hRc
    rw [hp]
    unfold S.ValidIn.st4
    dsimp only
    simp only [lt_true hi, nn, Bool.and_self, ck, cond_true, Int.toNat_natCast, gd hi]
    rw [waitP_drop _ _ _ _ _ hi] at hp ⊢
    refine bind_of (S_data x.1 x.2.2.1[i]) ?_
    cases hd : dataP x.1 x.2.2.1[i]
    · rfl
    rw [wr_i64 (x.2.1 + 8) (by omega) (by omega)]
    by_cases g1 : x.2.2.1[i].2.2.1 ≤ x.2.1
    · have : x.2.2.1[i].2.2.1 ≤ lastP x.2.1 x.2.2.1 i := by omega
      simp [g1, this]
    by_cases g2 : x.2.2.1[i].2.2.1 ≥ x.2.1 + 8
    · simp [g1, g2]
    rw [hd] at hp
    simp only [g1, g2, decide_false, decide_true, BEq.rfl, cond_true, Bool.not_true, Bool.not_false, Bool.true_and] at hp ⊢
    match i, hi, hb, hp, hRc with
    | 0, hi, hb, hp, hRc =>
      simp only [show decide (((0 : Nat) : Int) > 0) = false from rfl, show (false == true) = false from rfl, cond_false]
      simp only [lastP] at hp ⊢
      simp only [g1, decide_false, Bool.not_false, Bool.true_and] at hp ⊢
      refine (hRc _ ⟨by rw [wr_succ hi (by omega)], ?_, ?_⟩).trans (by rw [hp])
      · simp only [lastP, gd hi]; omega
      · simp only [lastP, gd hi]; exact hp
    | j + 1, hi, hb, hp, hRc =>
      have e1 : wr .i64 (((j + 1 : Nat) : Int) - 1) = (j : Int) := by rw [wr_i64 _ (by omega) (by omega)]; omega
      have hj : j < x.2.2.1.length := by omega
      simp only [show decide (((j + 1 : Nat) : Int) > 0) = true by simp, BEq.rfl, cond_true, e1, lt_true hj, nn, Bool.and_self, Int.toNat_natCast, gd hj]
      simp only [lastP, gd hj] at hp hb ⊢
      by_cases g3 : x.2.2.1[j].2.2.1 ≥ x.2.2.1[j + 1].2.2.1
      · simp [g3]
      · have g4 : ¬ x.2.2.1[j + 1].2.2.1 ≤ x.2.2.1[j].2.2.1 := by omega
        simp only [g3, g4, decide_false, cond_false, Bool.not_false, Bool.true_and] at hp ⊢
        refine (hRc _ ⟨by rw [wr_succ hi (by omega)], ?_, ?_⟩).trans (by rw [hp])
        · simp only [lastP, gd hi]; omega
        · simp only [lastP, gd hi]; exact hp
  · rintro y ⟨rfl, hb, hp⟩ Rc
    rw [hp]
    unfold S.ValidIn.st4
    dsimp only
    rw [lt_false (Nat.le_refl _), cond_false, List.drop_length]
    rfl
theorem I_in (x : DLinkIn) (hl : x.2.2.1.length ≤ maxL) : I.ValidIn (x, ()) = some (inP x, (((), (), (), (), ()), ())) := by
  unfold maxL at hl
  unfold I.ValidIn I.ValidIn.p inP
  dsimp only
  by_cases h1 : x.1 < 0
  · simp [h1]
  by_cases h2 : x.1 > 1000000000
  · simp [h1, h2]
  by_cases h3 : x.2.1 < 0
  · simp [h1, h2, h3]
  by_cases h4 : x.2.1 > 1000000000000
  · simp [h1, h2, h3, h4]
  simp only [h1, h2, h3, h4, decide_false, BEq.rfl, cond_true, Bool.not_false, Bool.true_and]
  cases decide ((x.2.2.2.1.length : Int) > 20000)
  case true => rfl
  simp only [BEq.rfl, cond_true, Bool.not_false, Bool.true_and]
  by_cases h5 : (x.2.2.1.length : Int) > 8
  · have : waitP x.1 (x.2.1 + 8) x.2.1 x.2.2.1 = false := by
      cases hw : waitP x.1 (x.2.1 + 8) x.2.1 x.2.2.1
      · rfl
      · have := waitP_len _ _ _ _ hw (by omega); omega
    simp [h5, this]
  simp only [h5, decide_false, cond_false]
  unfold I.ValidIn.l5
  refine rounds_inv (fuel := big) x.2.2.1.length (fun i y => y = (x, lastP x.2.1 x.2.2.1 i, x.2.2.1, (x.2.2.1.length : Int), (i : Int), ()) ∧ waitP x.1 (x.2.1 + 8) x.2.1 x.2.2.1 = waitP x.1 (x.2.1 + 8) (lastP x.2.1 x.2.2.1 i) (x.2.2.1.drop i)) (fun o => o = some (waitP x.1 (x.2.1 + 8) x.2.1 x.2.2.1, (((), (), (), (), ()), ()))) (by rw [big_pos]; omega) ⟨rfl, rfl⟩ ?_ ?_
  · rintro i y hi ⟨rfl, hp⟩ Rc hRc
    rw [hp]
    unfold I.ValidIn.st5
    dsimp only
    simp only [lt_true hi, nn, Bool.and_self, ck, cond_true, Int.toNat_natCast, gd hi]
    rw [waitP_drop _ _ _ _ _ hi] at hp ⊢
    refine bind_of (I_pkt x.2.2.1[i]) ?_
    unfold dataP at hp ⊢
    rw [wr_i64 (x.2.1 + 8) (by omega) (by omega)]
    simp only [bne] at hp ⊢
    cases a1 : pktP x.2.2.1[i]
    · rfl
    cases a2 : (x.2.2.1[i].1 == 1)
    · rfl
    cases a3 : (x.2.2.1[i].2.1 == x.1)
    · rfl
    cases a4 : decide (x.2.2.1[i].2.2.1 ≤ lastP x.2.1 x.2.2.1 i)
    case true => rfl
    cases a5 : decide (x.2.2.1[i].2.2.1 ≥ x.2.1 + 8)
    case true => rfl
    rw [a1, a2, a3, a4, a5] at hp
    simp only [Bool.not_true, Bool.not_false, Bool.true_and, BEq.rfl, cond_true, cond_false] at hp ⊢
    refine (hRc _ ⟨by rw [wr_succ hi (by omega)]; simp only [lastP, gd hi], ?_⟩).trans (by rw [hp])
    simp only [lastP, gd hi]; exact hp
  · rintro y ⟨rfl, hp⟩ Rc
    rw [hp]
    unfold I.ValidIn.st5
    dsimp only
    rw [lt_false (Nat.le_refl _), cond_false, List.drop_length]
    rfl
/-! ### the fields of a table -/
def namesP (pre : List (List Int)) : List DField → Bool
  | [] => true
  | f :: r => !pre.contains f.1 && (fieldP f && namesP (pre ++ [f.1]) r)
def nms (fs : List DField) : List (List Int) := fs.map fun f => f.1
def fieldsP (fs : List DField) : Bool := !decide ((fs.length : Int) < 1) && (!decide ((fs.length : Int) > 12) && namesP [] fs)
def ByF (fs : List DField) : Prop := ∀ f, f ∈ fs → By f.1
theorem nms_by {fs : List DField} (h : ByF fs) : ByS (nms fs) := by
  intro x hx
  obtain ⟨f, hf, rfl⟩ := List.mem_map.1 hx
  exact h f hf
theorem ByF.take {fs : List DField} (h : ByF fs) (i : Nat) : ByF (fs.take i) := fun f hf => h f (List.mem_of_mem_take hf)
theorem namesP_drop (pre : List (List Int)) (fs : List DField) (i : Nat) (h : i < fs.length) : namesP pre (fs.drop i) = (!pre.contains fs[i].1 && (fieldP fs[i] && namesP (pre ++ [fs[i].1]) (fs.drop (i + 1)))) := by
  rw [List.drop_eq_getElem_cons h]; rfl
theorem contains_map (fs : List DField) (d : List Int) : (nms fs).contains d = fs.any fun f => decide (f.1 = d) := by
  unfold nms
  induction fs with
  | nil => rfl
  | cons f r ih =>
    rw [List.map_cons, List.contains_cons, ih, List.any_cons]
    by_cases h : f.1 = d
    · subst h; simp
    · rw [show (d == f.1) = false by simp; exact fun h' => h h'.symm]; simp [h]
theorem S_fields (fs : List DField) (hb : ByF fs) : S.ValidFields (fs, ()) = some (fieldsP fs, ((), ())) := by
  unfold S.ValidFields S.ValidFields.p fieldsP
  dsimp only
  by_cases h1 : (fs.length : Int) < 1
  · simp [h1]
  by_cases h2 : (fs.length : Int) > 12
  · simp [h1, h2]
  simp only [h1, h2, decide_false, BEq.rfl, cond_true, cond_false, Bool.not_false, Bool.true_and]
  unfold S.ValidFields.l4
  refine (rounds_run (fuel := big) fs.length (fun i => (fs, (i : Int), ())) (fun i => some (namesP (nms (fs.take i)) (fs.drop i), ((), ()))) (by rw [big_pos]; omega) (fun i hi Rc hRc => ?_) (fun Rc => ?_) : _)
  · unfold S.ValidFields.st4
    dsimp only
    simp only [lt_true hi, nn, Bool.and_self, ck, cond_true, Int.toNat_natCast, gd hi]
    rw [namesP_drop _ _ _ hi, contains_map]
    refine bind_of (S_field fs[i]) ?_
    cases hf : fieldP fs[i]
    · simp
    simp only [Bool.not_true, cond_false, Bool.true_and]
    unfold S.ValidFields.l9
    have tl : (fs.take i).length = i := take_len (by omega)
    refine (rounds_run (fuel := big) i (fun j => (fs, (i : Int), (j : Int), ())) (fun j => some (!((fs.take i).drop j).any (fun f => decide (f.1 = fs[i].1)) && namesP (nms (fs.take i) ++ [fs[i].1]) (fs.drop (i + 1)), ((), ()))) (by rw [big_pos]; omega) (fun j hj Rd hRd => ?_) (fun Rd => ?_) : _)
    · unfold S.ValidFields.st9
      dsimp only
      have hjl : j < fs.length := by omega
      simp only [show decide ((j : Int) < (i : Int)) = true by simp; omega, lt_true hi, lt_true hjl, nn, Bool.and_self, ck, cond_true, Int.toNat_natCast, gd hi, gd hjl]
      rw [any_drop _ _ _ (by omega)]
      unfold S.l1same
      simp only [Option.bind_some]
      rw [same_str (hb _ (List.getElem_mem hjl)) (hb _ (List.getElem_mem hi))]
      rw [show ((fs.take i)[j]'(by omega)) = fs[j] by simp]
      cases decide (fs[j].1 = fs[i].1)
      · simp only [cond_false, Bool.false_or]
        rw [wr_succ hjl (by omega)]
        exact hRd
      · rfl
    · unfold S.ValidFields.st9
      dsimp only
      simp only [show decide ((i : Int) < (i : Int)) = false by simp, cond_false, show Nat.beq 2 2 = true from rfl, cond_true]
      rw [wr_succ hi (by omega), hRc]
      rw [show (fs.take i).drop i = [] by rw [List.drop_eq_nil_iff]; omega]
      simp only [List.any_nil, Bool.not_false, Bool.true_and]
      unfold nms
      rw [map_take _ _ _ hi]
  · unfold S.ValidFields.st4
    simp [lt_false (Nat.le_refl _), namesP]
theorem I_fields (fs : List DField) (hb : ByF fs) : I.ValidFields (fs, ()) = some (fieldsP fs, ((), ())) := by
  unfold I.ValidFields I.ValidFields.p fieldsP
  dsimp only
  by_cases h1 : (fs.length : Int) < 1
  · simp [h1]
  by_cases h2 : (fs.length : Int) > 12
  · simp [h1, h2]
  simp only [h1, h2, decide_false, BEq.rfl, cond_true, cond_false, Bool.not_false, Bool.true_and]
  unfold I.ValidFields.l5
  refine (rounds_run (fuel := big) fs.length (fun i => (mpP 0 (nms (fs.take i)), fs, (fs.length : Int), (i : Int), ())) (fun i => some (namesP (nms (fs.take i)) (fs.drop i), ((), ()))) (by rw [big_pos]; omega) (fun i hi Rc hRc => ?_) (fun Rc => ?_) : _)
  · unfold I.ValidFields.st5
    dsimp only
    simp only [lt_true hi, nn, Bool.and_self, ck, cond_true, Int.toNat_natCast, gd hi]
    have hm := mhas_mpP fs[i].1 (hb _ (List.getElem_mem hi)) 0 (nms (fs.take i)) (nms_by (hb.take i))
    rw [namesP_drop _ _ _ hi, hm]
    cases hc : (nms (fs.take i)).contains fs[i].1
    case true => rfl
    simp only [BEq.rfl, cond_true, Bool.not_false, Bool.true_and]
    refine bind_of (I_field fs[i]) ?_
    cases fieldP fs[i]
    · rfl
    simp only [Bool.not_true, cond_false, Bool.true_and]
    rw [mput_new _ _ _ (by rw [hm, hc]), wr_succ hi (by omega)]
    have e : nms (fs.take (i + 1)) = nms (fs.take i) ++ [fs[i].1] := by unfold nms; rw [map_take _ _ _ hi]
    rw [e, mpP_app, show (nms (fs.take i)).length = i by unfold nms; rw [List.length_map, take_len (by omega)], Nat.zero_add] at hRc
    exact hRc
  · unfold I.ValidFields.st5
    simp [lt_false (Nat.le_refl _), namesP]
/-! ### streams -/
def dictsP (fs : List DField) : Nat → List (List (List Int)) → Bool
  | _, [] => true
  | i, d :: r => dictP d && (((fs.getD i zField).2.1 == 3 || !decide ((d.length : Int) > 0)) && dictsP fs (i + 1) r)
theorem dictsP_drop (fs : List DField) (ds : List (List (List Int))) (i : Nat) (h : i < ds.length) : dictsP fs i (ds.drop i) = (dictP ds[i] && (((fs.getD i zField).2.1 == 3 || !decide ((ds[i].length : Int) > 0)) && dictsP fs (i + 1) (ds.drop (i + 1)))) := by
  rw [List.drop_eq_getElem_cons h]; rfl
def streamP (x : DStream) : Bool :=
  bif !x.1 then (x.2.1.length : Int) == 0 && (x.2.2.1 == 0 && (x.2.2.2.1.length : Int) == 0)
  else fieldsP x.2.1 && (!decide (x.2.2.1 < 0) && (!decide (x.2.2.1 > 1000000000) && ((x.2.2.2.1.length : Int) == (x.2.1.length : Int) && dictsP x.2.1 0 x.2.2.2.1)))
def OkS (x : DStream) : Prop := ByF x.2.1 ∧ ∀ d, d ∈ x.2.2.2.1 → ByS d ∧ SmL d
theorem S_stream (x : DStream) (h : OkS x) : S.ValidStream (x, ()) = some (streamP x, (((), (), (), (), ()), ())) := by
  obtain ⟨o, fs, n, ds, u⟩ := x
  obtain ⟨hf, hd⟩ := h
  simp only [] at hf hd
  unfold S.ValidStream S.ValidStream.p streamP
  dsimp only
  cases o
  · generalize ((fs.length : Int) == 0) = a
    generalize (n == 0) = b
    generalize ((ds.length : Int) == 0) = c
    cases a <;> cases b <;> cases c <;> rfl
  simp only [Bool.not_true, cond_false]
  refine bind_of (S_fields fs hf) ?_
  cases hfp : fieldsP fs
  · rfl
  have hl12 : fs.length ≤ 12 := by
    unfold fieldsP at hfp
    simp only [Bool.and_eq_true, Bool.not_eq_true', decide_eq_false_iff_not] at hfp
    omega
  simp only [Bool.not_true, BEq.rfl, cond_true, Bool.true_and]
  cases decide (n < 0)
  case true => rfl
  cases decide (n > 1000000000)
  case true => rfl
  simp only [BEq.rfl, cond_true, Bool.not_false, Bool.true_and, bne]
  cases he : ((ds.length : Int) == (fs.length : Int))
  · rfl
  have he' : ds.length = fs.length := by have := he; simp at this; omega
  simp only [Bool.not_true, cond_false, Bool.true_and]
  unfold S.ValidStream.l6
  refine (rounds_run (fuel := big) ds.length (fun i => ((true, fs, n, ds, ()), (i : Int), ())) (fun i => some (dictsP fs i (ds.drop i), (((), (), (), (), ()), ()))) (by rw [big_pos]; omega) (fun i hi Rc hRc => ?_) (fun Rc => ?_) : _)
  · unfold S.ValidStream.st6
    dsimp only
    have hi' : i < fs.length := by omega
    simp only [lt_true hi, lt_true hi', nn, Bool.and_self, ck, cond_true, Int.toNat_natCast, gd hi]
    rw [dictsP_drop _ _ _ hi]
    have hdi := hd _ (List.getElem_mem hi)
    refine bind_of (S_dict ds[i] hdi.1 hdi.2) ?_
    cases dictP ds[i]
    · rfl
    simp only [Bool.not_true, BEq.rfl, cond_true, Bool.true_and, bne]
    rw [wr_succ hi (by omega)]
    cases ((fs.getD i zField).2.1 == 3)
    · cases decide ((ds[i].length : Int) > 0)
      · exact hRc
      · rfl
    · exact hRc
  · unfold S.ValidStream.st6
    simp [lt_false (Nat.le_refl _), dictsP]
theorem I_stream (x : DStream) (h : OkS x) : I.ValidStream (x, ()) = some (streamP x, (((), (), (), (), ()), ())) := by
  obtain ⟨o, fs, n, ds, u⟩ := x
  obtain ⟨hf, hd⟩ := h
  simp only [] at hf hd
  unfold I.ValidStream I.ValidStream.p streamP
  dsimp only
  cases o
  · generalize ((fs.length : Int) == 0) = a
    generalize (n == 0) = b
    generalize ((ds.length : Int) == 0) = c
    cases a <;> cases b <;> cases c <;> rfl
  simp only [Bool.not_true, cond_false]
  refine bind_of (I_fields fs hf) ?_
  cases hfp : fieldsP fs
  · rfl
  have hl12 : fs.length ≤ 12 := by
    unfold fieldsP at hfp
    simp only [Bool.and_eq_true, Bool.not_eq_true', decide_eq_false_iff_not] at hfp
    omega
  simp only [Bool.not_true, BEq.rfl, cond_true, Bool.true_and]
  cases decide (n < 0)
  case true => rfl
  cases decide (n > 1000000000)
  case true => rfl
  simp only [BEq.rfl, cond_true, Bool.not_false, Bool.true_and, bne]
  cases he : ((ds.length : Int) == (fs.length : Int))
  · rfl
  have he' : ds.length = fs.length := by have := he; simp at this; omega
  simp only [Bool.not_true, cond_false, Bool.true_and]
  unfold I.ValidStream.l6
  refine (rounds_run (fuel := big) ds.length (fun i => ((true, fs, n, ds, ()), ds, (ds.length : Int), (i : Int), ())) (fun i => some (dictsP fs i (ds.drop i), (((), (), (), (), ()), ()))) (by rw [big_pos]; omega) (fun i hi Rc hRc => ?_) (fun Rc => ?_) : _)
  · unfold I.ValidStream.st6
    dsimp only
    have hi' : i < fs.length := by omega
    simp only [lt_true hi, lt_true hi', nn, Bool.and_self, ck, cond_true, Int.toNat_natCast, gd hi]
    rw [dictsP_drop _ _ _ hi]
    have hdi := hd _ (List.getElem_mem hi)
    refine bind_of (I_dict ds[i] hdi.1 hdi.2) ?_
    cases dictP ds[i]
    · rfl
    simp only [Bool.not_true, BEq.rfl, cond_true, Bool.true_and, bne]
    rw [wr_succ hi (by omega)]
    cases ((fs.getD i zField).2.1 == 3)
    · cases decide ((ds[i].length : Int) > 0)
      · exact hRc
      · rfl
    · exact hRc
  · unfold I.ValidStream.st6
    simp [lt_false (Nat.le_refl _), dictsP]
end Go.Ev

