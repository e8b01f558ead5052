/- A text of the claim: plain lemmas of what the functions compute. -/
import Derived.Test.YtkkjheildoclgaaPN
import Derived.Test.YtkkjheildoclgaaPKc
set_option linter.all false
set_option linter.unusedVariables false
set_option linter.unusedSimpArgs false
set_option autoImplicit false
set_option linter.unusedVariables false
set_option linter.unusedSimpArgs false
namespace Go.Ev
/-! ### what a sender has on the way -/
def sentP (e sq clk : Int) (n : Int) : Nat → List DSent → Bool
  | _, [] => true
  | i, s :: r => pktP s.1 && (s.1.1 == 1 && (s.1.2.1 == e && (s.1.2.2.1 == wr .i64 (wr .i64 (sq - n) + (i : Int)) && (!decide (s.2.1 < -1) && (!decide (s.2.1 > clk) && sentP e sq clk n (i + 1) r)))))
theorem sentP_drop (e sq clk n : Int) (xs : List DSent) (i : Nat) (h : i < xs.length) : sentP e sq clk n i (xs.drop i) = (pktP xs[i].1 && (xs[i].1.1 == 1 && (xs[i].1.2.1 == e && (xs[i].1.2.2.1 == wr .i64 (wr .i64 (sq - n) + (i : Int)) && (!decide (xs[i].2.1 < -1) && (!decide (xs[i].2.1 > clk) && sentP e sq clk n (i + 1) (xs.drop (i + 1)))))))) := by
  rw [List.drop_eq_getElem_cons h]; rfl
def outP (x : DLinkOut) : Bool :=
  !decide (x.1 < 1) && (!decide (x.1 > 1000000000) && (!decide (x.2.1 < 0) && (!decide (x.2.1 > 1000000000000) && (!decide (x.2.2.1 < 0) && (!decide (x.2.2.1 > 1000000000) && (!decide ((x.2.2.2.1.length : Int) > 300) && sentP x.1 x.2.1 x.2.2.1 (x.2.2.2.1.length : Int) 0 x.2.2.2.1))))))
theorem S_out (x : DLinkOut) (hl : x.2.2.2.1.length ≤ maxL) : S.ValidOut (x, ()) = some (outP x, (((), (), (), (), ()), ())) := by
  obtain ⟨e, sq, clk, q, u⟩ := x
  simp only [] at hl
  unfold maxL at hl
  unfold S.ValidOut S.ValidOut.p outP
  dsimp only
  cases decide (e < 1)
  case true => rfl
  cases decide (e > 1000000000)
  case true => rfl
  cases decide (sq < 0)
  case true => rfl
  cases decide (sq > 1000000000000)
  case true => rfl
  cases decide (clk < 0)
  case true => rfl
  cases decide (clk > 1000000000)
  case true => rfl
  cases decide ((q.length : Int) > 300)
  case true => rfl
  simp only [BEq.rfl, cond_true, cond_false, Bool.not_false, Bool.true_and]
  unfold S.ValidOut.l4
  refine (rounds_run (fuel := big) q.length (fun i => ((e, sq, clk, q, ()), (i : Int), ())) (fun i => some (sentP e sq clk (q.length : Int) i (q.drop i), (((), (), (), (), ()), ()))) (by rw [big_pos]; omega) (fun i hi Rc hRc => ?_) (fun Rc => ?_) : _)
  · unfold S.ValidOut.st4
    dsimp only
    simp only [lt_true hi, nn, Bool.and_self, ck_true rfl, cond_true, Int.toNat_natCast, gd hi]
    rw [sentP_drop _ _ _ _ _ _ hi]
    refine bind_of (S_pkt q[i].1) ?_
    rw [wr_succ hi (by omega)]
    simp only [bne]
    cases pktP q[i].1
    · rfl
    cases (q[i].1.1 == 1)
    · rfl
    cases (q[i].1.2.1 == e)
    · rfl
    cases (q[i].1.2.2.1 == wr .i64 (wr .i64 (sq - (q.length : Int)) + (i : Int)))
    · rfl
    cases decide (q[i].2.1 < -1)
    case true => rfl
    cases decide (q[i].2.1 > clk)
    case true => rfl
    exact hRc
  · unfold S.ValidOut.st4
    simp [lt_false (Nat.le_refl _), sentP]
theorem I_out (x : DLinkOut) (hl : x.2.2.2.1.length ≤ maxL) : I.ValidOut (x, ()) = some (outP x, (((), (), (), (), ()), ())) := by
  obtain ⟨e, sq, clk, q, u⟩ := x
  simp only [] at hl
  unfold maxL at hl
  unfold I.ValidOut I.ValidOut.p outP
  dsimp only
  cases decide (e < 1)
  case true => rfl
  cases decide (e > 1000000000)
  case true => rfl
  cases decide (sq < 0)
  case true => rfl
  cases decide (sq > 1000000000000)
  case true => rfl
  cases decide (clk < 0)
  case true => rfl
  cases decide (clk > 1000000000)
  case true => rfl
  cases decide ((q.length : Int) > 300)
  case true => rfl
  simp only [BEq.rfl, cond_true, cond_false, Bool.not_false, Bool.true_and]
  unfold I.ValidOut.l5
  refine (rounds_run (fuel := big) q.length (fun i => ((e, sq, clk, q, ()), (q.length : Int), q, (q.length : Int), (i : Int), ())) (fun i => some (sentP e sq clk (q.length : Int) i (q.drop i), (((), (), (), (), ()), ()))) (by rw [big_pos]; omega) (fun i hi Rc hRc => ?_) (fun Rc => ?_) : _)
  · unfold I.ValidOut.st5
    dsimp only
    simp only [lt_true hi, nn, Bool.and_self, ck_true rfl, cond_true, Int.toNat_natCast, gd hi]
    rw [sentP_drop _ _ _ _ _ _ hi]
    refine bind_of (I_pkt q[i].1) ?_
    rw [wr_succ hi (by omega)]
    simp only [bne]
    cases pktP q[i].1
    · rfl
    cases (q[i].1.1 == 1)
    · rfl
    cases (q[i].1.2.1 == e)
    · rfl
    cases (q[i].1.2.2.1 == wr .i64 (wr .i64 (sq - (q.length : Int)) + (i : Int)))
    · rfl
    cases decide (q[i].2.1 < -1)
    case true => rfl
    cases decide (q[i].2.1 > clk)
    case true => rfl
    exact hRc
  · unfold I.ValidOut.st5
    simp [lt_false (Nat.le_refl _), sentP]
/-! ### fields that are the same -/
def sameF (a b : DField) : Bool := decide (a.1 = b.1) && (a.2.1 == b.2.1 && a.2.2.1 == b.2.2.1)
def sameL : List DField → List DField → Bool
  | a :: r, b :: s => sameF a b && sameL r s
  | _, _ => true
def sameP (xs ys : List DField) : Bool := (xs.length : Int) == (ys.length : Int) && sameL xs ys
theorem sameL_drop (xs ys : List DField) (i : Nat) (h : i < xs.length) (h' : i < ys.length) : sameL (xs.drop i) (ys.drop i) = (sameF xs[i] ys[i] && sameL (xs.drop (i + 1)) (ys.drop (i + 1))) := by
  rw [List.drop_eq_getElem_cons h, List.drop_eq_getElem_cons h']; rfl
theorem S_same (xs ys : List DField) (hx : ByF xs) (hy : ByF ys) (hl : xs.length ≤ maxL) : S.l6sameFields (xs, ys, ()) = some (sameP xs ys, ((), (), ())) := by
  unfold maxL at hl
  unfold S.l6sameFields S.l6sameFields.p sameP
  dsimp only [bne]
  cases he : ((xs.length : Int) == (ys.length : Int))
  · rfl
  have he' : xs.length = ys.length := by rw [beq_iff_eq] at he; omega
  simp only [Bool.not_true, cond_false, Bool.true_and]
  unfold S.l6sameFields.l4
  refine (rounds_run (fuel := big) xs.length (fun i => (xs, ys, (i : Int), ())) (fun i => some (sameL (xs.drop i) (ys.drop i), ((), (), ()))) (by rw [big_pos]; omega) (fun i hi Rc hRc => ?_) (fun Rc => ?_) : _)
  · unfold S.l6sameFields.st4 S.l1same
    dsimp only
    have hi' : i < ys.length := by omega
    simp only [lt_true hi, lt_true hi', nn, Bool.and_self, ck_true rfl, cond_true, Int.toNat_natCast, gd hi, gd hi', Option.bind_some]
    rw [same_str (hx _ (List.getElem_mem hi)) (hy _ (List.getElem_mem hi')), sameL_drop _ _ _ hi hi', wr_succ hi (by omega)]
    unfold sameF
    simp only [bne]
    cases decide (xs[i].1 = ys[i].1)
    · rfl
    cases (xs[i].2.1 == ys[i].2.1)
    · rfl
    cases (xs[i].2.2.1 == ys[i].2.2.1)
    · rfl
    exact hRc
  · unfold S.l6sameFields.st4
    simp [lt_false (Nat.le_refl _), sameL]
theorem I_same (xs ys : List DField) (hx : ByF xs) (hy : ByF ys) (hl : xs.length ≤ maxL) : I.sameFields (xs, ys, ()) = some (sameP xs ys, ((), (), ())) := by
  unfold maxL at hl
  unfold I.sameFields B.slices_EqualFunc_Field_sameFields_f1 B.slices_EqualFunc_Field_sameFields_f1.p sameP
  dsimp only [bne]
  cases he : ((xs.length : Int) == (ys.length : Int))
  · rfl
  have he' : xs.length = ys.length := by rw [beq_iff_eq] at he; omega
  simp only [Bool.not_true, cond_false, Bool.true_and]
  unfold B.slices_EqualFunc_Field_sameFields_f1.l4
  refine bind_of (a := (sameL xs ys, ((), (), (), ()))) (rounds_run (fuel := big) xs.length (fun i => (ys, (), xs, (xs.length : Int), (i : Int), ())) (fun i => some (sameL (xs.drop i) (ys.drop i), ((), (), (), ()))) (by rw [big_pos]; omega) (fun i hi Rc hRc => ?_) (fun Rc => ?_) : _) rfl
  · unfold B.slices_EqualFunc_Field_sameFields_f1.st4 I.sameFields_f1 B.bytes_Equal
    dsimp only
    have hi' : i < ys.length := by omega
    simp only [lt_true hi, lt_true hi', nn, Bool.and_self, ck_true rfl, cond_true, Int.toNat_natCast, gd hi, gd hi', Option.bind_some]
    rw [same_str (hx _ (List.getElem_mem hi)) (hy _ (List.getElem_mem hi')), sameL_drop _ _ _ hi hi', wr_succ hi (by omega)]
    unfold sameF
    cases decide (xs[i].1 = ys[i].1)
    · rfl
    cases (xs[i].2.1 == ys[i].2.1)
    · rfl
    cases (xs[i].2.2.1 == ys[i].2.2.1)
    · rfl
    exact hRc
  · unfold B.slices_EqualFunc_Field_sameFields_f1.st4
    simp [lt_false (Nat.le_refl _), sameL]
/-! ### senders -/
abbrev FSend := (List DField) × Int × Int × (List DTable) × Int × Int × Int × Int × (List DSent) × Bool × (List DField) × Int × (List (List (List Int))) × Unit
def sendP : FSend → Bool
  | (fs, ep, base, ts, k, oe, oq, oc, q, so, sfs, sn, ds, _) =>
    fieldsP fs && (!decide (ep < 1) && (!decide (ep > 1000000000) && (oe == ep && (outP (oe, oq, oc, q, ()) && (!decide (base < 0) && (decide (base + (ts.length : Int) ≤ 1000000000) && ((!decide ((ts.length : Int) > 20) && ts.all (tableP fs)) && (!decide (k < 0) && (!decide (k > (ts.length : Int)) && (streamP (so, sfs, sn, ds, ()) && (so && (sameP sfs fs && sn == wr .i64 (base + k)))))))))))))
def OkSd : FSend → Prop
  | (fs, ep, base, ts, k, oe, oq, oc, q, so, sfs, sn, ds, _) => ByF fs ∧ fs.length ≤ maxL ∧ q.length ≤ maxL ∧ sfs.length ≤ maxL ∧ OkS (so, sfs, sn, ds, ()) ∧ OkT ts
theorem S_send (x : FSend) (h : OkSd x) : S.ValidSender (x, ()) = some (sendP x, (((), (), (), (), (), (), (), (), (), (), (), (), (), ()), ())) := by
  obtain ⟨fs, ep, base, ts, k, oe, oq, oc, q, so, sfs, sn, ds, u⟩ := x
  obtain ⟨h0, h1, h2, h3, h4, h5⟩ := h
  unfold S.ValidSender sendP
  dsimp only [bne]
  refine bind_of (S_fields fs h0) ?_
  cases fieldsP fs
  · rfl
  cases decide (ep < 1)
  case true => rfl
  cases decide (ep > 1000000000)
  case true => rfl
  cases (oe == ep)
  · rfl
  simp only [BEq.rfl, cond_true, Bool.not_true, Bool.not_false, Bool.true_and]
  refine bind_of (S_out (oe, oq, oc, q, ()) h2) ?_
  cases outP (oe, oq, oc, q, ())
  · rfl
  have hts := h5.1
  simp only [BEq.rfl, cond_true, cond_false, Bool.not_true, Bool.true_and]
  rw [wr_i64 ((1000000000 : Int) - (ts.length : Int)) (by omega) (by omega)]
  cases decide (base < 0)
  case true => rfl
  rw [show decide (base > (1000000000 : Int) - (ts.length : Int)) = !decide (base + (ts.length : Int) ≤ 1000000000) by by_cases g : base + (ts.length : Int) ≤ 1000000000 <;> simp [g] <;> omega]
  cases decide (base + (ts.length : Int) ≤ 1000000000)
  · rfl
  simp only [BEq.rfl, cond_true, Bool.not_true, Bool.not_false, Bool.true_and]
  refine bind_of (S_tables fs ts h0 h1 h5) ?_
  cases (!decide ((ts.length : Int) > 20) && ts.all (tableP fs))
  · rfl
  cases decide (k < 0)
  case true => rfl
  cases decide (k > (ts.length : Int))
  case true => rfl
  simp only [BEq.rfl, cond_true, cond_false, Bool.not_true, Bool.not_false, Bool.true_and]
  refine bind_of (S_stream (so, sfs, sn, ds, ()) h4) ?_
  cases streamP (so, sfs, sn, ds, ())
  · rfl
  cases so
  · rfl
  simp only [BEq.rfl, cond_true, Bool.true_and]
  refine bind_of (S_same sfs fs h4.1 h0 h3) ?_
  cases sameP sfs fs <;> rfl
theorem I_anySend (x : FSend) (fs : List DField) (hx : x.1 = fs) (ts : List DTable) (hb : ByF fs) (hfl : fs.length ≤ maxL) (ht : OkT ts) :
    B.slices_ContainsFunc_Table_ValidSender_f1 (ts, ((x.1, (x.2.1, (x.2.2.1, (x.2.2.2.1, (x.2.2.2.2.1, ((x.2.2.2.2.2.1, (x.2.2.2.2.2.2.1, (x.2.2.2.2.2.2.2.1, (x.2.2.2.2.2.2.2.2.1, ())))), ((x.2.2.2.2.2.2.2.2.2.1, (x.2.2.2.2.2.2.2.2.2.2.1, (x.2.2.2.2.2.2.2.2.2.2.2.1, (x.2.2.2.2.2.2.2.2.2.2.2.2.1, ())))), ()))))))), ()), ()) = some (!ts.all (tableP fs), ((), (), ())) := by
  obtain ⟨fs', ep, base, ts', k, oe, oq, oc, q, so, sfs, sn, ds, u⟩ := x
  obtain rfl : fs' = fs := hx
  obtain ⟨hl, ht⟩ := ht
  unfold B.slices_ContainsFunc_Table_ValidSender_f1 B.slices_IndexFunc_Table_ValidSender_f1 B.slices_IndexFunc_Table_ValidSender_f1.p B.slices_IndexFunc_Table_ValidSender_f1.l2
  dsimp only
  have key : ∃ r : Int, decide (r ≥ 0) = (!ts.all (tableP fs')) ∧ rounds B.slices_IndexFunc_Table_ValidSender_f1.st2 big (fun i2 y2 => bif Nat.beq i2 0 then some (-1, ((), (), ())) else none) (ts, ((fs', (ep, (base, (ts', (k, ((oe, (oq, (oc, (q, ())))), ((so, (sfs, (sn, (ds, ())))), ()))))))), ()), (ts.length : Int), 0, ()) = some (r, ((), (), ())) := by
    refine rounds_inv (fuel := big) ts.length (fun i y => y = (ts, ((fs', (ep, (base, (ts', (k, ((oe, (oq, (oc, (q, ())))), ((so, (sfs, (sn, (ds, ())))), ()))))))), ()), (ts.length : Int), (i : Int), ()) ∧ (ts.take i).all (tableP fs') = true) (fun o => ∃ r : Int, decide (r ≥ 0) = (!ts.all (tableP fs')) ∧ o = some (r, ((), (), ()))) (by rw [big_pos]; omega) ⟨rfl, rfl⟩ ?_ ?_
    · rintro i y hi ⟨rfl, hp⟩ Rc hRc
      unfold B.slices_IndexFunc_Table_ValidSender_f1.st2 I.ValidSender_f1
      dsimp only
      simp only [lt_true hi, nn, Bool.and_self, ck_true rfl, cond_true, Int.toNat_natCast, gd hi]
      have h := ht _ (List.getElem_mem hi)
      have e := I_table fs' ts[i] hb h.1 h.2.1 h.2.2 hfl
      rw [show (ts[i].1, ts[i].2.1, ()) = ts[i] from rfl, e]
      simp only [Option.bind_some]
      cases hb : tableP fs' ts[i]
      · refine ⟨i, ?_, rfl⟩
        rw [show ts.all (tableP fs') = false from by
          rw [List.all_eq_false]; exact ⟨ts[i], List.getElem_mem hi, by rw [hb]; simp⟩]
        simp
      · simp only [Bool.not_true, cond_false]
        refine hRc _ ⟨by rw [wr_succ hi (by omega)], ?_⟩
        rw [all_take _ _ _ hi, hp, hb]; rfl
    · rintro y ⟨rfl, hp⟩ Rc
      unfold B.slices_IndexFunc_Table_ValidSender_f1.st2
      rw [List.take_length] at hp
      refine ⟨-1, by rw [hp]; rfl, ?_⟩
      simp [lt_false (Nat.le_refl _)]
  obtain ⟨r, h1, h2⟩ := key
  rw [h2, Option.bind_some, h1]
theorem I_send (x : FSend) (h : OkSd x) : I.ValidSender (x, ()) = some (sendP x, (((), (), (), (), (), (), (), (), (), (), (), (), (), ()), ())) := by
  obtain ⟨fs, ep, base, ts, k, oe, oq, oc, q, so, sfs, sn, ds, u⟩ := x
  obtain ⟨h0, h1, h2, h3, h4, h5⟩ := h
  unfold I.ValidSender sendP
  dsimp only [bne]
  refine bind_of (I_fields fs h0) ?_
  cases fieldsP fs
  · rfl
  cases decide (ep < 1)
  case true => rfl
  cases decide (ep > 1000000000)
  case true => rfl
  cases (oe == ep)
  · rfl
  simp only [BEq.rfl, cond_true, Bool.not_true, Bool.not_false, Bool.true_and]
  refine bind_of (I_out (oe, oq, oc, q, ()) h2) ?_
  cases outP (oe, oq, oc, q, ())
  · rfl
  have hts := h5.1
  simp only [BEq.rfl, cond_true, cond_false, Bool.not_true, Bool.true_and]
  by_cases b0 : base < 0
  · simp [b0]
  by_cases b1 : base > 1000000000
  · simp [b0, b1, show ¬ base + (ts.length : Int) ≤ 1000000000 by omega]
  simp only [b0, b1, decide_false, BEq.rfl, cond_true, cond_false, Bool.not_false, Bool.true_and]
  rw [wr_i64 (base + (ts.length : Int)) (by omega) (by omega)]
  rw [show decide (base + (ts.length : Int) > 1000000000) = !decide (base + (ts.length : Int) ≤ 1000000000) by by_cases g : base + (ts.length : Int) ≤ 1000000000 <;> simp [g] <;> omega]
  cases decide ((ts.length : Int) > 20)
  case true => cases decide (base + (ts.length : Int) ≤ 1000000000) <;> rfl
  cases decide (base + (ts.length : Int) ≤ 1000000000)
  · rfl
  simp only [BEq.rfl, cond_true, Bool.not_true, Bool.not_false, Bool.true_and]
  cases decide (k < 0)
  case true => cases ts.all (tableP fs) <;> rfl
  cases decide (k > (ts.length : Int))
  case true => cases ts.all (tableP fs) <;> rfl
  simp only [BEq.rfl, cond_true, cond_false, Bool.not_true, Bool.not_false, Bool.true_and]
  refine bind_of (I_anySend (fs, ep, base, ts, k, oe, oq, oc, q, so, sfs, sn, ds, ()) fs rfl ts h0 h1 h5) ?_
  cases ts.all (tableP fs)
  · rfl
  simp only [Bool.not_true, cond_false, Bool.true_and]
  refine bind_of (I_stream (so, sfs, sn, ds, ()) h4) ?_
  cases streamP (so, sfs, sn, ds, ())
  · rfl
  cases so
  · rfl
  simp only [BEq.rfl, cond_true, Bool.true_and]
  refine bind_of (I_same sfs fs h4.1 h0 h3) ?_
  cases sameP sfs fs <;> rfl
end Go.Ev

