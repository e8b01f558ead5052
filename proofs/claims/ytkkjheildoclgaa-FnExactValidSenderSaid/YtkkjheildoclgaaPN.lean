/- A text of the claim: plain lemmas of what the functions compute. -/
import Derived.Test.YtkkjheildoclgaaPM
set_option linter.all false
set_option linter.unusedVariables false
set_option linter.unusedSimpArgs false
set_option autoImplicit false
set_option linter.unusedVariables false
set_option linter.unusedSimpArgs false
namespace Go.Ev
/-! ### the tables that wait -/
def OkT (ts : List DTable) : Prop := ts.length ≤ 1048576 ∧ ∀ t, t ∈ ts → OkC t.2.1 ∧ totC t.2.1 ≤ 1048576 ∧ t.2.1.length ≤ 1048576
theorem S_tables (fs : List DField) (ts : List DTable) (hb : ByF fs) (hfl : fs.length ≤ maxL) (ht : OkT ts) : S.l6tablesOK (fs, ts, ()) = some (!decide ((ts.length : Int) > 20) && ts.all (tableP fs), ((), (), ())) := by
  obtain ⟨hl, ht⟩ := ht
  unfold S.l6tablesOK S.l6tablesOK.p
  dsimp only
  cases decide ((ts.length : Int) > 20)
  case true => rfl
  simp only [cond_false, Bool.not_false, Bool.true_and]
  unfold S.l6tablesOK.l4
  refine (rounds_run (fuel := big) ts.length (fun i => (fs, ts, (i : Int), ())) (fun i => some ((ts.drop i).all (tableP fs), ((), (), ()))) (by rw [big_pos]; omega) (fun i hi Rc hRc => ?_) (fun Rc => ?_) : _)
  · unfold S.l6tablesOK.st4
    dsimp only
    simp only [lt_true hi, nn, Bool.and_self, ck_true rfl, cond_true, Int.toNat_natCast, gd hi]
    have h := ht _ (List.getElem_mem hi)
    rw [all_drop _ _ _ hi]
    refine bind_of (S_table fs ts[i] hb h.1 h.2.1 h.2.2 hfl) ?_
    cases tableP fs ts[i]
    · rfl
    · simp only [Bool.not_true, cond_false, Bool.true_and]
      rw [wr_succ hi (by omega)]
      exact hRc
  · unfold S.l6tablesOK.st4
    simp [lt_false (Nat.le_refl _)]
abbrev FRecv := Int × Int × Bool × Int × Int × (List DPacket) × (List Int) × Bool × (List DField) × Int × (List (List (List Int))) × (List DTable) × Int × Unit
def recvP : FRecv → Bool
  | (ep, base, op, le, lb, ps, buf, so, fs, sn, ds, ts, er, _) =>
    !decide (ep < 0) && (!decide (ep > 1000000000) && (!decide (base < 0) && (!decide (base > 1000000000) && (!decide (er < 0) && (!decide (er > 1000000000) &&
    (bif !op then le == 0 && (lb == 0 && ((ps.length : Int) == 0 && ((buf.length : Int) == 0 && (!so && ((fs.length : Int) == 0 && (sn == 0 && ((ds.length : Int) == 0 && (ts.length : Int) == 0)))))))
     else !decide (ep < 1) && (le == ep && (inP (le, lb, ps, buf, ()) && (streamP (so, fs, sn, ds, ()) &&
      (bif !so then (ts.length : Int) == 0 else (!decide ((ts.length : Int) > 20) && ts.all (tableP fs)) && (decide (sn ≤ base + (ts.length : Int)) && ((ts.length : Int) == 0 || sn == base + (ts.length : Int)))))))))))))
def OkR : FRecv → Prop
  | (ep, base, op, le, lb, ps, buf, so, fs, sn, ds, ts, er, _) => ps.length ≤ maxL ∧ fs.length ≤ maxL ∧ OkS (so, fs, sn, ds, ()) ∧ OkT ts
theorem S_ready (ep base : Int) (op : Bool) (le lb : Int) (ps : List DPacket) (buf : List Int) (so : Bool) (fs : List DField) (sn : Int) (ds : List (List (List Int))) (ts : List DTable) (er : Int) (hb : ByF fs) (hfl : fs.length ≤ maxL) (ht : OkT ts) :
    S.l6ready ((ep, base, op, le, lb, ps, buf, so, fs, sn, ds, ts, er, ()), ()) = some (bif !so then (ts.length : Int) == 0 else !decide ((ts.length : Int) > 20) && ts.all (tableP fs), (((), (), (), (), (), (), (), (), (), (), (), (), (), ()), ())) := by
  unfold S.l6ready
  dsimp only
  cases so
  · rfl
  · simp only [Bool.not_true, cond_false]
    exact bind_of (S_tables fs ts hb hfl ht) rfl
theorem S_recv (x : FRecv) (h : OkR x) : S.ValidReceiver (x, ()) = some (recvP x, (((), (), (), (), (), (), (), (), (), (), (), (), (), ()), ())) := by
  obtain ⟨ep, base, op, le, lb, ps, buf, so, fs, sn, ds, ts, er, u⟩ := x
  obtain ⟨h1, h2, h3, h4⟩ := h
  unfold S.ValidReceiver recvP
  dsimp only
  cases decide (ep < 0)
  case true => rfl
  cases decide (ep > 1000000000)
  case true => rfl
  by_cases b0 : base < 0
  · simp [b0]
  by_cases b1 : base > 1000000000
  · simp [b0, b1]
  simp only [b0, b1, decide_false, BEq.rfl, cond_true, Bool.not_false, Bool.true_and]
  cases decide (er < 0)
  case true => rfl
  cases decide (er > 1000000000)
  case true => rfl
  simp only [BEq.rfl, cond_true, cond_false, Bool.not_false, Bool.true_and]
  cases op
  · simp only [Bool.not_false, cond_true]
    generalize (le == 0) = a1
    generalize (lb == 0) = a2
    generalize ((ps.length : Int) == 0) = a3
    generalize ((buf.length : Int) == 0) = a4
    generalize (sn == 0) = a5
    generalize ((fs.length : Int) == 0) = a6
    generalize ((ds.length : Int) == 0) = a7
    generalize ((ts.length : Int) == 0) = a8
    cases a1
    · rfl
    cases a2
    · rfl
    cases a3
    · rfl
    cases a4
    · rfl
    cases so <;> cases a5 <;> cases a6 <;> cases a7 <;> cases a8 <;> rfl
  simp only [Bool.not_true, cond_false, bne]
  cases decide (ep < 1)
  case true => rfl
  cases (le == ep)
  · rfl
  simp only [BEq.rfl, cond_true, Bool.not_false, Bool.not_true, Bool.true_and]
  refine bind_of (S_in (le, lb, ps, buf, ()) h1) ?_
  cases inP (le, lb, ps, buf, ())
  · rfl
  simp only [BEq.rfl, cond_true, Bool.not_true, Bool.true_and]
  refine bind_of (S_stream (so, fs, sn, ds, ()) h3) ?_
  cases streamP (so, fs, sn, ds, ())
  · rfl
  simp only [BEq.rfl, cond_true, Bool.not_true, Bool.true_and]
  refine bind_of (S_ready ep base true le lb ps buf so fs sn ds ts er h3.1 h2 h4) ?_
  have ht := h4.1
  rw [wr_i64 (base + (ts.length : Int)) (by omega) (by omega)]
  cases so
  · simp only [Bool.not_false, cond_true]
    cases ((ts.length : Int) == 0) <;> rfl
  · simp only [Bool.not_true, cond_false]
    cases (!decide ((ts.length : Int) > 20) && ts.all (tableP fs))
    · rfl
    simp only [Bool.not_true, cond_false, Bool.true_and]
    cases decide (sn ≤ base + (ts.length : Int)) <;> cases ((ts.length : Int) == 0) <;> rfl
theorem I_anyTable (x : FRecv) (fs : List DField) (hx : x.2.2.2.2.2.2.2.2.1 = fs) (ts : List DTable) (hb : ByF fs) (hfl : fs.length ≤ maxL) (ht : OkT ts) :
    B.slices_ContainsFunc_Table_ValidReceiver_f1 (ts, ((x.1, (x.2.1, (x.2.2.1, ((x.2.2.2.1, (x.2.2.2.2.1, (x.2.2.2.2.2.1, (x.2.2.2.2.2.2.1, ())))), ((x.2.2.2.2.2.2.2.1, (x.2.2.2.2.2.2.2.2.1, (x.2.2.2.2.2.2.2.2.2.1, (x.2.2.2.2.2.2.2.2.2.2.1, ())))), (x.2.2.2.2.2.2.2.2.2.2.2.1, (x.2.2.2.2.2.2.2.2.2.2.2.2.1, ()))))))), ()), ()) = some (!ts.all (tableP fs), ((), (), ())) := by
  obtain ⟨ep, base, op, le, lb, ps, buf, so, fs', sn, ds, ts', er, u⟩ := x
  obtain rfl : fs' = fs := hx
  obtain ⟨hl, ht⟩ := ht
  unfold B.slices_ContainsFunc_Table_ValidReceiver_f1 B.slices_IndexFunc_Table_ValidReceiver_f1 B.slices_IndexFunc_Table_ValidReceiver_f1.p B.slices_IndexFunc_Table_ValidReceiver_f1.l2
  dsimp only
  have key : ∃ r : Int, decide (r ≥ 0) = (!ts.all (tableP fs')) ∧ rounds B.slices_IndexFunc_Table_ValidReceiver_f1.st2 big (fun i2 y2 => bif Nat.beq i2 0 then some (-1, ((), (), ())) else none) (ts, ((ep, (base, (op, ((le, (lb, (ps, (buf, ())))), ((so, (fs', (sn, (ds, ())))), (ts', (er, ()))))))), ()), (ts.length : Int), 0, ()) = some (r, ((), (), ())) := by
    refine rounds_inv (fuel := big) ts.length (fun i y => y = (ts, ((ep, (base, (op, ((le, (lb, (ps, (buf, ())))), ((so, (fs', (sn, (ds, ())))), (ts', (er, ()))))))), ()), (ts.length : Int), (i : Int), ()) ∧ (ts.take i).all (tableP fs') = true) (fun o => ∃ r : Int, decide (r ≥ 0) = (!ts.all (tableP fs')) ∧ o = some (r, ((), (), ()))) (by rw [big_pos]; omega) ⟨rfl, rfl⟩ ?_ ?_
    · rintro i y hi ⟨rfl, hp⟩ Rc hRc
      unfold B.slices_IndexFunc_Table_ValidReceiver_f1.st2 I.ValidReceiver_f1
      dsimp only
      simp only [lt_true hi, nn, Bool.and_self, ck_true rfl, cond_true, Int.toNat_natCast, gd hi]
      have h := ht _ (List.getElem_mem hi)
      have e := I_table fs' ts[i] hb h.1 h.2.1 h.2.2 hfl
      rw [show (ts[i].1, ts[i].2.1, ()) = ts[i] from rfl, e]
      simp only [Option.bind_some]
      cases hb : tableP fs' ts[i]
      · refine ⟨i, ?_, rfl⟩
        rw [show ts.all (tableP fs') = false from by
          rw [List.all_eq_false]; exact ⟨ts[i], List.getElem_mem hi, by rw [hb]; simp⟩]
        simp
      · simp only [Bool.not_true, cond_false]
        refine hRc _ ⟨by rw [wr_succ hi (by omega)], ?_⟩
        rw [all_take _ _ _ hi, hp, hb]; rfl
    · rintro y ⟨rfl, hp⟩ Rc
      unfold B.slices_IndexFunc_Table_ValidReceiver_f1.st2
      rw [List.take_length] at hp
      refine ⟨-1, by rw [hp]; rfl, ?_⟩
      simp [lt_false (Nat.le_refl _)]
  obtain ⟨r, h1, h2⟩ := key
  rw [h2, Option.bind_some, h1]
theorem I_recv (x : FRecv) (h : OkR x) : I.ValidReceiver (x, ()) = some (recvP x, (((), (), (), (), (), (), (), (), (), (), (), (), (), ()), ())) := by
  obtain ⟨ep, base, op, le, lb, ps, buf, so, fs, sn, ds, ts, er, u⟩ := x
  obtain ⟨h1, h2, h3, h4⟩ := h
  unfold I.ValidReceiver recvP
  dsimp only
  cases decide (ep < 0)
  case true => rfl
  cases decide (ep > 1000000000)
  case true => rfl
  by_cases b0 : base < 0
  · simp [b0]
  by_cases b1 : base > 1000000000
  · simp [b0, b1]
  simp only [b0, b1, decide_false, BEq.rfl, cond_true, Bool.not_false, Bool.true_and]
  cases decide (er < 0)
  case true => rfl
  cases decide (er > 1000000000)
  case true => rfl
  simp only [BEq.rfl, cond_true, cond_false, Bool.not_false, Bool.true_and]
  cases op
  · simp only [Bool.not_false, cond_true]
    rw [I_stream (so, fs, sn, ds, ()) h3]
    unfold streamP
    simp only [Option.bind_some]
    generalize (le == 0) = a1
    generalize (lb == 0) = a2
    generalize ((ps.length : Int) == 0) = a3
    generalize ((buf.length : Int) == 0) = a4
    cases a1
    · rfl
    cases a2
    · rfl
    cases a3
    · rfl
    cases a4
    · rfl
    cases so
    · simp only [Bool.not_false, cond_true, BEq.rfl, Bool.true_and]
      generalize (sn == 0) = a5
      generalize ((fs.length : Int) == 0) = a6
      generalize ((ds.length : Int) == 0) = a7
      generalize ((ts.length : Int) == 0) = a8
      cases a5 <;> cases a6 <;> cases a7 <;> cases a8 <;> rfl
    · rfl
  simp only [Bool.not_true, cond_false, bne]
  cases decide (ep < 1)
  case true => rfl
  cases (le == ep)
  · rfl
  simp only [BEq.rfl, cond_true, Bool.not_false, Bool.not_true, Bool.true_and]
  refine bind_of (I_in (le, lb, ps, buf, ()) h1) ?_
  cases inP (le, lb, ps, buf, ())
  · rfl
  simp only [BEq.rfl, cond_true, Bool.not_true, Bool.true_and]
  refine bind_of (I_stream (so, fs, sn, ds, ()) h3) ?_
  cases streamP (so, fs, sn, ds, ())
  · rfl
  simp only [BEq.rfl, cond_true, Bool.not_true, Bool.true_and]
  have ht := h4.1
  rw [wr_i64 (base + (ts.length : Int)) (by omega) (by omega)]
  by_cases g : (ts.length : Int) > 20
  · have : ((ts.length : Int) == 0) = false := by rw [beq_eq_false_iff_ne]; omega
    simp only [g, this, decide_true, cond_true, Bool.not_true, Bool.false_and]
    cases so <;> rfl
  simp only [g, decide_false, cond_false, Bool.not_false, Bool.true_and]
  cases so
  · rfl
  simp only [Bool.not_true, cond_false]
  refine bind_of (I_anyTable (ep, base, true, le, lb, ps, buf, true, fs, sn, ds, ts, er, ()) fs rfl ts h3.1 h2 h4) ?_
  rw [show (base + (ts.length : Int) == sn) = (sn == base + (ts.length : Int)) by rw [Bool.eq_iff_iff, beq_iff_eq, beq_iff_eq]; exact eq_comm]
  cases ts.all (tableP fs)
  · rfl
  simp only [Bool.not_true, cond_false, Bool.true_and, ge_iff_le]
  cases decide (sn ≤ base + (ts.length : Int)) <;> cases ((ts.length : Int) == 0) <;> rfl
end Go.Ev

