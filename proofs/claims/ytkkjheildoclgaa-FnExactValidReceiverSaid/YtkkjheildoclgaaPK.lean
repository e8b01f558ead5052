/- A text of the claim: plain lemmas of what the functions compute. -/
import Derived.Test.YtkkjheildoclgaaPJ
import Derived.Test.YtkkjheildoclgaaYFb
set_option linter.all false
set_option linter.unusedVariables false
set_option linter.unusedSimpArgs false
set_option autoImplicit false
set_option linter.unusedVariables false
set_option linter.unusedSimpArgs false
namespace Go.Ev
def wField (x : (List Int) × Int × Int × Unit) : Nat := wByteS x.1
def bField (x : (List Int) × Int × Int × Unit) : Prop := bByteS x.1
theorem Field_sz (x : (List Int) × Int × Int × Unit) (n : Int) (hb : bField x) (h0 : 0 ≤ n) (hn : n ≤ 1048576) : L.szField (x, n, ()) = some (szP (wField x) n, (((), (), (), ()), (), ())) := by
  unfold bField at hb
  unfold L.szField
  dsimp only
  have g0 := ByteS_sz x.1 (n) hb (by omega) (by omega)
  by_cases n0 : n < (wByteS x.1 : Int)
  · rw [szP_lt n0] at g0
    refine bind_of g0 ?_
    rw [szP_lt (show n < (wField x : Int) by unfold wField; omega)]
    rfl
  rw [szP_ge (by omega)] at g0
  refine bind_of g0 ?_
  simp only [show decide (n - (wByteS x.1 : Int) < 0) = false by simp; omega, cond_false]
  rw [szP_ge (show (wField x : Int) ≤ n by unfold wField; omega)]
  rw [show n - (wByteS x.1 : Int) = n - (wField x : Int) by unfold wField; omega]
theorem Field_to (x : (List Int) × Int × Int × Unit) (h : wField x ≤ 1048576) : L.toField (x, ()) = some (x, (((), (), (), ()), ())) := by
  unfold wField at h
  unfold L.toField
  dsimp only
  refine bind_of (ByteS_to x.1 (by omega)) ?_
  rfl
theorem Field_eq (x : (List Int) × Int × Int × Unit) (h : bField x) : L.eqField (x, x, ()) = some (true, (((), (), (), ()), ((), (), (), ()), ())) := by
  unfold bField at h
  unfold L.eqField
  simp only [bne_self_eq_false, BEq.rfl, Bool.not_true, cond_false]
  refine bind_of (ByteS_eq x.1 h) ?_
  simp only [bne_self_eq_false, BEq.rfl, Bool.not_true, cond_false]
def wCell (x : Bool × Int × (List Int) × Unit) : Nat := wByteS x.2.2.1
def bCell (x : Bool × Int × (List Int) × Unit) : Prop := bByteS x.2.2.1
theorem Cell_sz (x : Bool × Int × (List Int) × Unit) (n : Int) (hb : bCell x) (h0 : 0 ≤ n) (hn : n ≤ 1048576) : L.szCell (x, n, ()) = some (szP (wCell x) n, (((), (), (), ()), (), ())) := by
  unfold bCell at hb
  unfold L.szCell
  dsimp only
  have g0 := ByteS_sz x.2.2.1 (n) hb (by omega) (by omega)
  by_cases n0 : n < (wByteS x.2.2.1 : Int)
  · rw [szP_lt n0] at g0
    refine bind_of g0 ?_
    rw [szP_lt (show n < (wCell x : Int) by unfold wCell; omega)]
    rfl
  rw [szP_ge (by omega)] at g0
  refine bind_of g0 ?_
  simp only [show decide (n - (wByteS x.2.2.1 : Int) < 0) = false by simp; omega, cond_false]
  rw [szP_ge (show (wCell x : Int) ≤ n by unfold wCell; omega)]
  rw [show n - (wByteS x.2.2.1 : Int) = n - (wCell x : Int) by unfold wCell; omega]
theorem Cell_to (x : Bool × Int × (List Int) × Unit) (h : wCell x ≤ 1048576) : L.toCell (x, ()) = some (x, (((), (), (), ()), ())) := by
  unfold wCell at h
  unfold L.toCell
  dsimp only
  refine bind_of (ByteS_to x.2.2.1 (by omega)) ?_
  rfl
theorem Cell_eq (x : Bool × Int × (List Int) × Unit) (h : bCell x) : L.eqCell (x, x, ()) = some (true, (((), (), (), ()), ((), (), (), ()), ())) := by
  unfold bCell at h
  unfold L.eqCell
  simp only [bne_self_eq_false, BEq.rfl, Bool.not_true, cond_false]
  refine bind_of (ByteS_eq x.2.2.1 h) ?_
  simp only [bne_self_eq_false, BEq.rfl, Bool.not_true, cond_false]
def wCellS (xs : List DCell) : Nat := wL (fun (e : DCell) => wCell (e.1, e.2.1, e.2.2.1, ())) xs
def bCellS (xs : List DCell) : Prop := xs.length ≤ maxL ∧ ∀ (e : DCell), e ∈ xs → bCell (e.1, e.2.1, e.2.2.1, ())
theorem CellS_sz (xs : List DCell) (n : Int) (hb : bCellS xs) (h0 : 0 ≤ n) (hn : n ≤ 1048576) : L.szCellS (xs, n, ()) = some (szP (wCellS xs) n, ((), (), ())) := by
  obtain ⟨ha, hc⟩ := hb
  unfold maxL at ha
  unfold L.szCellS L.szCellS.p
  dsimp only
  rw [wr_i64 _ (by omega) (by omega)]
  have hlen := wL_len (fun (e : DCell) => wCell (e.1, e.2.1, e.2.2.1, ())) xs
  by_cases h : n - (xs.length : Int) < 0
  · rw [szP_lt (show n < (wCellS xs : Int) by unfold wCellS; omega)]
    simp [h]
  · simp only [h, decide_false, cond_false]
    unfold L.szCellS.l5
    refine rounds_inv (fuel := big) xs.length (fun i x => ∃ l : Int, x = (xs, l, (i : Int), ()) ∧ 0 ≤ l ∧ l + (wL (fun (e : DCell) => wCell (e.1, e.2.1, e.2.2.1, ())) (xs.take i) : Int) + ((xs.length - i : Nat) : Int) = n) (fun o => o = some (szP (wCellS xs) n, ((), (), ()))) (by rw [big_pos]; omega) ⟨_, rfl, by omega, by simp [wL]⟩ ?_ ?_
    · rintro i x hi ⟨l, rfl, hl0, hl⟩ Rc hRc
      unfold L.szCellS.st5
      dsimp only
      simp only [lt_true hi, nn, Bool.and_self, ck, cond_true, Int.toNat_natCast, gd hi]
      have h1 := Cell_sz ((fun (e : DCell) => ((e.1, e.2.1, e.2.2.1, ()))) xs[i]) l (hc _ (List.getElem_mem hi)) hl0 (by omega)
      have hw := wL_take (fun (e : DCell) => wCell (e.1, e.2.1, e.2.2.1, ())) xs i hi
      have hle := wL_le (fun (e : DCell) => wCell (e.1, e.2.1, e.2.2.1, ())) xs (i + 1) (by omega)
      simp only [] at h1 hw
      by_cases hr : l < (wCell ((fun (e : DCell) => ((e.1, e.2.1, e.2.2.1, ()))) xs[i]) : Int)
      · rw [szP_lt (by simpa using hr)] at h1
        refine bind_of h1 ?_
        rw [szP_lt (show n < (wCellS xs : Int) by simp only [] at hr; unfold wCellS; omega)]
        rfl
      · rw [szP_ge (by simp only [] at hr ⊢; omega)] at h1
        refine bind_of h1 ?_
        simp only [] at hr
        simp only [show decide (l - (wCell (xs[i].1, xs[i].2.1, xs[i].2.2.1, ()) : Int) < 0) = false by simp; omega, cond_false]
        refine hRc _ ⟨_, by rw [wr_succ hi ha], by omega, by omega⟩
    · rintro x ⟨l, rfl, hl0, hl⟩ Rc
      unfold L.szCellS.st5
      dsimp only
      rw [lt_false (Nat.le_refl _), cond_false]
      rw [List.take_length] at hl
      rw [szP_ge (show (wCellS xs : Int) ≤ n by unfold wCellS; omega)]
      simp only [show Nat.beq 0 0 = true from rfl, cond_true]
      rw [show n - (wCellS xs : Int) = l by unfold wCellS; omega]
theorem CellS_to (xs : List DCell) (h : wCellS xs ≤ 1048576) : L.toCellS (xs, ()) = some (xs, ((), ())) := by
  have hlen := wL_len (fun (e : DCell) => wCell (e.1, e.2.1, e.2.2.1, ())) xs
  have hm := wL_mem (fun (e : DCell) => wCell (e.1, e.2.1, e.2.2.1, ())) xs
  unfold wCellS at h
  have h' : xs.length ≤ 1048576 := by omega
  unfold L.toCellS L.toCellS.p
  dsimp only
  rw [ck_true (by simp; omega)]
  unfold L.toCellS.l3
  refine (rounds_run (fuel := big) xs.length (fun i => (xs, xs.take i ++ List.replicate (xs.length - i) (zCell : DCell), (i : Int), ())) (fun _ => some (xs, ((), ()))) (by rw [big_pos]; omega) (fun i hi Rc hRc => ?_) (fun Rc => ?_) : _)
  · unfold L.toCellS.st3
    have hl : i < (xs.take i ++ List.replicate (xs.length - i) (zCell : DCell)).length := by simp; omega
    simp only [lt_true hi, lt_true hl, nn, Bool.and_self, ck, cond_true, Int.toNat_natCast, gd hi, gd hl]
    have hw := hm _ (List.getElem_mem hi)
    refine bind_of (Cell_to ((fun (e : DCell) => ((e.1, e.2.1, e.2.2.1, ()))) xs[i]) (Nat.le_trans hw h)) ?_
    simp only []
    rw [wr_succ hi (by omega)]
    refine Eq.trans (congrArg Rc ?_) hRc
    rw [← take_rep_set _ _ _ hi]
  · unfold L.toCellS.st3
    simp [lt_false (Nat.le_refl _)]
theorem CellS_eq (xs : List DCell) (h : bCellS xs) : L.eqCellS (xs, xs, ()) = some (true, ((), (), ())) := by
  obtain ⟨h, hc⟩ := h
  unfold maxL at h
  unfold L.eqCellS L.eqCellS.p
  simp only [bne_self_eq_false, cond_false]
  unfold L.eqCellS.l4
  refine (rounds_run (fuel := big) xs.length (fun i => (xs, xs, (i : Int), ())) (fun _ => some (true, ((), (), ()))) (by rw [big_pos]; omega) (fun i hi Rc hRc => ?_) (fun Rc => ?_) : _)
  · unfold L.eqCellS.st4
    simp only [lt_true hi, nn, Bool.and_self, ck, cond_true, Int.toNat_natCast, gd hi]
    refine bind_of (Cell_eq ((fun (e : DCell) => ((e.1, e.2.1, e.2.2.1, ()))) xs[i]) (hc _ (List.getElem_mem hi))) ?_
    simp only [Bool.not_true, cond_false]
    rw [wr_succ hi (by omega)]
    exact hRc
  · unfold L.eqCellS.st4
    simp [lt_false (Nat.le_refl _)]
def wByteSS (xs : List (List Int)) : Nat := wL (fun (e : (List Int)) => wByteS e) xs
def bByteSS (xs : List (List Int)) : Prop := xs.length ≤ maxL ∧ ∀ (e : (List Int)), e ∈ xs → bByteS e
theorem ByteSS_sz (xs : List (List Int)) (n : Int) (hb : bByteSS xs) (h0 : 0 ≤ n) (hn : n ≤ 1048576) : L.szByteSS (xs, n, ()) = some (szP (wByteSS xs) n, ((), (), ())) := by
  obtain ⟨ha, hc⟩ := hb
  unfold maxL at ha
  unfold L.szByteSS L.szByteSS.p
  dsimp only
  rw [wr_i64 _ (by omega) (by omega)]
  have hlen := wL_len (fun (e : (List Int)) => wByteS e) xs
  by_cases h : n - (xs.length : Int) < 0
  · rw [szP_lt (show n < (wByteSS xs : Int) by unfold wByteSS; omega)]
    simp [h]
  · simp only [h, decide_false, cond_false]
    unfold L.szByteSS.l5
    refine rounds_inv (fuel := big) xs.length (fun i x => ∃ l : Int, x = (xs, l, (i : Int), ()) ∧ 0 ≤ l ∧ l + (wL (fun (e : (List Int)) => wByteS e) (xs.take i) : Int) + ((xs.length - i : Nat) : Int) = n) (fun o => o = some (szP (wByteSS xs) n, ((), (), ()))) (by rw [big_pos]; omega) ⟨_, rfl, by omega, by simp [wL]⟩ ?_ ?_
    · rintro i x hi ⟨l, rfl, hl0, hl⟩ Rc hRc
      unfold L.szByteSS.st5
      dsimp only
      simp only [lt_true hi, nn, Bool.and_self, ck, cond_true, Int.toNat_natCast, gd hi]
      have h1 := ByteS_sz ((fun (e : (List Int)) => (e)) xs[i]) l (hc _ (List.getElem_mem hi)) hl0 (by omega)
      have hw := wL_take (fun (e : (List Int)) => wByteS e) xs i hi
      have hle := wL_le (fun (e : (List Int)) => wByteS e) xs (i + 1) (by omega)
      simp only [] at h1 hw
      by_cases hr : l < (wByteS ((fun (e : (List Int)) => (e)) xs[i]) : Int)
      · rw [szP_lt (by simpa using hr)] at h1
        refine bind_of h1 ?_
        rw [szP_lt (show n < (wByteSS xs : Int) by simp only [] at hr; unfold wByteSS; omega)]
        rfl
      · rw [szP_ge (by simp only [] at hr ⊢; omega)] at h1
        refine bind_of h1 ?_
        simp only [] at hr
        simp only [show decide (l - (wByteS xs[i] : Int) < 0) = false by simp; omega, cond_false]
        refine hRc _ ⟨_, by rw [wr_succ hi ha], by omega, by omega⟩
    · rintro x ⟨l, rfl, hl0, hl⟩ Rc
      unfold L.szByteSS.st5
      dsimp only
      rw [lt_false (Nat.le_refl _), cond_false]
      rw [List.take_length] at hl
      rw [szP_ge (show (wByteSS xs : Int) ≤ n by unfold wByteSS; omega)]
      simp only [show Nat.beq 0 0 = true from rfl, cond_true]
      rw [show n - (wByteSS xs : Int) = l by unfold wByteSS; omega]
theorem ByteSS_to (xs : List (List Int)) (h : wByteSS xs ≤ 1048576) : L.toByteSS (xs, ()) = some (xs, ((), ())) := by
  have hlen := wL_len (fun (e : (List Int)) => wByteS e) xs
  have hm := wL_mem (fun (e : (List Int)) => wByteS e) xs
  unfold wByteSS at h
  have h' : xs.length ≤ 1048576 := by omega
  unfold L.toByteSS L.toByteSS.p
  dsimp only
  rw [ck_true (by simp; omega)]
  unfold L.toByteSS.l3
  refine (rounds_run (fuel := big) xs.length (fun i => (xs, xs.take i ++ List.replicate (xs.length - i) ([] : (List Int)), (i : Int), ())) (fun _ => some (xs, ((), ()))) (by rw [big_pos]; omega) (fun i hi Rc hRc => ?_) (fun Rc => ?_) : _)
  · unfold L.toByteSS.st3
    have hl : i < (xs.take i ++ List.replicate (xs.length - i) ([] : (List Int))).length := by simp; omega
    simp only [lt_true hi, lt_true hl, nn, Bool.and_self, ck, cond_true, Int.toNat_natCast, gd hi, gd hl]
    have hw := hm _ (List.getElem_mem hi)
    refine bind_of (ByteS_to ((fun (e : (List Int)) => (e)) xs[i]) (Nat.le_trans hw h)) ?_
    simp only []
    rw [wr_succ hi (by omega)]
    refine Eq.trans (congrArg Rc ?_) hRc
    rw [← take_rep_set _ _ _ hi]
  · unfold L.toByteSS.st3
    simp [lt_false (Nat.le_refl _)]
theorem ByteSS_eq (xs : List (List Int)) (h : bByteSS xs) : L.eqByteSS (xs, xs, ()) = some (true, ((), (), ())) := by
  obtain ⟨h, hc⟩ := h
  unfold maxL at h
  unfold L.eqByteSS L.eqByteSS.p
  simp only [bne_self_eq_false, cond_false]
  unfold L.eqByteSS.l4
  refine (rounds_run (fuel := big) xs.length (fun i => (xs, xs, (i : Int), ())) (fun _ => some (true, ((), (), ()))) (by rw [big_pos]; omega) (fun i hi Rc hRc => ?_) (fun Rc => ?_) : _)
  · unfold L.eqByteSS.st4
    simp only [lt_true hi, nn, Bool.and_self, ck, cond_true, Int.toNat_natCast, gd hi]
    refine bind_of (ByteS_eq ((fun (e : (List Int)) => (e)) xs[i]) (hc _ (List.getElem_mem hi))) ?_
    simp only [Bool.not_true, cond_false]
    rw [wr_succ hi (by omega)]
    exact hRc
  · unfold L.eqByteSS.st4
    simp [lt_false (Nat.le_refl _)]
def wPacket (x : Int × Int × Int × Int × Bool × (List Int) × Unit) : Nat := wByteS x.2.2.2.2.2.1
def bPacket (x : Int × Int × Int × Int × Bool × (List Int) × Unit) : Prop := bByteS x.2.2.2.2.2.1
theorem Packet_sz (x : Int × Int × Int × Int × Bool × (List Int) × Unit) (n : Int) (hb : bPacket x) (h0 : 0 ≤ n) (hn : n ≤ 1048576) : L.szPacket (x, n, ()) = some (szP (wPacket x) n, (((), (), (), (), (), (), ()), (), ())) := by
  unfold bPacket at hb
  unfold L.szPacket
  dsimp only
  have g0 := ByteS_sz x.2.2.2.2.2.1 (n) hb (by omega) (by omega)
  by_cases n0 : n < (wByteS x.2.2.2.2.2.1 : Int)
  · rw [szP_lt n0] at g0
    refine bind_of g0 ?_
    rw [szP_lt (show n < (wPacket x : Int) by unfold wPacket; omega)]
    rfl
  rw [szP_ge (by omega)] at g0
  refine bind_of g0 ?_
  simp only [show decide (n - (wByteS x.2.2.2.2.2.1 : Int) < 0) = false by simp; omega, cond_false]
  rw [szP_ge (show (wPacket x : Int) ≤ n by unfold wPacket; omega)]
  rw [show n - (wByteS x.2.2.2.2.2.1 : Int) = n - (wPacket x : Int) by unfold wPacket; omega]
theorem Packet_to (x : Int × Int × Int × Int × Bool × (List Int) × Unit) (h : wPacket x ≤ 1048576) : L.toPacket (x, ()) = some (x, (((), (), (), (), (), (), ()), ())) := by
  unfold wPacket at h
  unfold L.toPacket
  dsimp only
  refine bind_of (ByteS_to x.2.2.2.2.2.1 (by omega)) ?_
  rfl
theorem Packet_eq (x : Int × Int × Int × Int × Bool × (List Int) × Unit) (h : bPacket x) : L.eqPacket (x, x, ()) = some (true, (((), (), (), (), (), (), ()), ((), (), (), (), (), (), ()), ())) := by
  unfold bPacket at h
  unfold L.eqPacket
  simp only [bne_self_eq_false, BEq.rfl, Bool.not_true, cond_false]
  refine bind_of (ByteS_eq x.2.2.2.2.2.1 h) ?_
  simp only [bne_self_eq_false, BEq.rfl, Bool.not_true, cond_false]
def wPacketS (xs : List DPacket) : Nat := wL (fun (e : DPacket) => wPacket (e.1, e.2.1, e.2.2.1, e.2.2.2.1, e.2.2.2.2.1, e.2.2.2.2.2.1, ())) xs
def bPacketS (xs : List DPacket) : Prop := xs.length ≤ maxL ∧ ∀ (e : DPacket), e ∈ xs → bPacket (e.1, e.2.1, e.2.2.1, e.2.2.2.1, e.2.2.2.2.1, e.2.2.2.2.2.1, ())
theorem PacketS_sz (xs : List DPacket) (n : Int) (hb : bPacketS xs) (h0 : 0 ≤ n) (hn : n ≤ 1048576) : L.szPacketS (xs, n, ()) = some (szP (wPacketS xs) n, ((), (), ())) := by
  obtain ⟨ha, hc⟩ := hb
  unfold maxL at ha
  unfold L.szPacketS L.szPacketS.p
  dsimp only
  rw [wr_i64 _ (by omega) (by omega)]
  have hlen := wL_len (fun (e : DPacket) => wPacket (e.1, e.2.1, e.2.2.1, e.2.2.2.1, e.2.2.2.2.1, e.2.2.2.2.2.1, ())) xs
  by_cases h : n - (xs.length : Int) < 0
  · rw [szP_lt (show n < (wPacketS xs : Int) by unfold wPacketS; omega)]
    simp [h]
  · simp only [h, decide_false, cond_false]
    unfold L.szPacketS.l5
    refine rounds_inv (fuel := big) xs.length (fun i x => ∃ l : Int, x = (xs, l, (i : Int), ()) ∧ 0 ≤ l ∧ l + (wL (fun (e : DPacket) => wPacket (e.1, e.2.1, e.2.2.1, e.2.2.2.1, e.2.2.2.2.1, e.2.2.2.2.2.1, ())) (xs.take i) : Int) + ((xs.length - i : Nat) : Int) = n) (fun o => o = some (szP (wPacketS xs) n, ((), (), ()))) (by rw [big_pos]; omega) ⟨_, rfl, by omega, by simp [wL]⟩ ?_ ?_
    · rintro i x hi ⟨l, rfl, hl0, hl⟩ Rc hRc
      unfold L.szPacketS.st5
      dsimp only
      simp only [lt_true hi, nn, Bool.and_self, ck, cond_true, Int.toNat_natCast, gd hi]
      have h1 := Packet_sz ((fun (e : DPacket) => ((e.1, e.2.1, e.2.2.1, e.2.2.2.1, e.2.2.2.2.1, e.2.2.2.2.2.1, ()))) xs[i]) l (hc _ (List.getElem_mem hi)) hl0 (by omega)
      have hw := wL_take (fun (e : DPacket) => wPacket (e.1, e.2.1, e.2.2.1, e.2.2.2.1, e.2.2.2.2.1, e.2.2.2.2.2.1, ())) xs i hi
      have hle := wL_le (fun (e : DPacket) => wPacket (e.1, e.2.1, e.2.2.1, e.2.2.2.1, e.2.2.2.2.1, e.2.2.2.2.2.1, ())) xs (i + 1) (by omega)
      simp only [] at h1 hw
      by_cases hr : l < (wPacket ((fun (e : DPacket) => ((e.1, e.2.1, e.2.2.1, e.2.2.2.1, e.2.2.2.2.1, e.2.2.2.2.2.1, ()))) xs[i]) : Int)
      · rw [szP_lt (by simpa using hr)] at h1
        refine bind_of h1 ?_
        rw [szP_lt (show n < (wPacketS xs : Int) by simp only [] at hr; unfold wPacketS; omega)]
        rfl
      · rw [szP_ge (by simp only [] at hr ⊢; omega)] at h1
        refine bind_of h1 ?_
        simp only [] at hr
        simp only [show decide (l - (wPacket (xs[i].1, xs[i].2.1, xs[i].2.2.1, xs[i].2.2.2.1, xs[i].2.2.2.2.1, xs[i].2.2.2.2.2.1, ()) : Int) < 0) = false by simp; omega, cond_false]
        refine hRc _ ⟨_, by rw [wr_succ hi ha], by omega, by omega⟩
    · rintro x ⟨l, rfl, hl0, hl⟩ Rc
      unfold L.szPacketS.st5
      dsimp only
      rw [lt_false (Nat.le_refl _), cond_false]
      rw [List.take_length] at hl
      rw [szP_ge (show (wPacketS xs : Int) ≤ n by unfold wPacketS; omega)]
      simp only [show Nat.beq 0 0 = true from rfl, cond_true]
      rw [show n - (wPacketS xs : Int) = l by unfold wPacketS; omega]
theorem PacketS_to (xs : List DPacket) (h : wPacketS xs ≤ 1048576) : L.toPacketS (xs, ()) = some (xs, ((), ())) := by
  have hlen := wL_len (fun (e : DPacket) => wPacket (e.1, e.2.1, e.2.2.1, e.2.2.2.1, e.2.2.2.2.1, e.2.2.2.2.2.1, ())) xs
  have hm := wL_mem (fun (e : DPacket) => wPacket (e.1, e.2.1, e.2.2.1, e.2.2.2.1, e.2.2.2.2.1, e.2.2.2.2.2.1, ())) xs
  unfold wPacketS at h
  have h' : xs.length ≤ 1048576 := by omega
  unfold L.toPacketS L.toPacketS.p
  dsimp only
  rw [ck_true (by simp; omega)]
  unfold L.toPacketS.l3
  refine (rounds_run (fuel := big) xs.length (fun i => (xs, xs.take i ++ List.replicate (xs.length - i) (zPacket : DPacket), (i : Int), ())) (fun _ => some (xs, ((), ()))) (by rw [big_pos]; omega) (fun i hi Rc hRc => ?_) (fun Rc => ?_) : _)
  · unfold L.toPacketS.st3
    have hl : i < (xs.take i ++ List.replicate (xs.length - i) (zPacket : DPacket)).length := by simp; omega
    simp only [lt_true hi, lt_true hl, nn, Bool.and_self, ck, cond_true, Int.toNat_natCast, gd hi, gd hl]
    have hw := hm _ (List.getElem_mem hi)
    refine bind_of (Packet_to ((fun (e : DPacket) => ((e.1, e.2.1, e.2.2.1, e.2.2.2.1, e.2.2.2.2.1, e.2.2.2.2.2.1, ()))) xs[i]) (Nat.le_trans hw h)) ?_
    simp only []
    rw [wr_succ hi (by omega)]
    refine Eq.trans (congrArg Rc ?_) hRc
    rw [← take_rep_set _ _ _ hi]
  · unfold L.toPacketS.st3
    simp [lt_false (Nat.le_refl _)]
theorem PacketS_eq (xs : List DPacket) (h : bPacketS xs) : L.eqPacketS (xs, xs, ()) = some (true, ((), (), ())) := by
  obtain ⟨h, hc⟩ := h
  unfold maxL at h
  unfold L.eqPacketS L.eqPacketS.p
  simp only [bne_self_eq_false, cond_false]
  unfold L.eqPacketS.l4
  refine (rounds_run (fuel := big) xs.length (fun i => (xs, xs, (i : Int), ())) (fun _ => some (true, ((), (), ()))) (by rw [big_pos]; omega) (fun i hi Rc hRc => ?_) (fun Rc => ?_) : _)
  · unfold L.eqPacketS.st4
    simp only [lt_true hi, nn, Bool.and_self, ck, cond_true, Int.toNat_natCast, gd hi]
    refine bind_of (Packet_eq ((fun (e : DPacket) => ((e.1, e.2.1, e.2.2.1, e.2.2.2.1, e.2.2.2.2.1, e.2.2.2.2.2.1, ()))) xs[i]) (hc _ (List.getElem_mem hi))) ?_
    simp only [Bool.not_true, cond_false]
    rw [wr_succ hi (by omega)]
    exact hRc
  · unfold L.eqPacketS.st4
    simp [lt_false (Nat.le_refl _)]
def wLinkIn (x : Int × Int × (List DPacket) × (List Int) × Unit) : Nat := wPacketS x.2.2.1 + wByteS x.2.2.2.1
def bLinkIn (x : Int × Int × (List DPacket) × (List Int) × Unit) : Prop := bPacketS x.2.2.1 ∧ bByteS x.2.2.2.1
theorem LinkIn_sz (x : Int × Int × (List DPacket) × (List Int) × Unit) (n : Int) (hb : bLinkIn x) (h0 : 0 ≤ n) (hn : n ≤ 1048576) : L.szLinkIn (x, n, ()) = some (szP (wLinkIn x) n, (((), (), (), (), ()), (), ())) := by
  unfold bLinkIn at hb
  unfold L.szLinkIn
  dsimp only
  have g0 := PacketS_sz x.2.2.1 (n) hb.1 (by omega) (by omega)
  by_cases n0 : n < (wPacketS x.2.2.1 : Int)
  · rw [szP_lt n0] at g0
    refine bind_of g0 ?_
    rw [szP_lt (show n < (wLinkIn x : Int) by unfold wLinkIn; omega)]
    rfl
  rw [szP_ge (by omega)] at g0
  refine bind_of g0 ?_
  simp only [show decide (n - (wPacketS x.2.2.1 : Int) < 0) = false by simp; omega, cond_false]
  have g1 := ByteS_sz x.2.2.2.1 (n - (wPacketS x.2.2.1 : Int)) hb.2 (by omega) (by omega)
  by_cases n1 : n - (wPacketS x.2.2.1 : Int) < (wByteS x.2.2.2.1 : Int)
  · rw [szP_lt n1] at g1
    refine bind_of g1 ?_
    rw [szP_lt (show n < (wLinkIn x : Int) by unfold wLinkIn; omega)]
    rfl
  rw [szP_ge (by omega)] at g1
  refine bind_of g1 ?_
  simp only [show decide (n - (wPacketS x.2.2.1 : Int) - (wByteS x.2.2.2.1 : Int) < 0) = false by simp; omega, cond_false]
  rw [szP_ge (show (wLinkIn x : Int) ≤ n by unfold wLinkIn; omega)]
  rw [show n - (wPacketS x.2.2.1 : Int) - (wByteS x.2.2.2.1 : Int) = n - (wLinkIn x : Int) by unfold wLinkIn; omega]
theorem LinkIn_to (x : Int × Int × (List DPacket) × (List Int) × Unit) (h : wLinkIn x ≤ 1048576) : L.toLinkIn (x, ()) = some (x, (((), (), (), (), ()), ())) := by
  unfold wLinkIn at h
  unfold L.toLinkIn
  dsimp only
  refine bind_of (PacketS_to x.2.2.1 (by omega)) ?_
  refine bind_of (ByteS_to x.2.2.2.1 (by omega)) ?_
  rfl
theorem LinkIn_eq (x : Int × Int × (List DPacket) × (List Int) × Unit) (h : bLinkIn x) : L.eqLinkIn (x, x, ()) = some (true, (((), (), (), (), ()), ((), (), (), (), ()), ())) := by
  unfold bLinkIn at h
  unfold L.eqLinkIn
  simp only [bne_self_eq_false, BEq.rfl, Bool.not_true, cond_false]
  refine bind_of (PacketS_eq x.2.2.1 h.1) ?_
  simp only [bne_self_eq_false, BEq.rfl, Bool.not_true, cond_false]
  refine bind_of (ByteS_eq x.2.2.2.1 h.2) ?_
  simp only [bne_self_eq_false, BEq.rfl, Bool.not_true, cond_false]
def wFieldS (xs : List DField) : Nat := wL (fun (e : DField) => wField (e.1, e.2.1, e.2.2.1, ())) xs
def bFieldS (xs : List DField) : Prop := xs.length ≤ maxL ∧ ∀ (e : DField), e ∈ xs → bField (e.1, e.2.1, e.2.2.1, ())
theorem FieldS_sz (xs : List DField) (n : Int) (hb : bFieldS xs) (h0 : 0 ≤ n) (hn : n ≤ 1048576) : L.szFieldS (xs, n, ()) = some (szP (wFieldS xs) n, ((), (), ())) := by
  obtain ⟨ha, hc⟩ := hb
  unfold maxL at ha
  unfold L.szFieldS L.szFieldS.p
  dsimp only
  rw [wr_i64 _ (by omega) (by omega)]
  have hlen := wL_len (fun (e : DField) => wField (e.1, e.2.1, e.2.2.1, ())) xs
  by_cases h : n - (xs.length : Int) < 0
  · rw [szP_lt (show n < (wFieldS xs : Int) by unfold wFieldS; omega)]
    simp [h]
  · simp only [h, decide_false, cond_false]
    unfold L.szFieldS.l5
    refine rounds_inv (fuel := big) xs.length (fun i x => ∃ l : Int, x = (xs, l, (i : Int), ()) ∧ 0 ≤ l ∧ l + (wL (fun (e : DField) => wField (e.1, e.2.1, e.2.2.1, ())) (xs.take i) : Int) + ((xs.length - i : Nat) : Int) = n) (fun o => o = some (szP (wFieldS xs) n, ((), (), ()))) (by rw [big_pos]; omega) ⟨_, rfl, by omega, by simp [wL]⟩ ?_ ?_
    · rintro i x hi ⟨l, rfl, hl0, hl⟩ Rc hRc
      unfold L.szFieldS.st5
      dsimp only
      simp only [lt_true hi, nn, Bool.and_self, ck, cond_true, Int.toNat_natCast, gd hi]
      have h1 := Field_sz ((fun (e : DField) => ((e.1, e.2.1, e.2.2.1, ()))) xs[i]) l (hc _ (List.getElem_mem hi)) hl0 (by omega)
      have hw := wL_take (fun (e : DField) => wField (e.1, e.2.1, e.2.2.1, ())) xs i hi
      have hle := wL_le (fun (e : DField) => wField (e.1, e.2.1, e.2.2.1, ())) xs (i + 1) (by omega)
      simp only [] at h1 hw
      by_cases hr : l < (wField ((fun (e : DField) => ((e.1, e.2.1, e.2.2.1, ()))) xs[i]) : Int)
      · rw [szP_lt (by simpa using hr)] at h1
        refine bind_of h1 ?_
        rw [szP_lt (show n < (wFieldS xs : Int) by simp only [] at hr; unfold wFieldS; omega)]
        rfl
      · rw [szP_ge (by simp only [] at hr ⊢; omega)] at h1
        refine bind_of h1 ?_
        simp only [] at hr
        simp only [show decide (l - (wField (xs[i].1, xs[i].2.1, xs[i].2.2.1, ()) : Int) < 0) = false by simp; omega, cond_false]
        refine hRc _ ⟨_, by rw [wr_succ hi ha], by omega, by omega⟩
    · rintro x ⟨l, rfl, hl0, hl⟩ Rc
      unfold L.szFieldS.st5
      dsimp only
      rw [lt_false (Nat.le_refl _), cond_false]
      rw [List.take_length] at hl
      rw [szP_ge (show (wFieldS xs : Int) ≤ n by unfold wFieldS; omega)]
      simp only [show Nat.beq 0 0 = true from rfl, cond_true]
      rw [show n - (wFieldS xs : Int) = l by unfold wFieldS; omega]
theorem FieldS_to (xs : List DField) (h : wFieldS xs ≤ 1048576) : L.toFieldS (xs, ()) = some (xs, ((), ())) := by
  have hlen := wL_len (fun (e : DField) => wField (e.1, e.2.1, e.2.2.1, ())) xs
  have hm := wL_mem (fun (e : DField) => wField (e.1, e.2.1, e.2.2.1, ())) xs
  unfold wFieldS at h
  have h' : xs.length ≤ 1048576 := by omega
  unfold L.toFieldS L.toFieldS.p
  dsimp only
  rw [ck_true (by simp; omega)]
  unfold L.toFieldS.l3
  refine (rounds_run (fuel := big) xs.length (fun i => (xs, xs.take i ++ List.replicate (xs.length - i) (zField : DField), (i : Int), ())) (fun _ => some (xs, ((), ()))) (by rw [big_pos]; omega) (fun i hi Rc hRc => ?_) (fun Rc => ?_) : _)
  · unfold L.toFieldS.st3
    have hl : i < (xs.take i ++ List.replicate (xs.length - i) (zField : DField)).length := by simp; omega
    simp only [lt_true hi, lt_true hl, nn, Bool.and_self, ck, cond_true, Int.toNat_natCast, gd hi, gd hl]
    have hw := hm _ (List.getElem_mem hi)
    refine bind_of (Field_to ((fun (e : DField) => ((e.1, e.2.1, e.2.2.1, ()))) xs[i]) (Nat.le_trans hw h)) ?_
    simp only []
    rw [wr_succ hi (by omega)]
    refine Eq.trans (congrArg Rc ?_) hRc
    rw [← take_rep_set _ _ _ hi]
  · unfold L.toFieldS.st3
    simp [lt_false (Nat.le_refl _)]
theorem FieldS_eq (xs : List DField) (h : bFieldS xs) : L.eqFieldS (xs, xs, ()) = some (true, ((), (), ())) := by
  obtain ⟨h, hc⟩ := h
  unfold maxL at h
  unfold L.eqFieldS L.eqFieldS.p
  simp only [bne_self_eq_false, cond_false]
  unfold L.eqFieldS.l4
  refine (rounds_run (fuel := big) xs.length (fun i => (xs, xs, (i : Int), ())) (fun _ => some (true, ((), (), ()))) (by rw [big_pos]; omega) (fun i hi Rc hRc => ?_) (fun Rc => ?_) : _)
  · unfold L.eqFieldS.st4
    simp only [lt_true hi, nn, Bool.and_self, ck, cond_true, Int.toNat_natCast, gd hi]
    refine bind_of (Field_eq ((fun (e : DField) => ((e.1, e.2.1, e.2.2.1, ()))) xs[i]) (hc _ (List.getElem_mem hi))) ?_
    simp only [Bool.not_true, cond_false]
    rw [wr_succ hi (by omega)]
    exact hRc
  · unfold L.eqFieldS.st4
    simp [lt_false (Nat.le_refl _)]
def wByteSSS (xs : List (List (List Int))) : Nat := wL (fun (e : (List (List Int))) => wByteSS e) xs
def bByteSSS (xs : List (List (List Int))) : Prop := xs.length ≤ maxL ∧ ∀ (e : (List (List Int))), e ∈ xs → bByteSS e
theorem ByteSSS_sz (xs : List (List (List Int))) (n : Int) (hb : bByteSSS xs) (h0 : 0 ≤ n) (hn : n ≤ 1048576) : L.szByteSSS (xs, n, ()) = some (szP (wByteSSS xs) n, ((), (), ())) := by
  obtain ⟨ha, hc⟩ := hb
  unfold maxL at ha
  unfold L.szByteSSS L.szByteSSS.p
  dsimp only
  rw [wr_i64 _ (by omega) (by omega)]
  have hlen := wL_len (fun (e : (List (List Int))) => wByteSS e) xs
  by_cases h : n - (xs.length : Int) < 0
  · rw [szP_lt (show n < (wByteSSS xs : Int) by unfold wByteSSS; omega)]
    simp [h]
  · simp only [h, decide_false, cond_false]
    unfold L.szByteSSS.l5
    refine rounds_inv (fuel := big) xs.length (fun i x => ∃ l : Int, x = (xs, l, (i : Int), ()) ∧ 0 ≤ l ∧ l + (wL (fun (e : (List (List Int))) => wByteSS e) (xs.take i) : Int) + ((xs.length - i : Nat) : Int) = n) (fun o => o = some (szP (wByteSSS xs) n, ((), (), ()))) (by rw [big_pos]; omega) ⟨_, rfl, by omega, by simp [wL]⟩ ?_ ?_
    · rintro i x hi ⟨l, rfl, hl0, hl⟩ Rc hRc
      unfold L.szByteSSS.st5
      dsimp only
      simp only [lt_true hi, nn, Bool.and_self, ck, cond_true, Int.toNat_natCast, gd hi]
      have h1 := ByteSS_sz ((fun (e : (List (List Int))) => (e)) xs[i]) l (hc _ (List.getElem_mem hi)) hl0 (by omega)
      have hw := wL_take (fun (e : (List (List Int))) => wByteSS e) xs i hi
      have hle := wL_le (fun (e : (List (List Int))) => wByteSS e) xs (i + 1) (by omega)
      simp only [] at h1 hw
      by_cases hr : l < (wByteSS ((fun (e : (List (List Int))) => (e)) xs[i]) : Int)
      · rw [szP_lt (by simpa using hr)] at h1
        refine bind_of h1 ?_
        rw [szP_lt (show n < (wByteSSS xs : Int) by simp only [] at hr; unfold wByteSSS; omega)]
        rfl
      · rw [szP_ge (by simp only [] at hr ⊢; omega)] at h1
        refine bind_of h1 ?_
        simp only [] at hr
        simp only [show decide (l - (wByteSS xs[i] : Int) < 0) = false by simp; omega, cond_false]
        refine hRc _ ⟨_, by rw [wr_succ hi ha], by omega, by omega⟩
    · rintro x ⟨l, rfl, hl0, hl⟩ Rc
      unfold L.szByteSSS.st5
      dsimp only
      rw [lt_false (Nat.le_refl _), cond_false]
      rw [List.take_length] at hl
      rw [szP_ge (show (wByteSSS xs : Int) ≤ n by unfold wByteSSS; omega)]
      simp only [show Nat.beq 0 0 = true from rfl, cond_true]
      rw [show n - (wByteSSS xs : Int) = l by unfold wByteSSS; omega]
theorem ByteSSS_to (xs : List (List (List Int))) (h : wByteSSS xs ≤ 1048576) : L.toByteSSS (xs, ()) = some (xs, ((), ())) := by
  have hlen := wL_len (fun (e : (List (List Int))) => wByteSS e) xs
  have hm := wL_mem (fun (e : (List (List Int))) => wByteSS e) xs
  unfold wByteSSS at h
  have h' : xs.length ≤ 1048576 := by omega
  unfold L.toByteSSS L.toByteSSS.p
  dsimp only
  rw [ck_true (by simp; omega)]
  unfold L.toByteSSS.l3
  refine (rounds_run (fuel := big) xs.length (fun i => (xs, xs.take i ++ List.replicate (xs.length - i) ([] : (List (List Int))), (i : Int), ())) (fun _ => some (xs, ((), ()))) (by rw [big_pos]; omega) (fun i hi Rc hRc => ?_) (fun Rc => ?_) : _)
  · unfold L.toByteSSS.st3
    have hl : i < (xs.take i ++ List.replicate (xs.length - i) ([] : (List (List Int)))).length := by simp; omega
    simp only [lt_true hi, lt_true hl, nn, Bool.and_self, ck, cond_true, Int.toNat_natCast, gd hi, gd hl]
    have hw := hm _ (List.getElem_mem hi)
    refine bind_of (ByteSS_to ((fun (e : (List (List Int))) => (e)) xs[i]) (Nat.le_trans hw h)) ?_
    simp only []
    rw [wr_succ hi (by omega)]
    refine Eq.trans (congrArg Rc ?_) hRc
    rw [← take_rep_set _ _ _ hi]
  · unfold L.toByteSSS.st3
    simp [lt_false (Nat.le_refl _)]
theorem ByteSSS_eq (xs : List (List (List Int))) (h : bByteSSS xs) : L.eqByteSSS (xs, xs, ()) = some (true, ((), (), ())) := by
  obtain ⟨h, hc⟩ := h
  unfold maxL at h
  unfold L.eqByteSSS L.eqByteSSS.p
  simp only [bne_self_eq_false, cond_false]
  unfold L.eqByteSSS.l4
  refine (rounds_run (fuel := big) xs.length (fun i => (xs, xs, (i : Int), ())) (fun _ => some (true, ((), (), ()))) (by rw [big_pos]; omega) (fun i hi Rc hRc => ?_) (fun Rc => ?_) : _)
  · unfold L.eqByteSSS.st4
    simp only [lt_true hi, nn, Bool.and_self, ck, cond_true, Int.toNat_natCast, gd hi]
    refine bind_of (ByteSS_eq ((fun (e : (List (List Int))) => (e)) xs[i]) (hc _ (List.getElem_mem hi))) ?_
    simp only [Bool.not_true, cond_false]
    rw [wr_succ hi (by omega)]
    exact hRc
  · unfold L.eqByteSSS.st4
    simp [lt_false (Nat.le_refl _)]
def wStream (x : Bool × (List DField) × Int × (List (List (List Int))) × Unit) : Nat := wFieldS x.2.1 + wByteSSS x.2.2.2.1
def bStream (x : Bool × (List DField) × Int × (List (List (List Int))) × Unit) : Prop := bFieldS x.2.1 ∧ bByteSSS x.2.2.2.1
theorem Stream_sz (x : Bool × (List DField) × Int × (List (List (List Int))) × Unit) (n : Int) (hb : bStream x) (h0 : 0 ≤ n) (hn : n ≤ 1048576) : L.szStream (x, n, ()) = some (szP (wStream x) n, (((), (), (), (), ()), (), ())) := by
  unfold bStream at hb
  unfold L.szStream
  dsimp only
  have g0 := FieldS_sz x.2.1 (n) hb.1 (by omega) (by omega)
  by_cases n0 : n < (wFieldS x.2.1 : Int)
  · rw [szP_lt n0] at g0
    refine bind_of g0 ?_
    rw [szP_lt (show n < (wStream x : Int) by unfold wStream; omega)]
    rfl
  rw [szP_ge (by omega)] at g0
  refine bind_of g0 ?_
  simp only [show decide (n - (wFieldS x.2.1 : Int) < 0) = false by simp; omega, cond_false]
  have g1 := ByteSSS_sz x.2.2.2.1 (n - (wFieldS x.2.1 : Int)) hb.2 (by omega) (by omega)
  by_cases n1 : n - (wFieldS x.2.1 : Int) < (wByteSSS x.2.2.2.1 : Int)
  · rw [szP_lt n1] at g1
    refine bind_of g1 ?_
    rw [szP_lt (show n < (wStream x : Int) by unfold wStream; omega)]
    rfl
  rw [szP_ge (by omega)] at g1
  refine bind_of g1 ?_
  simp only [show decide (n - (wFieldS x.2.1 : Int) - (wByteSSS x.2.2.2.1 : Int) < 0) = false by simp; omega, cond_false]
  rw [szP_ge (show (wStream x : Int) ≤ n by unfold wStream; omega)]
  rw [show n - (wFieldS x.2.1 : Int) - (wByteSSS x.2.2.2.1 : Int) = n - (wStream x : Int) by unfold wStream; omega]
theorem Stream_to (x : Bool × (List DField) × Int × (List (List (List Int))) × Unit) (h : wStream x ≤ 1048576) : L.toStream (x, ()) = some (x, (((), (), (), (), ()), ())) := by
  unfold wStream at h
  unfold L.toStream
  dsimp only
  refine bind_of (FieldS_to x.2.1 (by omega)) ?_
  refine bind_of (ByteSSS_to x.2.2.2.1 (by omega)) ?_
  rfl
theorem Stream_eq (x : Bool × (List DField) × Int × (List (List (List Int))) × Unit) (h : bStream x) : L.eqStream (x, x, ()) = some (true, (((), (), (), (), ()), ((), (), (), (), ()), ())) := by
  unfold bStream at h
  unfold L.eqStream
  simp only [bne_self_eq_false, BEq.rfl, Bool.not_true, cond_false]
  refine bind_of (FieldS_eq x.2.1 h.1) ?_
  simp only [bne_self_eq_false, BEq.rfl, Bool.not_true, cond_false]
  refine bind_of (ByteSSS_eq x.2.2.2.1 h.2) ?_
  simp only [bne_self_eq_false, BEq.rfl, Bool.not_true, cond_false]
def wTable (x : Int × (List DCell) × Unit) : Nat := wCellS x.2.1
def bTable (x : Int × (List DCell) × Unit) : Prop := bCellS x.2.1
theorem Table_sz (x : Int × (List DCell) × Unit) (n : Int) (hb : bTable x) (h0 : 0 ≤ n) (hn : n ≤ 1048576) : L.szTable (x, n, ()) = some (szP (wTable x) n, (((), (), ()), (), ())) := by
  unfold bTable at hb
  unfold L.szTable
  dsimp only
  have g0 := CellS_sz x.2.1 (n) hb (by omega) (by omega)
  by_cases n0 : n < (wCellS x.2.1 : Int)
  · rw [szP_lt n0] at g0
    refine bind_of g0 ?_
    rw [szP_lt (show n < (wTable x : Int) by unfold wTable; omega)]
    rfl
  rw [szP_ge (by omega)] at g0
  refine bind_of g0 ?_
  simp only [show decide (n - (wCellS x.2.1 : Int) < 0) = false by simp; omega, cond_false]
  rw [szP_ge (show (wTable x : Int) ≤ n by unfold wTable; omega)]
  rw [show n - (wCellS x.2.1 : Int) = n - (wTable x : Int) by unfold wTable; omega]
theorem Table_to (x : Int × (List DCell) × Unit) (h : wTable x ≤ 1048576) : L.toTable (x, ()) = some (x, (((), (), ()), ())) := by
  unfold wTable at h
  unfold L.toTable
  dsimp only
  refine bind_of (CellS_to x.2.1 (by omega)) ?_
  rfl
theorem Table_eq (x : Int × (List DCell) × Unit) (h : bTable x) : L.eqTable (x, x, ()) = some (true, (((), (), ()), ((), (), ()), ())) := by
  unfold bTable at h
  unfold L.eqTable
  simp only [bne_self_eq_false, BEq.rfl, Bool.not_true, cond_false]
  refine bind_of (CellS_eq x.2.1 h) ?_
  simp only [bne_self_eq_false, BEq.rfl, Bool.not_true, cond_false]
def wTableS (xs : List DTable) : Nat := wL (fun (e : DTable) => wTable (e.1, e.2.1, ())) xs
def bTableS (xs : List DTable) : Prop := xs.length ≤ maxL ∧ ∀ (e : DTable), e ∈ xs → bTable (e.1, e.2.1, ())
theorem TableS_sz (xs : List DTable) (n : Int) (hb : bTableS xs) (h0 : 0 ≤ n) (hn : n ≤ 1048576) : L.szTableS (xs, n, ()) = some (szP (wTableS xs) n, ((), (), ())) := by
  obtain ⟨ha, hc⟩ := hb
  unfold maxL at ha
  unfold L.szTableS L.szTableS.p
  dsimp only
  rw [wr_i64 _ (by omega) (by omega)]
  have hlen := wL_len (fun (e : DTable) => wTable (e.1, e.2.1, ())) xs
  by_cases h : n - (xs.length : Int) < 0
  · rw [szP_lt (show n < (wTableS xs : Int) by unfold wTableS; omega)]
    simp [h]
  · simp only [h, decide_false, cond_false]
    unfold L.szTableS.l5
    refine rounds_inv (fuel := big) xs.length (fun i x => ∃ l : Int, x = (xs, l, (i : Int), ()) ∧ 0 ≤ l ∧ l + (wL (fun (e : DTable) => wTable (e.1, e.2.1, ())) (xs.take i) : Int) + ((xs.length - i : Nat) : Int) = n) (fun o => o = some (szP (wTableS xs) n, ((), (), ()))) (by rw [big_pos]; omega) ⟨_, rfl, by omega, by simp [wL]⟩ ?_ ?_
    · rintro i x hi ⟨l, rfl, hl0, hl⟩ Rc hRc
      unfold L.szTableS.st5
      dsimp only
      simp only [lt_true hi, nn, Bool.and_self, ck, cond_true, Int.toNat_natCast, gd hi]
      have h1 := Table_sz ((fun (e : DTable) => ((e.1, e.2.1, ()))) xs[i]) l (hc _ (List.getElem_mem hi)) hl0 (by omega)
      have hw := wL_take (fun (e : DTable) => wTable (e.1, e.2.1, ())) xs i hi
      have hle := wL_le (fun (e : DTable) => wTable (e.1, e.2.1, ())) xs (i + 1) (by omega)
      simp only [] at h1 hw
      by_cases hr : l < (wTable ((fun (e : DTable) => ((e.1, e.2.1, ()))) xs[i]) : Int)
      · rw [szP_lt (by simpa using hr)] at h1
        refine bind_of h1 ?_
        rw [szP_lt (show n < (wTableS xs : Int) by simp only [] at hr; unfold wTableS; omega)]
        rfl
      · rw [szP_ge (by simp only [] at hr ⊢; omega)] at h1
        refine bind_of h1 ?_
        simp only [] at hr
        simp only [show decide (l - (wTable (xs[i].1, xs[i].2.1, ()) : Int) < 0) = false by simp; omega, cond_false]
        refine hRc _ ⟨_, by rw [wr_succ hi ha], by omega, by omega⟩
    · rintro x ⟨l, rfl, hl0, hl⟩ Rc
      unfold L.szTableS.st5
      dsimp only
      rw [lt_false (Nat.le_refl _), cond_false]
      rw [List.take_length] at hl
      rw [szP_ge (show (wTableS xs : Int) ≤ n by unfold wTableS; omega)]
      simp only [show Nat.beq 0 0 = true from rfl, cond_true]
      rw [show n - (wTableS xs : Int) = l by unfold wTableS; omega]
theorem TableS_to (xs : List DTable) (h : wTableS xs ≤ 1048576) : L.toTableS (xs, ()) = some (xs, ((), ())) := by
  have hlen := wL_len (fun (e : DTable) => wTable (e.1, e.2.1, ())) xs
  have hm := wL_mem (fun (e : DTable) => wTable (e.1, e.2.1, ())) xs
  unfold wTableS at h
  have h' : xs.length ≤ 1048576 := by omega
  unfold L.toTableS L.toTableS.p
  dsimp only
  rw [ck_true (by simp; omega)]
  unfold L.toTableS.l3
  refine (rounds_run (fuel := big) xs.length (fun i => (xs, xs.take i ++ List.replicate (xs.length - i) (zTable : DTable), (i : Int), ())) (fun _ => some (xs, ((), ()))) (by rw [big_pos]; omega) (fun i hi Rc hRc => ?_) (fun Rc => ?_) : _)
  · unfold L.toTableS.st3
    have hl : i < (xs.take i ++ List.replicate (xs.length - i) (zTable : DTable)).length := by simp; omega
    simp only [lt_true hi, lt_true hl, nn, Bool.and_self, ck, cond_true, Int.toNat_natCast, gd hi, gd hl]
    have hw := hm _ (List.getElem_mem hi)
    refine bind_of (Table_to ((fun (e : DTable) => ((e.1, e.2.1, ()))) xs[i]) (Nat.le_trans hw h)) ?_
    simp only []
    rw [wr_succ hi (by omega)]
    refine Eq.trans (congrArg Rc ?_) hRc
    rw [← take_rep_set _ _ _ hi]
  · unfold L.toTableS.st3
    simp [lt_false (Nat.le_refl _)]
theorem TableS_eq (xs : List DTable) (h : bTableS xs) : L.eqTableS (xs, xs, ()) = some (true, ((), (), ())) := by
  obtain ⟨h, hc⟩ := h
  unfold maxL at h
  unfold L.eqTableS L.eqTableS.p
  simp only [bne_self_eq_false, cond_false]
  unfold L.eqTableS.l4
  refine (rounds_run (fuel := big) xs.length (fun i => (xs, xs, (i : Int), ())) (fun _ => some (true, ((), (), ()))) (by rw [big_pos]; omega) (fun i hi Rc hRc => ?_) (fun Rc => ?_) : _)
  · unfold L.eqTableS.st4
    simp only [lt_true hi, nn, Bool.and_self, ck, cond_true, Int.toNat_natCast, gd hi]
    refine bind_of (Table_eq ((fun (e : DTable) => ((e.1, e.2.1, ()))) xs[i]) (hc _ (List.getElem_mem hi))) ?_
    simp only [Bool.not_true, cond_false]
    rw [wr_succ hi (by omega)]
    exact hRc
  · unfold L.eqTableS.st4
    simp [lt_false (Nat.le_refl _)]
def wReceiver (x : Int × Int × Bool × Int × Int × (List DPacket) × (List Int) × Bool × (List DField) × Int × (List (List (List Int))) × (List DTable) × Int × Unit) : Nat := wLinkIn (x.2.2.2.1, x.2.2.2.2.1, x.2.2.2.2.2.1, x.2.2.2.2.2.2.1, ()) + wStream (x.2.2.2.2.2.2.2.1, x.2.2.2.2.2.2.2.2.1, x.2.2.2.2.2.2.2.2.2.1, x.2.2.2.2.2.2.2.2.2.2.1, ()) + wTableS x.2.2.2.2.2.2.2.2.2.2.2.1
def bReceiver (x : Int × Int × Bool × Int × Int × (List DPacket) × (List Int) × Bool × (List DField) × Int × (List (List (List Int))) × (List DTable) × Int × Unit) : Prop := bLinkIn (x.2.2.2.1, x.2.2.2.2.1, x.2.2.2.2.2.1, x.2.2.2.2.2.2.1, ()) ∧ bStream (x.2.2.2.2.2.2.2.1, x.2.2.2.2.2.2.2.2.1, x.2.2.2.2.2.2.2.2.2.1, x.2.2.2.2.2.2.2.2.2.2.1, ()) ∧ bTableS x.2.2.2.2.2.2.2.2.2.2.2.1
theorem Receiver_sz (x : Int × Int × Bool × Int × Int × (List DPacket) × (List Int) × Bool × (List DField) × Int × (List (List (List Int))) × (List DTable) × Int × Unit) (n : Int) (hb : bReceiver x) (h0 : 0 ≤ n) (hn : n ≤ 1048576) : L.szReceiver (x, n, ()) = some (szP (wReceiver x) n, (((), (), (), (), (), (), (), (), (), (), (), (), (), ()), (), ())) := by
  unfold bReceiver at hb
  unfold L.szReceiver
  dsimp only
  have g0 := LinkIn_sz (x.2.2.2.1, x.2.2.2.2.1, x.2.2.2.2.2.1, x.2.2.2.2.2.2.1, ()) (n) hb.1 (by omega) (by omega)
  by_cases n0 : n < (wLinkIn (x.2.2.2.1, x.2.2.2.2.1, x.2.2.2.2.2.1, x.2.2.2.2.2.2.1, ()) : Int)
  · rw [szP_lt n0] at g0
    refine bind_of g0 ?_
    rw [szP_lt (show n < (wReceiver x : Int) by unfold wReceiver; omega)]
    rfl
  rw [szP_ge (by omega)] at g0
  refine bind_of g0 ?_
  simp only [show decide (n - (wLinkIn (x.2.2.2.1, x.2.2.2.2.1, x.2.2.2.2.2.1, x.2.2.2.2.2.2.1, ()) : Int) < 0) = false by simp; omega, cond_false]
  have g1 := Stream_sz (x.2.2.2.2.2.2.2.1, x.2.2.2.2.2.2.2.2.1, x.2.2.2.2.2.2.2.2.2.1, x.2.2.2.2.2.2.2.2.2.2.1, ()) (n - (wLinkIn (x.2.2.2.1, x.2.2.2.2.1, x.2.2.2.2.2.1, x.2.2.2.2.2.2.1, ()) : Int)) hb.2.1 (by omega) (by omega)
  by_cases n1 : n - (wLinkIn (x.2.2.2.1, x.2.2.2.2.1, x.2.2.2.2.2.1, x.2.2.2.2.2.2.1, ()) : Int) < (wStream (x.2.2.2.2.2.2.2.1, x.2.2.2.2.2.2.2.2.1, x.2.2.2.2.2.2.2.2.2.1, x.2.2.2.2.2.2.2.2.2.2.1, ()) : Int)
  · rw [szP_lt n1] at g1
    refine bind_of g1 ?_
    rw [szP_lt (show n < (wReceiver x : Int) by unfold wReceiver; omega)]
    rfl
  rw [szP_ge (by omega)] at g1
  refine bind_of g1 ?_
  simp only [show decide (n - (wLinkIn (x.2.2.2.1, x.2.2.2.2.1, x.2.2.2.2.2.1, x.2.2.2.2.2.2.1, ()) : Int) - (wStream (x.2.2.2.2.2.2.2.1, x.2.2.2.2.2.2.2.2.1, x.2.2.2.2.2.2.2.2.2.1, x.2.2.2.2.2.2.2.2.2.2.1, ()) : Int) < 0) = false by simp; omega, cond_false]
  have g2 := TableS_sz x.2.2.2.2.2.2.2.2.2.2.2.1 (n - (wLinkIn (x.2.2.2.1, x.2.2.2.2.1, x.2.2.2.2.2.1, x.2.2.2.2.2.2.1, ()) : Int) - (wStream (x.2.2.2.2.2.2.2.1, x.2.2.2.2.2.2.2.2.1, x.2.2.2.2.2.2.2.2.2.1, x.2.2.2.2.2.2.2.2.2.2.1, ()) : Int)) hb.2.2 (by omega) (by omega)
  by_cases n2 : n - (wLinkIn (x.2.2.2.1, x.2.2.2.2.1, x.2.2.2.2.2.1, x.2.2.2.2.2.2.1, ()) : Int) - (wStream (x.2.2.2.2.2.2.2.1, x.2.2.2.2.2.2.2.2.1, x.2.2.2.2.2.2.2.2.2.1, x.2.2.2.2.2.2.2.2.2.2.1, ()) : Int) < (wTableS x.2.2.2.2.2.2.2.2.2.2.2.1 : Int)
  · rw [szP_lt n2] at g2
    refine bind_of g2 ?_
    rw [szP_lt (show n < (wReceiver x : Int) by unfold wReceiver; omega)]
    rfl
  rw [szP_ge (by omega)] at g2
  refine bind_of g2 ?_
  simp only [show decide (n - (wLinkIn (x.2.2.2.1, x.2.2.2.2.1, x.2.2.2.2.2.1, x.2.2.2.2.2.2.1, ()) : Int) - (wStream (x.2.2.2.2.2.2.2.1, x.2.2.2.2.2.2.2.2.1, x.2.2.2.2.2.2.2.2.2.1, x.2.2.2.2.2.2.2.2.2.2.1, ()) : Int) - (wTableS x.2.2.2.2.2.2.2.2.2.2.2.1 : Int) < 0) = false by simp; omega, cond_false]
  rw [szP_ge (show (wReceiver x : Int) ≤ n by unfold wReceiver; omega)]
  rw [show n - (wLinkIn (x.2.2.2.1, x.2.2.2.2.1, x.2.2.2.2.2.1, x.2.2.2.2.2.2.1, ()) : Int) - (wStream (x.2.2.2.2.2.2.2.1, x.2.2.2.2.2.2.2.2.1, x.2.2.2.2.2.2.2.2.2.1, x.2.2.2.2.2.2.2.2.2.2.1, ()) : Int) - (wTableS x.2.2.2.2.2.2.2.2.2.2.2.1 : Int) = n - (wReceiver x : Int) by unfold wReceiver; omega]
theorem Receiver_to (x : Int × Int × Bool × Int × Int × (List DPacket) × (List Int) × Bool × (List DField) × Int × (List (List (List Int))) × (List DTable) × Int × Unit) (h : wReceiver x ≤ 1048576) : L.toReceiver (x, ()) = some (x, (((), (), (), (), (), (), (), (), (), (), (), (), (), ()), ())) := by
  unfold wReceiver at h
  unfold L.toReceiver
  dsimp only
  refine bind_of (LinkIn_to (x.2.2.2.1, x.2.2.2.2.1, x.2.2.2.2.2.1, x.2.2.2.2.2.2.1, ()) (by omega)) ?_
  refine bind_of (Stream_to (x.2.2.2.2.2.2.2.1, x.2.2.2.2.2.2.2.2.1, x.2.2.2.2.2.2.2.2.2.1, x.2.2.2.2.2.2.2.2.2.2.1, ()) (by omega)) ?_
  refine bind_of (TableS_to x.2.2.2.2.2.2.2.2.2.2.2.1 (by omega)) ?_
  rfl
theorem Receiver_eq (x : Int × Int × Bool × Int × Int × (List DPacket) × (List Int) × Bool × (List DField) × Int × (List (List (List Int))) × (List DTable) × Int × Unit) (h : bReceiver x) : L.eqReceiver (x, x, ()) = some (true, (((), (), (), (), (), (), (), (), (), (), (), (), (), ()), ((), (), (), (), (), (), (), (), (), (), (), (), (), ()), ())) := by
  unfold bReceiver at h
  unfold L.eqReceiver
  simp only [bne_self_eq_false, BEq.rfl, Bool.not_true, cond_false]
  refine bind_of (LinkIn_eq (x.2.2.2.1, x.2.2.2.2.1, x.2.2.2.2.2.1, x.2.2.2.2.2.2.1, ()) h.1) ?_
  simp only [bne_self_eq_false, BEq.rfl, Bool.not_true, cond_false]
  refine bind_of (Stream_eq (x.2.2.2.2.2.2.2.1, x.2.2.2.2.2.2.2.2.1, x.2.2.2.2.2.2.2.2.2.1, x.2.2.2.2.2.2.2.2.2.2.1, ()) h.2.1) ?_
  simp only [bne_self_eq_false, BEq.rfl, Bool.not_true, cond_false]
  refine bind_of (TableS_eq x.2.2.2.2.2.2.2.2.2.2.2.1 h.2.2) ?_
  simp only [bne_self_eq_false, BEq.rfl, Bool.not_true, cond_false]
end Go.Ev

