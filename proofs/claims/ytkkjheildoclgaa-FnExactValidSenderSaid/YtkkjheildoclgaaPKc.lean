/- A text of the claim: plain lemmas of what the functions compute. -/
import Derived.Test.YtkkjheildoclgaaPK
import Derived.Test.YtkkjheildoclgaaYFc
set_option linter.all false
set_option linter.unusedVariables false
set_option linter.unusedSimpArgs false
set_option autoImplicit false
set_option linter.unusedVariables false
set_option linter.unusedSimpArgs false
namespace Go.Ev
def wSent (x : Int × Int × Int × Int × Bool × (List Int) × Int × Unit) : Nat := wPacket (x.1, x.2.1, x.2.2.1, x.2.2.2.1, x.2.2.2.2.1, x.2.2.2.2.2.1, ())
def bSent (x : Int × Int × Int × Int × Bool × (List Int) × Int × Unit) : Prop := bPacket (x.1, x.2.1, x.2.2.1, x.2.2.2.1, x.2.2.2.2.1, x.2.2.2.2.2.1, ())
theorem Sent_sz (x : Int × Int × Int × Int × Bool × (List Int) × Int × Unit) (n : Int) (hb : bSent x) (h0 : 0 ≤ n) (hn : n ≤ 1048576) : L.szSent (x, n, ()) = some (szP (wSent x) n, (((), (), (), (), (), (), (), ()), (), ())) := by
  unfold bSent at hb
  unfold L.szSent
  dsimp only
  have g0 := Packet_sz (x.1, x.2.1, x.2.2.1, x.2.2.2.1, x.2.2.2.2.1, x.2.2.2.2.2.1, ()) (n) hb (by omega) (by omega)
  by_cases n0 : n < (wPacket (x.1, x.2.1, x.2.2.1, x.2.2.2.1, x.2.2.2.2.1, x.2.2.2.2.2.1, ()) : Int)
  · rw [szP_lt n0] at g0
    refine bind_of g0 ?_
    rw [szP_lt (show n < (wSent x : Int) by unfold wSent; omega)]
    rfl
  rw [szP_ge (by omega)] at g0
  refine bind_of g0 ?_
  simp only [show decide (n - (wPacket (x.1, x.2.1, x.2.2.1, x.2.2.2.1, x.2.2.2.2.1, x.2.2.2.2.2.1, ()) : Int) < 0) = false by simp; omega, cond_false]
  rw [szP_ge (show (wSent x : Int) ≤ n by unfold wSent; omega)]
  rw [show n - (wPacket (x.1, x.2.1, x.2.2.1, x.2.2.2.1, x.2.2.2.2.1, x.2.2.2.2.2.1, ()) : Int) = n - (wSent x : Int) by unfold wSent; omega]
theorem Sent_to (x : Int × Int × Int × Int × Bool × (List Int) × Int × Unit) (h : wSent x ≤ 1048576) : L.toSent (x, ()) = some (x, (((), (), (), (), (), (), (), ()), ())) := by
  unfold wSent at h
  unfold L.toSent
  dsimp only
  refine bind_of (Packet_to (x.1, x.2.1, x.2.2.1, x.2.2.2.1, x.2.2.2.2.1, x.2.2.2.2.2.1, ()) (by omega)) ?_
  rfl
theorem Sent_eq (x : Int × Int × Int × Int × Bool × (List Int) × Int × Unit) (h : bSent x) : L.eqSent (x, x, ()) = some (true, (((), (), (), (), (), (), (), ()), ((), (), (), (), (), (), (), ()), ())) := by
  unfold bSent at h
  unfold L.eqSent
  simp only [bne_self_eq_false, BEq.rfl, Bool.not_true, cond_false]
  refine bind_of (Packet_eq (x.1, x.2.1, x.2.2.1, x.2.2.2.1, x.2.2.2.2.1, x.2.2.2.2.2.1, ()) h) ?_
  simp only [bne_self_eq_false, BEq.rfl, Bool.not_true, cond_false]
def wSentS (xs : List DSent) : Nat := wL (fun (e : DSent) => wSent (e.1.1, e.1.2.1, e.1.2.2.1, e.1.2.2.2.1, e.1.2.2.2.2.1, e.1.2.2.2.2.2.1, e.2.1, ())) xs
def bSentS (xs : List DSent) : Prop := xs.length ≤ maxL ∧ ∀ (e : DSent), e ∈ xs → bSent (e.1.1, e.1.2.1, e.1.2.2.1, e.1.2.2.2.1, e.1.2.2.2.2.1, e.1.2.2.2.2.2.1, e.2.1, ())
theorem SentS_sz (xs : List DSent) (n : Int) (hb : bSentS xs) (h0 : 0 ≤ n) (hn : n ≤ 1048576) : L.szSentS (xs, n, ()) = some (szP (wSentS xs) n, ((), (), ())) := by
  obtain ⟨ha, hc⟩ := hb
  unfold maxL at ha
  unfold L.szSentS L.szSentS.p
  dsimp only
  rw [wr_i64 _ (by omega) (by omega)]
  have hlen := wL_len (fun (e : DSent) => wSent (e.1.1, e.1.2.1, e.1.2.2.1, e.1.2.2.2.1, e.1.2.2.2.2.1, e.1.2.2.2.2.2.1, e.2.1, ())) xs
  by_cases h : n - (xs.length : Int) < 0
  · rw [szP_lt (show n < (wSentS xs : Int) by unfold wSentS; omega)]
    simp [h]
  · simp only [h, decide_false, cond_false]
    unfold L.szSentS.l5
    refine rounds_inv (fuel := big) xs.length (fun i x => ∃ l : Int, x = (xs, l, (i : Int), ()) ∧ 0 ≤ l ∧ l + (wL (fun (e : DSent) => wSent (e.1.1, e.1.2.1, e.1.2.2.1, e.1.2.2.2.1, e.1.2.2.2.2.1, e.1.2.2.2.2.2.1, e.2.1, ())) (xs.take i) : Int) + ((xs.length - i : Nat) : Int) = n) (fun o => o = some (szP (wSentS xs) n, ((), (), ()))) (by rw [big_pos]; omega) ⟨_, rfl, by omega, by simp [wL]⟩ ?_ ?_
    · rintro i x hi ⟨l, rfl, hl0, hl⟩ Rc hRc
      unfold L.szSentS.st5
      dsimp only
      simp only [lt_true hi, nn, Bool.and_self, ck, cond_true, Int.toNat_natCast, gd hi]
      have h1 := Sent_sz ((fun (e : DSent) => ((e.1.1, e.1.2.1, e.1.2.2.1, e.1.2.2.2.1, e.1.2.2.2.2.1, e.1.2.2.2.2.2.1, e.2.1, ()))) xs[i]) l (hc _ (List.getElem_mem hi)) hl0 (by omega)
      have hw := wL_take (fun (e : DSent) => wSent (e.1.1, e.1.2.1, e.1.2.2.1, e.1.2.2.2.1, e.1.2.2.2.2.1, e.1.2.2.2.2.2.1, e.2.1, ())) xs i hi
      have hle := wL_le (fun (e : DSent) => wSent (e.1.1, e.1.2.1, e.1.2.2.1, e.1.2.2.2.1, e.1.2.2.2.2.1, e.1.2.2.2.2.2.1, e.2.1, ())) xs (i + 1) (by omega)
      simp only [] at h1 hw
      by_cases hr : l < (wSent ((fun (e : DSent) => ((e.1.1, e.1.2.1, e.1.2.2.1, e.1.2.2.2.1, e.1.2.2.2.2.1, e.1.2.2.2.2.2.1, e.2.1, ()))) xs[i]) : Int)
      · rw [szP_lt (by simpa using hr)] at h1
        refine bind_of h1 ?_
        rw [szP_lt (show n < (wSentS xs : Int) by simp only [] at hr; unfold wSentS; omega)]
        rfl
      · rw [szP_ge (by simp only [] at hr ⊢; omega)] at h1
        refine bind_of h1 ?_
        simp only [] at hr
        simp only [show decide (l - (wSent (xs[i].1.1, xs[i].1.2.1, xs[i].1.2.2.1, xs[i].1.2.2.2.1, xs[i].1.2.2.2.2.1, xs[i].1.2.2.2.2.2.1, xs[i].2.1, ()) : Int) < 0) = false by simp; omega, cond_false]
        refine hRc _ ⟨_, by rw [wr_succ hi ha], by omega, by omega⟩
    · rintro x ⟨l, rfl, hl0, hl⟩ Rc
      unfold L.szSentS.st5
      dsimp only
      rw [lt_false (Nat.le_refl _), cond_false]
      rw [List.take_length] at hl
      rw [szP_ge (show (wSentS xs : Int) ≤ n by unfold wSentS; omega)]
      simp only [show Nat.beq 0 0 = true from rfl, cond_true]
      rw [show n - (wSentS xs : Int) = l by unfold wSentS; omega]
theorem SentS_to (xs : List DSent) (h : wSentS xs ≤ 1048576) : L.toSentS (xs, ()) = some (xs, ((), ())) := by
  have hlen := wL_len (fun (e : DSent) => wSent (e.1.1, e.1.2.1, e.1.2.2.1, e.1.2.2.2.1, e.1.2.2.2.2.1, e.1.2.2.2.2.2.1, e.2.1, ())) xs
  have hm := wL_mem (fun (e : DSent) => wSent (e.1.1, e.1.2.1, e.1.2.2.1, e.1.2.2.2.1, e.1.2.2.2.2.1, e.1.2.2.2.2.2.1, e.2.1, ())) xs
  unfold wSentS at h
  have h' : xs.length ≤ 1048576 := by omega
  unfold L.toSentS L.toSentS.p
  dsimp only
  rw [ck_true (by simp; omega)]
  unfold L.toSentS.l3
  refine (rounds_run (fuel := big) xs.length (fun i => (xs, xs.take i ++ List.replicate (xs.length - i) (zSent : DSent), (i : Int), ())) (fun _ => some (xs, ((), ()))) (by rw [big_pos]; omega) (fun i hi Rc hRc => ?_) (fun Rc => ?_) : _)
  · unfold L.toSentS.st3
    have hl : i < (xs.take i ++ List.replicate (xs.length - i) (zSent : DSent)).length := by simp; omega
    simp only [lt_true hi, lt_true hl, nn, Bool.and_self, ck, cond_true, Int.toNat_natCast, gd hi, gd hl]
    have hw := hm _ (List.getElem_mem hi)
    refine bind_of (Sent_to ((fun (e : DSent) => ((e.1.1, e.1.2.1, e.1.2.2.1, e.1.2.2.2.1, e.1.2.2.2.2.1, e.1.2.2.2.2.2.1, e.2.1, ()))) xs[i]) (Nat.le_trans hw h)) ?_
    simp only []
    rw [wr_succ hi (by omega)]
    refine Eq.trans (congrArg Rc ?_) hRc
    rw [← take_rep_set _ _ _ hi]
  · unfold L.toSentS.st3
    simp [lt_false (Nat.le_refl _)]
theorem SentS_eq (xs : List DSent) (h : bSentS xs) : L.eqSentS (xs, xs, ()) = some (true, ((), (), ())) := by
  obtain ⟨h, hc⟩ := h
  unfold maxL at h
  unfold L.eqSentS L.eqSentS.p
  simp only [bne_self_eq_false, cond_false]
  unfold L.eqSentS.l4
  refine (rounds_run (fuel := big) xs.length (fun i => (xs, xs, (i : Int), ())) (fun _ => some (true, ((), (), ()))) (by rw [big_pos]; omega) (fun i hi Rc hRc => ?_) (fun Rc => ?_) : _)
  · unfold L.eqSentS.st4
    simp only [lt_true hi, nn, Bool.and_self, ck, cond_true, Int.toNat_natCast, gd hi]
    refine bind_of (Sent_eq ((fun (e : DSent) => ((e.1.1, e.1.2.1, e.1.2.2.1, e.1.2.2.2.1, e.1.2.2.2.2.1, e.1.2.2.2.2.2.1, e.2.1, ()))) xs[i]) (hc _ (List.getElem_mem hi))) ?_
    simp only [Bool.not_true, cond_false]
    rw [wr_succ hi (by omega)]
    exact hRc
  · unfold L.eqSentS.st4
    simp [lt_false (Nat.le_refl _)]
def wLinkOut (x : Int × Int × Int × (List DSent) × Unit) : Nat := wSentS x.2.2.2.1
def bLinkOut (x : Int × Int × Int × (List DSent) × Unit) : Prop := bSentS x.2.2.2.1
theorem LinkOut_sz (x : Int × Int × Int × (List DSent) × Unit) (n : Int) (hb : bLinkOut x) (h0 : 0 ≤ n) (hn : n ≤ 1048576) : L.szLinkOut (x, n, ()) = some (szP (wLinkOut x) n, (((), (), (), (), ()), (), ())) := by
  unfold bLinkOut at hb
  unfold L.szLinkOut
  dsimp only
  have g0 := SentS_sz x.2.2.2.1 (n) hb (by omega) (by omega)
  by_cases n0 : n < (wSentS x.2.2.2.1 : Int)
  · rw [szP_lt n0] at g0
    refine bind_of g0 ?_
    rw [szP_lt (show n < (wLinkOut x : Int) by unfold wLinkOut; omega)]
    rfl
  rw [szP_ge (by omega)] at g0
  refine bind_of g0 ?_
  simp only [show decide (n - (wSentS x.2.2.2.1 : Int) < 0) = false by simp; omega, cond_false]
  rw [szP_ge (show (wLinkOut x : Int) ≤ n by unfold wLinkOut; omega)]
  rw [show n - (wSentS x.2.2.2.1 : Int) = n - (wLinkOut x : Int) by unfold wLinkOut; omega]
theorem LinkOut_to (x : Int × Int × Int × (List DSent) × Unit) (h : wLinkOut x ≤ 1048576) : L.toLinkOut (x, ()) = some (x, (((), (), (), (), ()), ())) := by
  unfold wLinkOut at h
  unfold L.toLinkOut
  dsimp only
  refine bind_of (SentS_to x.2.2.2.1 (by omega)) ?_
  rfl
theorem LinkOut_eq (x : Int × Int × Int × (List DSent) × Unit) (h : bLinkOut x) : L.eqLinkOut (x, x, ()) = some (true, (((), (), (), (), ()), ((), (), (), (), ()), ())) := by
  unfold bLinkOut at h
  unfold L.eqLinkOut
  simp only [bne_self_eq_false, BEq.rfl, Bool.not_true, cond_false]
  refine bind_of (SentS_eq x.2.2.2.1 h) ?_
  simp only [bne_self_eq_false, BEq.rfl, Bool.not_true, cond_false]
def wSender (x : (List DField) × Int × Int × (List DTable) × Int × Int × Int × Int × (List DSent) × Bool × (List DField) × Int × (List (List (List Int))) × Unit) : Nat := wFieldS x.1 + wTableS x.2.2.2.1 + wLinkOut (x.2.2.2.2.2.1, x.2.2.2.2.2.2.1, x.2.2.2.2.2.2.2.1, x.2.2.2.2.2.2.2.2.1, ()) + wStream (x.2.2.2.2.2.2.2.2.2.1, x.2.2.2.2.2.2.2.2.2.2.1, x.2.2.2.2.2.2.2.2.2.2.2.1, x.2.2.2.2.2.2.2.2.2.2.2.2.1, ())
def bSender (x : (List DField) × Int × Int × (List DTable) × Int × Int × Int × Int × (List DSent) × Bool × (List DField) × Int × (List (List (List Int))) × Unit) : Prop := bFieldS x.1 ∧ bTableS x.2.2.2.1 ∧ bLinkOut (x.2.2.2.2.2.1, x.2.2.2.2.2.2.1, x.2.2.2.2.2.2.2.1, x.2.2.2.2.2.2.2.2.1, ()) ∧ bStream (x.2.2.2.2.2.2.2.2.2.1, x.2.2.2.2.2.2.2.2.2.2.1, x.2.2.2.2.2.2.2.2.2.2.2.1, x.2.2.2.2.2.2.2.2.2.2.2.2.1, ())
theorem Sender_sz (x : (List DField) × Int × Int × (List DTable) × Int × Int × Int × Int × (List DSent) × Bool × (List DField) × Int × (List (List (List Int))) × Unit) (n : Int) (hb : bSender x) (h0 : 0 ≤ n) (hn : n ≤ 1048576) : L.szSender (x, n, ()) = some (szP (wSender x) n, (((), (), (), (), (), (), (), (), (), (), (), (), (), ()), (), ())) := by
  unfold bSender at hb
  unfold L.szSender
  dsimp only
  have g0 := FieldS_sz x.1 (n) hb.1 (by omega) (by omega)
  by_cases n0 : n < (wFieldS x.1 : Int)
  · rw [szP_lt n0] at g0
    refine bind_of g0 ?_
    rw [szP_lt (show n < (wSender x : Int) by unfold wSender; omega)]
    rfl
  rw [szP_ge (by omega)] at g0
  refine bind_of g0 ?_
  simp only [show decide (n - (wFieldS x.1 : Int) < 0) = false by simp; omega, cond_false]
  have g1 := TableS_sz x.2.2.2.1 (n - (wFieldS x.1 : Int)) hb.2.1 (by omega) (by omega)
  by_cases n1 : n - (wFieldS x.1 : Int) < (wTableS x.2.2.2.1 : Int)
  · rw [szP_lt n1] at g1
    refine bind_of g1 ?_
    rw [szP_lt (show n < (wSender x : Int) by unfold wSender; omega)]
    rfl
  rw [szP_ge (by omega)] at g1
  refine bind_of g1 ?_
  simp only [show decide (n - (wFieldS x.1 : Int) - (wTableS x.2.2.2.1 : Int) < 0) = false by simp; omega, cond_false]
  have g2 := LinkOut_sz (x.2.2.2.2.2.1, x.2.2.2.2.2.2.1, x.2.2.2.2.2.2.2.1, x.2.2.2.2.2.2.2.2.1, ()) (n - (wFieldS x.1 : Int) - (wTableS x.2.2.2.1 : Int)) hb.2.2.1 (by omega) (by omega)
  by_cases n2 : n - (wFieldS x.1 : Int) - (wTableS x.2.2.2.1 : Int) < (wLinkOut (x.2.2.2.2.2.1, x.2.2.2.2.2.2.1, x.2.2.2.2.2.2.2.1, x.2.2.2.2.2.2.2.2.1, ()) : Int)
  · rw [szP_lt n2] at g2
    refine bind_of g2 ?_
    rw [szP_lt (show n < (wSender x : Int) by unfold wSender; omega)]
    rfl
  rw [szP_ge (by omega)] at g2
  refine bind_of g2 ?_
  simp only [show decide (n - (wFieldS x.1 : Int) - (wTableS x.2.2.2.1 : Int) - (wLinkOut (x.2.2.2.2.2.1, x.2.2.2.2.2.2.1, x.2.2.2.2.2.2.2.1, x.2.2.2.2.2.2.2.2.1, ()) : Int) < 0) = false by simp; omega, cond_false]
  have g3 := Stream_sz (x.2.2.2.2.2.2.2.2.2.1, x.2.2.2.2.2.2.2.2.2.2.1, x.2.2.2.2.2.2.2.2.2.2.2.1, x.2.2.2.2.2.2.2.2.2.2.2.2.1, ()) (n - (wFieldS x.1 : Int) - (wTableS x.2.2.2.1 : Int) - (wLinkOut (x.2.2.2.2.2.1, x.2.2.2.2.2.2.1, x.2.2.2.2.2.2.2.1, x.2.2.2.2.2.2.2.2.1, ()) : Int)) hb.2.2.2 (by omega) (by omega)
  by_cases n3 : n - (wFieldS x.1 : Int) - (wTableS x.2.2.2.1 : Int) - (wLinkOut (x.2.2.2.2.2.1, x.2.2.2.2.2.2.1, x.2.2.2.2.2.2.2.1, x.2.2.2.2.2.2.2.2.1, ()) : Int) < (wStream (x.2.2.2.2.2.2.2.2.2.1, x.2.2.2.2.2.2.2.2.2.2.1, x.2.2.2.2.2.2.2.2.2.2.2.1, x.2.2.2.2.2.2.2.2.2.2.2.2.1, ()) : Int)
  · rw [szP_lt n3] at g3
    refine bind_of g3 ?_
    rw [szP_lt (show n < (wSender x : Int) by unfold wSender; omega)]
    rfl
  rw [szP_ge (by omega)] at g3
  refine bind_of g3 ?_
  simp only [show decide (n - (wFieldS x.1 : Int) - (wTableS x.2.2.2.1 : Int) - (wLinkOut (x.2.2.2.2.2.1, x.2.2.2.2.2.2.1, x.2.2.2.2.2.2.2.1, x.2.2.2.2.2.2.2.2.1, ()) : Int) - (wStream (x.2.2.2.2.2.2.2.2.2.1, x.2.2.2.2.2.2.2.2.2.2.1, x.2.2.2.2.2.2.2.2.2.2.2.1, x.2.2.2.2.2.2.2.2.2.2.2.2.1, ()) : Int) < 0) = false by simp; omega, cond_false]
  rw [szP_ge (show (wSender x : Int) ≤ n by unfold wSender; omega)]
  rw [show n - (wFieldS x.1 : Int) - (wTableS x.2.2.2.1 : Int) - (wLinkOut (x.2.2.2.2.2.1, x.2.2.2.2.2.2.1, x.2.2.2.2.2.2.2.1, x.2.2.2.2.2.2.2.2.1, ()) : Int) - (wStream (x.2.2.2.2.2.2.2.2.2.1, x.2.2.2.2.2.2.2.2.2.2.1, x.2.2.2.2.2.2.2.2.2.2.2.1, x.2.2.2.2.2.2.2.2.2.2.2.2.1, ()) : Int) = n - (wSender x : Int) by unfold wSender; omega]
theorem Sender_to (x : (List DField) × Int × Int × (List DTable) × Int × Int × Int × Int × (List DSent) × Bool × (List DField) × Int × (List (List (List Int))) × Unit) (h : wSender x ≤ 1048576) : L.toSender (x, ()) = some (x, (((), (), (), (), (), (), (), (), (), (), (), (), (), ()), ())) := by
  unfold wSender at h
  unfold L.toSender
  dsimp only
  refine bind_of (FieldS_to x.1 (by omega)) ?_
  refine bind_of (TableS_to x.2.2.2.1 (by omega)) ?_
  refine bind_of (LinkOut_to (x.2.2.2.2.2.1, x.2.2.2.2.2.2.1, x.2.2.2.2.2.2.2.1, x.2.2.2.2.2.2.2.2.1, ()) (by omega)) ?_
  refine bind_of (Stream_to (x.2.2.2.2.2.2.2.2.2.1, x.2.2.2.2.2.2.2.2.2.2.1, x.2.2.2.2.2.2.2.2.2.2.2.1, x.2.2.2.2.2.2.2.2.2.2.2.2.1, ()) (by omega)) ?_
  rfl
theorem Sender_eq (x : (List DField) × Int × Int × (List DTable) × Int × Int × Int × Int × (List DSent) × Bool × (List DField) × Int × (List (List (List Int))) × Unit) (h : bSender x) : L.eqSender (x, x, ()) = some (true, (((), (), (), (), (), (), (), (), (), (), (), (), (), ()), ((), (), (), (), (), (), (), (), (), (), (), (), (), ()), ())) := by
  unfold bSender at h
  unfold L.eqSender
  simp only [bne_self_eq_false, BEq.rfl, Bool.not_true, cond_false]
  refine bind_of (FieldS_eq x.1 h.1) ?_
  simp only [bne_self_eq_false, BEq.rfl, Bool.not_true, cond_false]
  refine bind_of (TableS_eq x.2.2.2.1 h.2.1) ?_
  simp only [bne_self_eq_false, BEq.rfl, Bool.not_true, cond_false]
  refine bind_of (LinkOut_eq (x.2.2.2.2.2.1, x.2.2.2.2.2.2.1, x.2.2.2.2.2.2.2.1, x.2.2.2.2.2.2.2.2.1, ()) h.2.2.1) ?_
  simp only [bne_self_eq_false, BEq.rfl, Bool.not_true, cond_false]
  refine bind_of (Stream_eq (x.2.2.2.2.2.2.2.2.2.1, x.2.2.2.2.2.2.2.2.2.2.1, x.2.2.2.2.2.2.2.2.2.2.2.1, x.2.2.2.2.2.2.2.2.2.2.2.2.1, ()) h.2.2.2) ?_
  simp only [bne_self_eq_false, BEq.rfl, Bool.not_true, cond_false]
end Go.Ev

