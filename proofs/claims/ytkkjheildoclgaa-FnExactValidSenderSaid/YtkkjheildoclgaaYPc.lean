/- A text of the claim, printed by a program: functions that the law reaches, as Lean functions, and that they are so. -/
import Derived.Test.YtkkjheildoclgaaYPb
import Derived.Test.YtkkjheildoclgaaYFc
set_option linter.all false
set_option linter.unusedVariables false
set_option linter.unusedSimpArgs false
set_option autoImplicit false
set_option maxRecDepth 100000
set_option linter.unusedVariables false
namespace Go.Ev
open Go.Proofs
theorem L.szSent.q (x : L.szSent.A) : evalF Ty Try.f235 L.szSent.fa L.szSent.fr 2 L.szSent.o [] x = L.szSent x := by kernel_rfl
theorem L.szSent.oo : OrcOK Try.prog L.szSent.o := (orc_cons L.szPacket.ok orc_nil)
theorem L.szSent.ok : SpecOK Try.prog 235 L.szSent.spec :=
  func_ok (f := Try.f235) (fa := L.szSent.fa) (fr := L.szSent.fr) (spec := L.szSent) (np := 2) (L := ([] : List (Nat × LoopO (DenF L.szSent.fr × DenB L.szSent.fa)))) mixed ty_ok L.szSent.oo (by kernel_rfl) (by kernel_rfl) (by kernel_rfl) (by kernel_rfl) (loops_of (bs := []) (by kernel_rfl) trivial) (L.szSent.q)

theorem L.szSentS.q5 (Rc : L.szSentS.H5 → Option L.szSentS.R) (X : Nat → L.szSentS.E5 → Option L.szSentS.R) (x : L.szSentS.H5) : evalL Ty Try.f196 L.szSentS.fa L.szSentS.fr 2 5 L.szSentS.o [] [0, 1, 5] L.szSentS.h5 [1] L.szSentS.e5 Rc X x = L.szSentS.st5 Rc X x := by kernel_rfl
theorem L.szSentS.q (l5 : L.szSentS.H5 → (Nat → L.szSentS.E5 → Option L.szSentS.R) → Option L.szSentS.R) (x : L.szSentS.A) : evalF Ty Try.f196 L.szSentS.fa L.szSentS.fr 2 L.szSentS.o [(5, ⟨[0, 1, 5], L.szSentS.h5, [1], L.szSentS.e5, l5⟩)] x = L.szSentS.p l5 x := by kernel_rfl
theorem L.szSentS.oo : OrcOK Try.prog L.szSentS.o := (orc_cons L.szSent.ok orc_nil)
theorem L.szSentS.lk5 : LoopOK (fxOf L.szSentS.fa 0) Try.prog (loopBody 5 Try.f196) (max 2 Try.f196.ntmps) (fin Ty Try.f196 L.szSentS.fa L.szSentS.fr 2) L.szSentS.lo5 :=
  loopF_ok (f := Try.f196) (np := 2) (n := 5) (fa := L.szSentS.fa) (fr := L.szSentS.fr) (L := ([] : List (Nat × LoopO (DenF L.szSentS.fr × DenB L.szSentS.fa)))) (hs := [0, 1, 5]) (xs := [1]) (head := L.szSentS.h5) (exit := L.szSentS.e5) (step := L.szSentS.st5) mixed ty_ok L.szSentS.oo (loops_of (bs := []) (by kernel_rfl) trivial) (L.szSentS.q5) big
theorem L.szSentS.ok : SpecOK Try.prog 196 L.szSentS.spec :=
  func_ok (f := Try.f196) (fa := L.szSentS.fa) (fr := L.szSentS.fr) (spec := L.szSentS) (np := 2) (L := ([(5, L.szSentS.lo5)] : List (Nat × LoopO (DenF L.szSentS.fr × DenB L.szSentS.fa)))) mixed ty_ok L.szSentS.oo (by kernel_rfl) (by kernel_rfl) (by kernel_rfl) (by kernel_rfl) (loops_of (bs := [loopBody 5 Try.f196]) (by kernel_rfl) ⟨one_loop (lo := L.szSentS.lo5) (by kernel_rfl) L.szSentS.lk5, trivial⟩) (L.szSentS.q L.szSentS.l5)

theorem L.szLinkOut.q (x : L.szLinkOut.A) : evalF Ty Try.f135 L.szLinkOut.fa L.szLinkOut.fr 2 L.szLinkOut.o [] x = L.szLinkOut x := by kernel_rfl
theorem L.szLinkOut.oo : OrcOK Try.prog L.szLinkOut.o := (orc_cons L.szSentS.ok orc_nil)
theorem L.szLinkOut.ok : SpecOK Try.prog 135 L.szLinkOut.spec :=
  func_ok (f := Try.f135) (fa := L.szLinkOut.fa) (fr := L.szLinkOut.fr) (spec := L.szLinkOut) (np := 2) (L := ([] : List (Nat × LoopO (DenF L.szLinkOut.fr × DenB L.szLinkOut.fa)))) mixed ty_ok L.szLinkOut.oo (by kernel_rfl) (by kernel_rfl) (by kernel_rfl) (by kernel_rfl) (loops_of (bs := []) (by kernel_rfl) trivial) (L.szLinkOut.q)

theorem L.szSender.q (x : L.szSender.A) : evalF Ty Try.f51 L.szSender.fa L.szSender.fr 2 L.szSender.o [] x = L.szSender x := by kernel_rfl
theorem L.szSender.oo : OrcOK Try.prog L.szSender.o := (orc_cons L.szFieldS.ok (orc_cons L.szStream.ok (orc_cons L.szTableS.ok (orc_cons L.szLinkOut.ok orc_nil))))
theorem L.szSender.ok : SpecOK Try.prog 51 L.szSender.spec :=
  func_ok (f := Try.f51) (fa := L.szSender.fa) (fr := L.szSender.fr) (spec := L.szSender) (np := 2) (L := ([] : List (Nat × LoopO (DenF L.szSender.fr × DenB L.szSender.fa)))) mixed ty_ok L.szSender.oo (by kernel_rfl) (by kernel_rfl) (by kernel_rfl) (by kernel_rfl) (loops_of (bs := []) (by kernel_rfl) trivial) (L.szSender.q)

theorem L.toSent.q (x : L.toSent.A) : evalF Ty Try.f237 L.toSent.fa L.toSent.fr 1 L.toSent.o [] x = L.toSent x := by kernel_rfl
theorem L.toSent.oo : OrcOK Try.prog L.toSent.o := (orc_cons L.toPacket.ok orc_nil)
theorem L.toSent.ok : SpecOK Try.prog 237 L.toSent.spec :=
  func_ok (f := Try.f237) (fa := L.toSent.fa) (fr := L.toSent.fr) (spec := L.toSent) (np := 1) (L := ([] : List (Nat × LoopO (DenF L.toSent.fr × DenB L.toSent.fa)))) mixed ty_ok L.toSent.oo (by kernel_rfl) (by kernel_rfl) (by kernel_rfl) (by kernel_rfl) (loops_of (bs := []) (by kernel_rfl) trivial) (L.toSent.q)

theorem L.toSentS.q3 (Rc : L.toSentS.H3 → Option L.toSentS.R) (X : Nat → L.toSentS.E3 → Option L.toSentS.R) (x : L.toSentS.H3) : evalL Ty Try.f198 L.toSentS.fa L.toSentS.fr 1 3 L.toSentS.o [] [0, 3, 4] L.toSentS.h3 [3] L.toSentS.e3 Rc X x = L.toSentS.st3 Rc X x := by kernel_rfl
theorem L.toSentS.q (l3 : L.toSentS.H3 → (Nat → L.toSentS.E3 → Option L.toSentS.R) → Option L.toSentS.R) (x : L.toSentS.A) : evalF Ty Try.f198 L.toSentS.fa L.toSentS.fr 1 L.toSentS.o [(3, ⟨[0, 3, 4], L.toSentS.h3, [3], L.toSentS.e3, l3⟩)] x = L.toSentS.p l3 x := by kernel_rfl
theorem L.toSentS.oo : OrcOK Try.prog L.toSentS.o := (orc_cons L.toSent.ok orc_nil)
theorem L.toSentS.lk3 : LoopOK (fxOf L.toSentS.fa 0) Try.prog (loopBody 3 Try.f198) (max 1 Try.f198.ntmps) (fin Ty Try.f198 L.toSentS.fa L.toSentS.fr 1) L.toSentS.lo3 :=
  loopF_ok (f := Try.f198) (np := 1) (n := 3) (fa := L.toSentS.fa) (fr := L.toSentS.fr) (L := ([] : List (Nat × LoopO (DenF L.toSentS.fr × DenB L.toSentS.fa)))) (hs := [0, 3, 4]) (xs := [3]) (head := L.toSentS.h3) (exit := L.toSentS.e3) (step := L.toSentS.st3) mixed ty_ok L.toSentS.oo (loops_of (bs := []) (by kernel_rfl) trivial) (L.toSentS.q3) big
theorem L.toSentS.ok : SpecOK Try.prog 198 L.toSentS.spec :=
  func_ok (f := Try.f198) (fa := L.toSentS.fa) (fr := L.toSentS.fr) (spec := L.toSentS) (np := 1) (L := ([(3, L.toSentS.lo3)] : List (Nat × LoopO (DenF L.toSentS.fr × DenB L.toSentS.fa)))) mixed ty_ok L.toSentS.oo (by kernel_rfl) (by kernel_rfl) (by kernel_rfl) (by kernel_rfl) (loops_of (bs := [loopBody 3 Try.f198]) (by kernel_rfl) ⟨one_loop (lo := L.toSentS.lo3) (by kernel_rfl) L.toSentS.lk3, trivial⟩) (L.toSentS.q L.toSentS.l3)

theorem L.toLinkOut.q (x : L.toLinkOut.A) : evalF Ty Try.f139 L.toLinkOut.fa L.toLinkOut.fr 1 L.toLinkOut.o [] x = L.toLinkOut x := by kernel_rfl
theorem L.toLinkOut.oo : OrcOK Try.prog L.toLinkOut.o := (orc_cons L.toSentS.ok orc_nil)
theorem L.toLinkOut.ok : SpecOK Try.prog 139 L.toLinkOut.spec :=
  func_ok (f := Try.f139) (fa := L.toLinkOut.fa) (fr := L.toLinkOut.fr) (spec := L.toLinkOut) (np := 1) (L := ([] : List (Nat × LoopO (DenF L.toLinkOut.fr × DenB L.toLinkOut.fa)))) mixed ty_ok L.toLinkOut.oo (by kernel_rfl) (by kernel_rfl) (by kernel_rfl) (by kernel_rfl) (loops_of (bs := []) (by kernel_rfl) trivial) (L.toLinkOut.q)

theorem L.toSender.q (x : L.toSender.A) : evalF Ty Try.f53 L.toSender.fa L.toSender.fr 1 L.toSender.o [] x = L.toSender x := by kernel_rfl
theorem L.toSender.oo : OrcOK Try.prog L.toSender.o := (orc_cons L.toFieldS.ok (orc_cons L.toStream.ok (orc_cons L.toTableS.ok (orc_cons L.toLinkOut.ok orc_nil))))
theorem L.toSender.ok : SpecOK Try.prog 53 L.toSender.spec :=
  func_ok (f := Try.f53) (fa := L.toSender.fa) (fr := L.toSender.fr) (spec := L.toSender) (np := 1) (L := ([] : List (Nat × LoopO (DenF L.toSender.fr × DenB L.toSender.fa)))) mixed ty_ok L.toSender.oo (by kernel_rfl) (by kernel_rfl) (by kernel_rfl) (by kernel_rfl) (loops_of (bs := []) (by kernel_rfl) trivial) (L.toSender.q)

theorem S.ValidOut.q4 (Rc : S.ValidOut.H4 → Option S.ValidOut.R) (X : Nat → S.ValidOut.E4 → Option S.ValidOut.R) (x : S.ValidOut.H4) : evalL Ty Try.f34 S.ValidOut.fa S.ValidOut.fr 1 4 S.ValidOut.o [] [1, 3] S.ValidOut.h4 [] S.ValidOut.e4 Rc X x = S.ValidOut.st4 Rc X x := by kernel_rfl
theorem S.ValidOut.q (l4 : S.ValidOut.H4 → (Nat → S.ValidOut.E4 → Option S.ValidOut.R) → Option S.ValidOut.R) (x : S.ValidOut.A) : evalF Ty Try.f34 S.ValidOut.fa S.ValidOut.fr 1 S.ValidOut.o [(4, ⟨[1, 3], S.ValidOut.h4, [], S.ValidOut.e4, l4⟩)] x = S.ValidOut.p l4 x := by kernel_rfl
theorem S.ValidOut.oo : OrcOK Try.prog S.ValidOut.o := (orc_cons S.l5valid.ok orc_nil)
theorem S.ValidOut.lk4 : LoopOK (fxOf S.ValidOut.fa 0) Try.prog (loopBody 4 Try.f34) (max 1 Try.f34.ntmps) (fin Ty Try.f34 S.ValidOut.fa S.ValidOut.fr 1) S.ValidOut.lo4 :=
  loopF_ok (f := Try.f34) (np := 1) (n := 4) (fa := S.ValidOut.fa) (fr := S.ValidOut.fr) (L := ([] : List (Nat × LoopO (DenF S.ValidOut.fr × DenB S.ValidOut.fa)))) (hs := [1, 3]) (xs := []) (head := S.ValidOut.h4) (exit := S.ValidOut.e4) (step := S.ValidOut.st4) mixed ty_ok S.ValidOut.oo (loops_of (bs := []) (by kernel_rfl) trivial) (S.ValidOut.q4) big
theorem S.ValidOut.ok : SpecOK Try.prog 34 S.ValidOut.spec :=
  func_ok (f := Try.f34) (fa := S.ValidOut.fa) (fr := S.ValidOut.fr) (spec := S.ValidOut) (np := 1) (L := ([(4, S.ValidOut.lo4)] : List (Nat × LoopO (DenF S.ValidOut.fr × DenB S.ValidOut.fa)))) mixed ty_ok S.ValidOut.oo (by kernel_rfl) (by kernel_rfl) (by kernel_rfl) (by kernel_rfl) (loops_of (bs := [loopBody 4 Try.f34]) (by kernel_rfl) ⟨one_loop (lo := S.ValidOut.lo4) (by kernel_rfl) S.ValidOut.lk4, trivial⟩) (S.ValidOut.q S.ValidOut.l4)

theorem S.l6sameFields.q4 (Rc : S.l6sameFields.H4 → Option S.l6sameFields.R) (X : Nat → S.l6sameFields.E4 → Option S.l6sameFields.R) (x : S.l6sameFields.H4) : evalL Ty Try.f138 S.l6sameFields.fa S.l6sameFields.fr 2 4 S.l6sameFields.o [] [0, 1, 5] S.l6sameFields.h4 [] S.l6sameFields.e4 Rc X x = S.l6sameFields.st4 Rc X x := by kernel_rfl
theorem S.l6sameFields.q (l4 : S.l6sameFields.H4 → (Nat → S.l6sameFields.E4 → Option S.l6sameFields.R) → Option S.l6sameFields.R) (x : S.l6sameFields.A) : evalF Ty Try.f138 S.l6sameFields.fa S.l6sameFields.fr 2 S.l6sameFields.o [(4, ⟨[0, 1, 5], S.l6sameFields.h4, [], S.l6sameFields.e4, l4⟩)] x = S.l6sameFields.p l4 x := by kernel_rfl
theorem S.l6sameFields.oo : OrcOK Try.prog S.l6sameFields.o := (orc_cons S.l1same.ok orc_nil)
theorem S.l6sameFields.lk4 : LoopOK (fxOf S.l6sameFields.fa 0) Try.prog (loopBody 4 Try.f138) (max 2 Try.f138.ntmps) (fin Ty Try.f138 S.l6sameFields.fa S.l6sameFields.fr 2) S.l6sameFields.lo4 :=
  loopF_ok (f := Try.f138) (np := 2) (n := 4) (fa := S.l6sameFields.fa) (fr := S.l6sameFields.fr) (L := ([] : List (Nat × LoopO (DenF S.l6sameFields.fr × DenB S.l6sameFields.fa)))) (hs := [0, 1, 5]) (xs := []) (head := S.l6sameFields.h4) (exit := S.l6sameFields.e4) (step := S.l6sameFields.st4) mixed ty_ok S.l6sameFields.oo (loops_of (bs := []) (by kernel_rfl) trivial) (S.l6sameFields.q4) big
theorem S.l6sameFields.ok : SpecOK Try.prog 138 S.l6sameFields.spec :=
  func_ok (f := Try.f138) (fa := S.l6sameFields.fa) (fr := S.l6sameFields.fr) (spec := S.l6sameFields) (np := 2) (L := ([(4, S.l6sameFields.lo4)] : List (Nat × LoopO (DenF S.l6sameFields.fr × DenB S.l6sameFields.fa)))) mixed ty_ok S.l6sameFields.oo (by kernel_rfl) (by kernel_rfl) (by kernel_rfl) (by kernel_rfl) (loops_of (bs := [loopBody 4 Try.f138]) (by kernel_rfl) ⟨one_loop (lo := S.l6sameFields.lo4) (by kernel_rfl) S.l6sameFields.lk4, trivial⟩) (S.l6sameFields.q S.l6sameFields.l4)

theorem S.ValidSender.q (x : S.ValidSender.A) : evalF Ty Try.f52 S.ValidSender.fa S.ValidSender.fr 1 S.ValidSender.o [] x = S.ValidSender x := by kernel_rfl
theorem S.ValidSender.oo : OrcOK Try.prog S.ValidSender.o := (orc_cons S.ValidOut.ok (orc_cons S.ValidStream.ok (orc_cons S.ValidFields.ok (orc_cons S.l6tablesOK.ok (orc_cons S.l6sameFields.ok orc_nil)))))
theorem S.ValidSender.ok : SpecOK Try.prog 52 S.ValidSender.spec :=
  func_ok (f := Try.f52) (fa := S.ValidSender.fa) (fr := S.ValidSender.fr) (spec := S.ValidSender) (np := 1) (L := ([] : List (Nat × LoopO (DenF S.ValidSender.fr × DenB S.ValidSender.fa)))) mixed ty_ok S.ValidSender.oo (by kernel_rfl) (by kernel_rfl) (by kernel_rfl) (by kernel_rfl) (loops_of (bs := []) (by kernel_rfl) trivial) (S.ValidSender.q)

theorem I.ValidOut.q5 (Rc : I.ValidOut.H5 → Option I.ValidOut.R) (X : Nat → I.ValidOut.E5 → Option I.ValidOut.R) (x : I.ValidOut.H5) : evalL Ty Try.f95 I.ValidOut.fa I.ValidOut.fr 1 5 I.ValidOut.o [] [1, 3, 43, 44, 45] I.ValidOut.h5 [] I.ValidOut.e5 Rc X x = I.ValidOut.st5 Rc X x := by kernel_rfl
theorem I.ValidOut.q (l5 : I.ValidOut.H5 → (Nat → I.ValidOut.E5 → Option I.ValidOut.R) → Option I.ValidOut.R) (x : I.ValidOut.A) : evalF Ty Try.f95 I.ValidOut.fa I.ValidOut.fr 1 I.ValidOut.o [(5, ⟨[1, 3, 43, 44, 45], I.ValidOut.h5, [], I.ValidOut.e5, l5⟩)] x = I.ValidOut.p l5 x := by kernel_rfl
theorem I.ValidOut.oo : OrcOK Try.prog I.ValidOut.o := (orc_cons I.packetOk.ok orc_nil)
theorem I.ValidOut.lk5 : LoopOK (fxOf I.ValidOut.fa 0) Try.prog (loopBody 5 Try.f95) (max 1 Try.f95.ntmps) (fin Ty Try.f95 I.ValidOut.fa I.ValidOut.fr 1) I.ValidOut.lo5 :=
  loopF_ok (f := Try.f95) (np := 1) (n := 5) (fa := I.ValidOut.fa) (fr := I.ValidOut.fr) (L := ([] : List (Nat × LoopO (DenF I.ValidOut.fr × DenB I.ValidOut.fa)))) (hs := [1, 3, 43, 44, 45]) (xs := []) (head := I.ValidOut.h5) (exit := I.ValidOut.e5) (step := I.ValidOut.st5) mixed ty_ok I.ValidOut.oo (loops_of (bs := []) (by kernel_rfl) trivial) (I.ValidOut.q5) big
theorem I.ValidOut.ok : SpecOK Try.prog 95 I.ValidOut.spec :=
  func_ok (f := Try.f95) (fa := I.ValidOut.fa) (fr := I.ValidOut.fr) (spec := I.ValidOut) (np := 1) (L := ([(5, I.ValidOut.lo5)] : List (Nat × LoopO (DenF I.ValidOut.fr × DenB I.ValidOut.fa)))) mixed ty_ok I.ValidOut.oo (by kernel_rfl) (by kernel_rfl) (by kernel_rfl) (by kernel_rfl) (loops_of (bs := [loopBody 5 Try.f95]) (by kernel_rfl) ⟨one_loop (lo := I.ValidOut.lo5) (by kernel_rfl) I.ValidOut.lk5, trivial⟩) (I.ValidOut.q I.ValidOut.l5)

theorem I.ValidSender_f1.q (x : I.ValidSender_f1.A) : evalF Ty Try.f141 I.ValidSender_f1.fa I.ValidSender_f1.fr 2 I.ValidSender_f1.o [] x = I.ValidSender_f1 x := by kernel_rfl
theorem I.ValidSender_f1.oo : OrcOK Try.prog I.ValidSender_f1.o := (orc_cons I.ValidTable.ok orc_nil)
theorem I.ValidSender_f1.ok : SpecOK Try.prog 141 I.ValidSender_f1.spec :=
  func_ok (f := Try.f141) (fa := I.ValidSender_f1.fa) (fr := I.ValidSender_f1.fr) (spec := I.ValidSender_f1) (np := 2) (L := ([] : List (Nat × LoopO (DenF I.ValidSender_f1.fr × DenB I.ValidSender_f1.fa)))) mixed ty_ok I.ValidSender_f1.oo (by kernel_rfl) (by kernel_rfl) (by kernel_rfl) (by kernel_rfl) (loops_of (bs := []) (by kernel_rfl) trivial) (I.ValidSender_f1.q)

theorem B.slices_IndexFunc_Table_ValidSender_f1.q2 (Rc : B.slices_IndexFunc_Table_ValidSender_f1.H2 → Option B.slices_IndexFunc_Table_ValidSender_f1.R) (X : Nat → B.slices_IndexFunc_Table_ValidSender_f1.E2 → Option B.slices_IndexFunc_Table_ValidSender_f1.R) (x : B.slices_IndexFunc_Table_ValidSender_f1.H2) : evalL Ty Try.f192 B.slices_IndexFunc_Table_ValidSender_f1.fa B.slices_IndexFunc_Table_ValidSender_f1.fr 2 2 B.slices_IndexFunc_Table_ValidSender_f1.o [] [0, 1, 7, 8] B.slices_IndexFunc_Table_ValidSender_f1.h2 [] B.slices_IndexFunc_Table_ValidSender_f1.e2 Rc X x = B.slices_IndexFunc_Table_ValidSender_f1.st2 Rc X x := by kernel_rfl
theorem B.slices_IndexFunc_Table_ValidSender_f1.q (l2 : B.slices_IndexFunc_Table_ValidSender_f1.H2 → (Nat → B.slices_IndexFunc_Table_ValidSender_f1.E2 → Option B.slices_IndexFunc_Table_ValidSender_f1.R) → Option B.slices_IndexFunc_Table_ValidSender_f1.R) (x : B.slices_IndexFunc_Table_ValidSender_f1.A) : evalF Ty Try.f192 B.slices_IndexFunc_Table_ValidSender_f1.fa B.slices_IndexFunc_Table_ValidSender_f1.fr 2 B.slices_IndexFunc_Table_ValidSender_f1.o [(2, ⟨[0, 1, 7, 8], B.slices_IndexFunc_Table_ValidSender_f1.h2, [], B.slices_IndexFunc_Table_ValidSender_f1.e2, l2⟩)] x = B.slices_IndexFunc_Table_ValidSender_f1.p l2 x := by kernel_rfl
theorem B.slices_IndexFunc_Table_ValidSender_f1.oo : OrcOK Try.prog B.slices_IndexFunc_Table_ValidSender_f1.o := (orc_cons I.ValidSender_f1.ok orc_nil)
theorem B.slices_IndexFunc_Table_ValidSender_f1.lk2 : LoopOK (fxOf B.slices_IndexFunc_Table_ValidSender_f1.fa 0) Try.prog (loopBody 2 Try.f192) (max 2 Try.f192.ntmps) (fin Ty Try.f192 B.slices_IndexFunc_Table_ValidSender_f1.fa B.slices_IndexFunc_Table_ValidSender_f1.fr 2) B.slices_IndexFunc_Table_ValidSender_f1.lo2 :=
  loopF_ok (f := Try.f192) (np := 2) (n := 2) (fa := B.slices_IndexFunc_Table_ValidSender_f1.fa) (fr := B.slices_IndexFunc_Table_ValidSender_f1.fr) (L := ([] : List (Nat × LoopO (DenF B.slices_IndexFunc_Table_ValidSender_f1.fr × DenB B.slices_IndexFunc_Table_ValidSender_f1.fa)))) (hs := [0, 1, 7, 8]) (xs := []) (head := B.slices_IndexFunc_Table_ValidSender_f1.h2) (exit := B.slices_IndexFunc_Table_ValidSender_f1.e2) (step := B.slices_IndexFunc_Table_ValidSender_f1.st2) mixed ty_ok B.slices_IndexFunc_Table_ValidSender_f1.oo (loops_of (bs := []) (by kernel_rfl) trivial) (B.slices_IndexFunc_Table_ValidSender_f1.q2) big
theorem B.slices_IndexFunc_Table_ValidSender_f1.ok : SpecOK Try.prog 192 B.slices_IndexFunc_Table_ValidSender_f1.spec :=
  func_ok (f := Try.f192) (fa := B.slices_IndexFunc_Table_ValidSender_f1.fa) (fr := B.slices_IndexFunc_Table_ValidSender_f1.fr) (spec := B.slices_IndexFunc_Table_ValidSender_f1) (np := 2) (L := ([(2, B.slices_IndexFunc_Table_ValidSender_f1.lo2)] : List (Nat × LoopO (DenF B.slices_IndexFunc_Table_ValidSender_f1.fr × DenB B.slices_IndexFunc_Table_ValidSender_f1.fa)))) mixed ty_ok B.slices_IndexFunc_Table_ValidSender_f1.oo (by kernel_rfl) (by kernel_rfl) (by kernel_rfl) (by kernel_rfl) (loops_of (bs := [loopBody 2 Try.f192]) (by kernel_rfl) ⟨one_loop (lo := B.slices_IndexFunc_Table_ValidSender_f1.lo2) (by kernel_rfl) B.slices_IndexFunc_Table_ValidSender_f1.lk2, trivial⟩) (B.slices_IndexFunc_Table_ValidSender_f1.q B.slices_IndexFunc_Table_ValidSender_f1.l2)

theorem B.slices_ContainsFunc_Table_ValidSender_f1.q (x : B.slices_ContainsFunc_Table_ValidSender_f1.A) : evalF Ty Try.f130 B.slices_ContainsFunc_Table_ValidSender_f1.fa B.slices_ContainsFunc_Table_ValidSender_f1.fr 2 B.slices_ContainsFunc_Table_ValidSender_f1.o [] x = B.slices_ContainsFunc_Table_ValidSender_f1 x := by kernel_rfl
theorem B.slices_ContainsFunc_Table_ValidSender_f1.oo : OrcOK Try.prog B.slices_ContainsFunc_Table_ValidSender_f1.o := (orc_cons B.slices_IndexFunc_Table_ValidSender_f1.ok orc_nil)
theorem B.slices_ContainsFunc_Table_ValidSender_f1.ok : SpecOK Try.prog 130 B.slices_ContainsFunc_Table_ValidSender_f1.spec :=
  func_ok (f := Try.f130) (fa := B.slices_ContainsFunc_Table_ValidSender_f1.fa) (fr := B.slices_ContainsFunc_Table_ValidSender_f1.fr) (spec := B.slices_ContainsFunc_Table_ValidSender_f1) (np := 2) (L := ([] : List (Nat × LoopO (DenF B.slices_ContainsFunc_Table_ValidSender_f1.fr × DenB B.slices_ContainsFunc_Table_ValidSender_f1.fa)))) mixed ty_ok B.slices_ContainsFunc_Table_ValidSender_f1.oo (by kernel_rfl) (by kernel_rfl) (by kernel_rfl) (by kernel_rfl) (loops_of (bs := []) (by kernel_rfl) trivial) (B.slices_ContainsFunc_Table_ValidSender_f1.q)

theorem I.sameFields_f1.q (x : I.sameFields_f1.A) : evalF Ty Try.f200 I.sameFields_f1.fa I.sameFields_f1.fr 2 I.sameFields_f1.o [] x = I.sameFields_f1 x := by kernel_rfl
theorem I.sameFields_f1.oo : OrcOK Try.prog I.sameFields_f1.o := (orc_cons B.bytes_Equal.ok orc_nil)
theorem I.sameFields_f1.ok : SpecOK Try.prog 200 I.sameFields_f1.spec :=
  func_ok (f := Try.f200) (fa := I.sameFields_f1.fa) (fr := I.sameFields_f1.fr) (spec := I.sameFields_f1) (np := 2) (L := ([] : List (Nat × LoopO (DenF I.sameFields_f1.fr × DenB I.sameFields_f1.fa)))) mixed ty_ok I.sameFields_f1.oo (by kernel_rfl) (by kernel_rfl) (by kernel_rfl) (by kernel_rfl) (loops_of (bs := []) (by kernel_rfl) trivial) (I.sameFields_f1.q)

theorem B.slices_EqualFunc_Field_sameFields_f1.q4 (Rc : B.slices_EqualFunc_Field_sameFields_f1.H4 → Option B.slices_EqualFunc_Field_sameFields_f1.R) (X : Nat → B.slices_EqualFunc_Field_sameFields_f1.E4 → Option B.slices_EqualFunc_Field_sameFields_f1.R) (x : B.slices_EqualFunc_Field_sameFields_f1.H4) : evalL Ty Try.f199 B.slices_EqualFunc_Field_sameFields_f1.fa B.slices_EqualFunc_Field_sameFields_f1.fr 3 4 B.slices_EqualFunc_Field_sameFields_f1.o [] [1, 2, 15, 16, 17] B.slices_EqualFunc_Field_sameFields_f1.h4 [] B.slices_EqualFunc_Field_sameFields_f1.e4 Rc X x = B.slices_EqualFunc_Field_sameFields_f1.st4 Rc X x := by kernel_rfl
theorem B.slices_EqualFunc_Field_sameFields_f1.q (l4 : B.slices_EqualFunc_Field_sameFields_f1.H4 → (Nat → B.slices_EqualFunc_Field_sameFields_f1.E4 → Option B.slices_EqualFunc_Field_sameFields_f1.R) → Option B.slices_EqualFunc_Field_sameFields_f1.R) (x : B.slices_EqualFunc_Field_sameFields_f1.A) : evalF Ty Try.f199 B.slices_EqualFunc_Field_sameFields_f1.fa B.slices_EqualFunc_Field_sameFields_f1.fr 3 B.slices_EqualFunc_Field_sameFields_f1.o [(4, ⟨[1, 2, 15, 16, 17], B.slices_EqualFunc_Field_sameFields_f1.h4, [], B.slices_EqualFunc_Field_sameFields_f1.e4, l4⟩)] x = B.slices_EqualFunc_Field_sameFields_f1.p l4 x := by kernel_rfl
theorem B.slices_EqualFunc_Field_sameFields_f1.oo : OrcOK Try.prog B.slices_EqualFunc_Field_sameFields_f1.o := (orc_cons I.sameFields_f1.ok orc_nil)
theorem B.slices_EqualFunc_Field_sameFields_f1.lk4 : LoopOK (fxOf B.slices_EqualFunc_Field_sameFields_f1.fa 0) Try.prog (loopBody 4 Try.f199) (max 3 Try.f199.ntmps) (fin Ty Try.f199 B.slices_EqualFunc_Field_sameFields_f1.fa B.slices_EqualFunc_Field_sameFields_f1.fr 3) B.slices_EqualFunc_Field_sameFields_f1.lo4 :=
  loopF_ok (f := Try.f199) (np := 3) (n := 4) (fa := B.slices_EqualFunc_Field_sameFields_f1.fa) (fr := B.slices_EqualFunc_Field_sameFields_f1.fr) (L := ([] : List (Nat × LoopO (DenF B.slices_EqualFunc_Field_sameFields_f1.fr × DenB B.slices_EqualFunc_Field_sameFields_f1.fa)))) (hs := [1, 2, 15, 16, 17]) (xs := []) (head := B.slices_EqualFunc_Field_sameFields_f1.h4) (exit := B.slices_EqualFunc_Field_sameFields_f1.e4) (step := B.slices_EqualFunc_Field_sameFields_f1.st4) mixed ty_ok B.slices_EqualFunc_Field_sameFields_f1.oo (loops_of (bs := []) (by kernel_rfl) trivial) (B.slices_EqualFunc_Field_sameFields_f1.q4) big
theorem B.slices_EqualFunc_Field_sameFields_f1.ok : SpecOK Try.prog 199 B.slices_EqualFunc_Field_sameFields_f1.spec :=
  func_ok (f := Try.f199) (fa := B.slices_EqualFunc_Field_sameFields_f1.fa) (fr := B.slices_EqualFunc_Field_sameFields_f1.fr) (spec := B.slices_EqualFunc_Field_sameFields_f1) (np := 3) (L := ([(4, B.slices_EqualFunc_Field_sameFields_f1.lo4)] : List (Nat × LoopO (DenF B.slices_EqualFunc_Field_sameFields_f1.fr × DenB B.slices_EqualFunc_Field_sameFields_f1.fa)))) mixed ty_ok B.slices_EqualFunc_Field_sameFields_f1.oo (by kernel_rfl) (by kernel_rfl) (by kernel_rfl) (by kernel_rfl) (loops_of (bs := [loopBody 4 Try.f199]) (by kernel_rfl) ⟨one_loop (lo := B.slices_EqualFunc_Field_sameFields_f1.lo4) (by kernel_rfl) B.slices_EqualFunc_Field_sameFields_f1.lk4, trivial⟩) (B.slices_EqualFunc_Field_sameFields_f1.q B.slices_EqualFunc_Field_sameFields_f1.l4)

theorem I.sameFields.q (x : I.sameFields.A) : evalF Ty Try.f142 I.sameFields.fa I.sameFields.fr 2 I.sameFields.o [] x = I.sameFields x := by kernel_rfl
theorem I.sameFields.oo : OrcOK Try.prog I.sameFields.o := (orc_cons B.slices_EqualFunc_Field_sameFields_f1.ok orc_nil)
theorem I.sameFields.ok : SpecOK Try.prog 142 I.sameFields.spec :=
  func_ok (f := Try.f142) (fa := I.sameFields.fa) (fr := I.sameFields.fr) (spec := I.sameFields) (np := 2) (L := ([] : List (Nat × LoopO (DenF I.sameFields.fr × DenB I.sameFields.fa)))) mixed ty_ok I.sameFields.oo (by kernel_rfl) (by kernel_rfl) (by kernel_rfl) (by kernel_rfl) (loops_of (bs := []) (by kernel_rfl) trivial) (I.sameFields.q)

theorem I.ValidSender.q (x : I.ValidSender.A) : evalF Ty Try.f54 I.ValidSender.fa I.ValidSender.fr 1 I.ValidSender.o [] x = I.ValidSender x := by kernel_rfl
theorem I.ValidSender.oo : OrcOK Try.prog I.ValidSender.o := (orc_cons I.ValidOut.ok (orc_cons I.ValidStream.ok (orc_cons B.slices_ContainsFunc_Table_ValidSender_f1.ok (orc_cons I.ValidFields.ok (orc_cons I.sameFields.ok orc_nil)))))
theorem I.ValidSender.ok : SpecOK Try.prog 54 I.ValidSender.spec :=
  func_ok (f := Try.f54) (fa := I.ValidSender.fa) (fr := I.ValidSender.fr) (spec := I.ValidSender) (np := 1) (L := ([] : List (Nat × LoopO (DenF I.ValidSender.fr × DenB I.ValidSender.fa)))) mixed ty_ok I.ValidSender.oo (by kernel_rfl) (by kernel_rfl) (by kernel_rfl) (by kernel_rfl) (loops_of (bs := []) (by kernel_rfl) trivial) (I.ValidSender.q)

theorem L.eqSent.q (x : L.eqSent.A) : evalF Ty Try.f238 L.eqSent.fa L.eqSent.fr 2 L.eqSent.o [] x = L.eqSent x := by kernel_rfl
theorem L.eqSent.oo : OrcOK Try.prog L.eqSent.o := (orc_cons L.eqPacket.ok orc_nil)
theorem L.eqSent.ok : SpecOK Try.prog 238 L.eqSent.spec :=
  func_ok (f := Try.f238) (fa := L.eqSent.fa) (fr := L.eqSent.fr) (spec := L.eqSent) (np := 2) (L := ([] : List (Nat × LoopO (DenF L.eqSent.fr × DenB L.eqSent.fa)))) mixed ty_ok L.eqSent.oo (by kernel_rfl) (by kernel_rfl) (by kernel_rfl) (by kernel_rfl) (loops_of (bs := []) (by kernel_rfl) trivial) (L.eqSent.q)

theorem L.eqSentS.q4 (Rc : L.eqSentS.H4 → Option L.eqSentS.R) (X : Nat → L.eqSentS.E4 → Option L.eqSentS.R) (x : L.eqSentS.H4) : evalL Ty Try.f201 L.eqSentS.fa L.eqSentS.fr 2 4 L.eqSentS.o [] [0, 1, 5] L.eqSentS.h4 [] L.eqSentS.e4 Rc X x = L.eqSentS.st4 Rc X x := by kernel_rfl
theorem L.eqSentS.q (l4 : L.eqSentS.H4 → (Nat → L.eqSentS.E4 → Option L.eqSentS.R) → Option L.eqSentS.R) (x : L.eqSentS.A) : evalF Ty Try.f201 L.eqSentS.fa L.eqSentS.fr 2 L.eqSentS.o [(4, ⟨[0, 1, 5], L.eqSentS.h4, [], L.eqSentS.e4, l4⟩)] x = L.eqSentS.p l4 x := by kernel_rfl
theorem L.eqSentS.oo : OrcOK Try.prog L.eqSentS.o := (orc_cons L.eqSent.ok orc_nil)
theorem L.eqSentS.lk4 : LoopOK (fxOf L.eqSentS.fa 0) Try.prog (loopBody 4 Try.f201) (max 2 Try.f201.ntmps) (fin Ty Try.f201 L.eqSentS.fa L.eqSentS.fr 2) L.eqSentS.lo4 :=
  loopF_ok (f := Try.f201) (np := 2) (n := 4) (fa := L.eqSentS.fa) (fr := L.eqSentS.fr) (L := ([] : List (Nat × LoopO (DenF L.eqSentS.fr × DenB L.eqSentS.fa)))) (hs := [0, 1, 5]) (xs := []) (head := L.eqSentS.h4) (exit := L.eqSentS.e4) (step := L.eqSentS.st4) mixed ty_ok L.eqSentS.oo (loops_of (bs := []) (by kernel_rfl) trivial) (L.eqSentS.q4) big
theorem L.eqSentS.ok : SpecOK Try.prog 201 L.eqSentS.spec :=
  func_ok (f := Try.f201) (fa := L.eqSentS.fa) (fr := L.eqSentS.fr) (spec := L.eqSentS) (np := 2) (L := ([(4, L.eqSentS.lo4)] : List (Nat × LoopO (DenF L.eqSentS.fr × DenB L.eqSentS.fa)))) mixed ty_ok L.eqSentS.oo (by kernel_rfl) (by kernel_rfl) (by kernel_rfl) (by kernel_rfl) (loops_of (bs := [loopBody 4 Try.f201]) (by kernel_rfl) ⟨one_loop (lo := L.eqSentS.lo4) (by kernel_rfl) L.eqSentS.lk4, trivial⟩) (L.eqSentS.q L.eqSentS.l4)

theorem L.eqLinkOut.q (x : L.eqLinkOut.A) : evalF Ty Try.f143 L.eqLinkOut.fa L.eqLinkOut.fr 2 L.eqLinkOut.o [] x = L.eqLinkOut x := by kernel_rfl
theorem L.eqLinkOut.oo : OrcOK Try.prog L.eqLinkOut.o := (orc_cons L.eqSentS.ok orc_nil)
theorem L.eqLinkOut.ok : SpecOK Try.prog 143 L.eqLinkOut.spec :=
  func_ok (f := Try.f143) (fa := L.eqLinkOut.fa) (fr := L.eqLinkOut.fr) (spec := L.eqLinkOut) (np := 2) (L := ([] : List (Nat × LoopO (DenF L.eqLinkOut.fr × DenB L.eqLinkOut.fa)))) mixed ty_ok L.eqLinkOut.oo (by kernel_rfl) (by kernel_rfl) (by kernel_rfl) (by kernel_rfl) (loops_of (bs := []) (by kernel_rfl) trivial) (L.eqLinkOut.q)

theorem L.eqSender.q (x : L.eqSender.A) : evalF Ty Try.f55 L.eqSender.fa L.eqSender.fr 2 L.eqSender.o [] x = L.eqSender x := by kernel_rfl
theorem L.eqSender.oo : OrcOK Try.prog L.eqSender.o := (orc_cons L.eqFieldS.ok (orc_cons L.eqStream.ok (orc_cons L.eqTableS.ok (orc_cons L.eqLinkOut.ok orc_nil))))
theorem L.eqSender.ok : SpecOK Try.prog 55 L.eqSender.spec :=
  func_ok (f := Try.f55) (fa := L.eqSender.fa) (fr := L.eqSender.fr) (spec := L.eqSender) (np := 2) (L := ([] : List (Nat × LoopO (DenF L.eqSender.fr × DenB L.eqSender.fa)))) mixed ty_ok L.eqSender.oo (by kernel_rfl) (by kernel_rfl) (by kernel_rfl) (by kernel_rfl) (loops_of (bs := []) (by kernel_rfl) trivial) (L.eqSender.q)

theorem L.FnExactValidSender.q (x : L.FnExactValidSender.A) : evalF Ty Try.f7 L.FnExactValidSender.fa L.FnExactValidSender.fr 1 L.FnExactValidSender.o [] x = L.FnExactValidSender x := by kernel_rfl
theorem L.FnExactValidSender.oo : OrcOK Try.prog L.FnExactValidSender.o := (orc_cons L.szSender.ok (orc_cons S.ValidSender.ok (orc_cons L.toSender.ok (orc_cons I.ValidSender.ok (orc_cons L.eqSender.ok orc_nil)))))
theorem L.FnExactValidSender.ok : SpecOK Try.prog 7 L.FnExactValidSender.spec :=
  func_ok (f := Try.f7) (fa := L.FnExactValidSender.fa) (fr := L.FnExactValidSender.fr) (spec := L.FnExactValidSender) (np := 1) (L := ([] : List (Nat × LoopO (DenF L.FnExactValidSender.fr × DenB L.FnExactValidSender.fa)))) mixed ty_ok L.FnExactValidSender.oo (by kernel_rfl) (by kernel_rfl) (by kernel_rfl) (by kernel_rfl) (loops_of (bs := []) (by kernel_rfl) trivial) (L.FnExactValidSender.q)
end Go.Ev

