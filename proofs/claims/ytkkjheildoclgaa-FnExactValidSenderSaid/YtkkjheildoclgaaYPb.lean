/- A text of the claim, printed by a program: functions that the law reaches, as Lean functions, and that they are so. -/
import Derived.Test.YtkkjheildoclgaaYP
import Derived.Test.YtkkjheildoclgaaYFb
set_option linter.all false
set_option linter.unusedVariables false
set_option linter.unusedSimpArgs false
set_option autoImplicit false
set_option maxRecDepth 100000
set_option linter.unusedVariables false
namespace Go.Ev
open Go.Proofs
theorem L.szPacket.q (x : L.szPacket.A) : evalF Ty Try.f37 L.szPacket.fa L.szPacket.fr 2 L.szPacket.o [] x = L.szPacket x := by kernel_rfl
theorem L.szPacket.oo : OrcOK Try.prog L.szPacket.o := (orc_cons L.szByteS.ok orc_nil)
theorem L.szPacket.ok : SpecOK Try.prog 37 L.szPacket.spec :=
  func_ok (f := Try.f37) (fa := L.szPacket.fa) (fr := L.szPacket.fr) (spec := L.szPacket) (np := 2) (L := ([] : List (Nat × LoopO (DenF L.szPacket.fr × DenB L.szPacket.fa)))) mixed ty_ok L.szPacket.oo (by kernel_rfl) (by kernel_rfl) (by kernel_rfl) (by kernel_rfl) (loops_of (bs := []) (by kernel_rfl) trivial) (L.szPacket.q)

theorem L.szPacketS.q5 (Rc : L.szPacketS.H5 → Option L.szPacketS.R) (X : Nat → L.szPacketS.E5 → Option L.szPacketS.R) (x : L.szPacketS.H5) : evalL Ty Try.f115 L.szPacketS.fa L.szPacketS.fr 2 5 L.szPacketS.o [] [0, 1, 5] L.szPacketS.h5 [1] L.szPacketS.e5 Rc X x = L.szPacketS.st5 Rc X x := by kernel_rfl
theorem L.szPacketS.q (l5 : L.szPacketS.H5 → (Nat → L.szPacketS.E5 → Option L.szPacketS.R) → Option L.szPacketS.R) (x : L.szPacketS.A) : evalF Ty Try.f115 L.szPacketS.fa L.szPacketS.fr 2 L.szPacketS.o [(5, ⟨[0, 1, 5], L.szPacketS.h5, [1], L.szPacketS.e5, l5⟩)] x = L.szPacketS.p l5 x := by kernel_rfl
theorem L.szPacketS.oo : OrcOK Try.prog L.szPacketS.o := (orc_cons L.szPacket.ok orc_nil)
theorem L.szPacketS.lk5 : LoopOK (fxOf L.szPacketS.fa 0) Try.prog (loopBody 5 Try.f115) (max 2 Try.f115.ntmps) (fin Ty Try.f115 L.szPacketS.fa L.szPacketS.fr 2) L.szPacketS.lo5 :=
  loopF_ok (f := Try.f115) (np := 2) (n := 5) (fa := L.szPacketS.fa) (fr := L.szPacketS.fr) (L := ([] : List (Nat × LoopO (DenF L.szPacketS.fr × DenB L.szPacketS.fa)))) (hs := [0, 1, 5]) (xs := [1]) (head := L.szPacketS.h5) (exit := L.szPacketS.e5) (step := L.szPacketS.st5) mixed ty_ok L.szPacketS.oo (loops_of (bs := []) (by kernel_rfl) trivial) (L.szPacketS.q5) big
theorem L.szPacketS.ok : SpecOK Try.prog 115 L.szPacketS.spec :=
  func_ok (f := Try.f115) (fa := L.szPacketS.fa) (fr := L.szPacketS.fr) (spec := L.szPacketS) (np := 2) (L := ([(5, L.szPacketS.lo5)] : List (Nat × LoopO (DenF L.szPacketS.fr × DenB L.szPacketS.fa)))) mixed ty_ok L.szPacketS.oo (by kernel_rfl) (by kernel_rfl) (by kernel_rfl) (by kernel_rfl) (loops_of (bs := [loopBody 5 Try.f115]) (by kernel_rfl) ⟨one_loop (lo := L.szPacketS.lo5) (by kernel_rfl) L.szPacketS.lk5, trivial⟩) (L.szPacketS.q L.szPacketS.l5)

theorem L.szLinkIn.q (x : L.szLinkIn.A) : evalF Ty Try.f36 L.szLinkIn.fa L.szLinkIn.fr 2 L.szLinkIn.o [] x = L.szLinkIn x := by kernel_rfl
theorem L.szLinkIn.oo : OrcOK Try.prog L.szLinkIn.o := (orc_cons L.szByteS.ok (orc_cons L.szPacketS.ok orc_nil))
theorem L.szLinkIn.ok : SpecOK Try.prog 36 L.szLinkIn.spec :=
  func_ok (f := Try.f36) (fa := L.szLinkIn.fa) (fr := L.szLinkIn.fr) (spec := L.szLinkIn) (np := 2) (L := ([] : List (Nat × LoopO (DenF L.szLinkIn.fr × DenB L.szLinkIn.fa)))) mixed ty_ok L.szLinkIn.oo (by kernel_rfl) (by kernel_rfl) (by kernel_rfl) (by kernel_rfl) (loops_of (bs := []) (by kernel_rfl) trivial) (L.szLinkIn.q)

theorem L.szFieldS.q5 (Rc : L.szFieldS.H5 → Option L.szFieldS.R) (X : Nat → L.szFieldS.E5 → Option L.szFieldS.R) (x : L.szFieldS.H5) : evalL Ty Try.f56 L.szFieldS.fa L.szFieldS.fr 2 5 L.szFieldS.o [] [0, 1, 5] L.szFieldS.h5 [1] L.szFieldS.e5 Rc X x = L.szFieldS.st5 Rc X x := by kernel_rfl
theorem L.szFieldS.q (l5 : L.szFieldS.H5 → (Nat → L.szFieldS.E5 → Option L.szFieldS.R) → Option L.szFieldS.R) (x : L.szFieldS.A) : evalF Ty Try.f56 L.szFieldS.fa L.szFieldS.fr 2 L.szFieldS.o [(5, ⟨[0, 1, 5], L.szFieldS.h5, [1], L.szFieldS.e5, l5⟩)] x = L.szFieldS.p l5 x := by kernel_rfl
theorem L.szFieldS.oo : OrcOK Try.prog L.szFieldS.o := (orc_cons L.szField.ok orc_nil)
theorem L.szFieldS.lk5 : LoopOK (fxOf L.szFieldS.fa 0) Try.prog (loopBody 5 Try.f56) (max 2 Try.f56.ntmps) (fin Ty Try.f56 L.szFieldS.fa L.szFieldS.fr 2) L.szFieldS.lo5 :=
  loopF_ok (f := Try.f56) (np := 2) (n := 5) (fa := L.szFieldS.fa) (fr := L.szFieldS.fr) (L := ([] : List (Nat × LoopO (DenF L.szFieldS.fr × DenB L.szFieldS.fa)))) (hs := [0, 1, 5]) (xs := [1]) (head := L.szFieldS.h5) (exit := L.szFieldS.e5) (step := L.szFieldS.st5) mixed ty_ok L.szFieldS.oo (loops_of (bs := []) (by kernel_rfl) trivial) (L.szFieldS.q5) big
theorem L.szFieldS.ok : SpecOK Try.prog 56 L.szFieldS.spec :=
  func_ok (f := Try.f56) (fa := L.szFieldS.fa) (fr := L.szFieldS.fr) (spec := L.szFieldS) (np := 2) (L := ([(5, L.szFieldS.lo5)] : List (Nat × LoopO (DenF L.szFieldS.fr × DenB L.szFieldS.fa)))) mixed ty_ok L.szFieldS.oo (by kernel_rfl) (by kernel_rfl) (by kernel_rfl) (by kernel_rfl) (loops_of (bs := [loopBody 5 Try.f56]) (by kernel_rfl) ⟨one_loop (lo := L.szFieldS.lo5) (by kernel_rfl) L.szFieldS.lk5, trivial⟩) (L.szFieldS.q L.szFieldS.l5)

theorem L.szByteSSS.q5 (Rc : L.szByteSSS.H5 → Option L.szByteSSS.R) (X : Nat → L.szByteSSS.E5 → Option L.szByteSSS.R) (x : L.szByteSSS.H5) : evalL Ty Try.f188 L.szByteSSS.fa L.szByteSSS.fr 2 5 L.szByteSSS.o [] [0, 1, 5] L.szByteSSS.h5 [1] L.szByteSSS.e5 Rc X x = L.szByteSSS.st5 Rc X x := by kernel_rfl
theorem L.szByteSSS.q (l5 : L.szByteSSS.H5 → (Nat → L.szByteSSS.E5 → Option L.szByteSSS.R) → Option L.szByteSSS.R) (x : L.szByteSSS.A) : evalF Ty Try.f188 L.szByteSSS.fa L.szByteSSS.fr 2 L.szByteSSS.o [(5, ⟨[0, 1, 5], L.szByteSSS.h5, [1], L.szByteSSS.e5, l5⟩)] x = L.szByteSSS.p l5 x := by kernel_rfl
theorem L.szByteSSS.oo : OrcOK Try.prog L.szByteSSS.o := (orc_cons L.szByteSS.ok orc_nil)
theorem L.szByteSSS.lk5 : LoopOK (fxOf L.szByteSSS.fa 0) Try.prog (loopBody 5 Try.f188) (max 2 Try.f188.ntmps) (fin Ty Try.f188 L.szByteSSS.fa L.szByteSSS.fr 2) L.szByteSSS.lo5 :=
  loopF_ok (f := Try.f188) (np := 2) (n := 5) (fa := L.szByteSSS.fa) (fr := L.szByteSSS.fr) (L := ([] : List (Nat × LoopO (DenF L.szByteSSS.fr × DenB L.szByteSSS.fa)))) (hs := [0, 1, 5]) (xs := [1]) (head := L.szByteSSS.h5) (exit := L.szByteSSS.e5) (step := L.szByteSSS.st5) mixed ty_ok L.szByteSSS.oo (loops_of (bs := []) (by kernel_rfl) trivial) (L.szByteSSS.q5) big
theorem L.szByteSSS.ok : SpecOK Try.prog 188 L.szByteSSS.spec :=
  func_ok (f := Try.f188) (fa := L.szByteSSS.fa) (fr := L.szByteSSS.fr) (spec := L.szByteSSS) (np := 2) (L := ([(5, L.szByteSSS.lo5)] : List (Nat × LoopO (DenF L.szByteSSS.fr × DenB L.szByteSSS.fa)))) mixed ty_ok L.szByteSSS.oo (by kernel_rfl) (by kernel_rfl) (by kernel_rfl) (by kernel_rfl) (loops_of (bs := [loopBody 5 Try.f188]) (by kernel_rfl) ⟨one_loop (lo := L.szByteSSS.lo5) (by kernel_rfl) L.szByteSSS.lk5, trivial⟩) (L.szByteSSS.q L.szByteSSS.l5)

theorem L.szStream.q (x : L.szStream.A) : evalF Ty Try.f123 L.szStream.fa L.szStream.fr 2 L.szStream.o [] x = L.szStream x := by kernel_rfl
theorem L.szStream.oo : OrcOK Try.prog L.szStream.o := (orc_cons L.szFieldS.ok (orc_cons L.szByteSSS.ok orc_nil))
theorem L.szStream.ok : SpecOK Try.prog 123 L.szStream.spec :=
  func_ok (f := Try.f123) (fa := L.szStream.fa) (fr := L.szStream.fr) (spec := L.szStream) (np := 2) (L := ([] : List (Nat × LoopO (DenF L.szStream.fr × DenB L.szStream.fa)))) mixed ty_ok L.szStream.oo (by kernel_rfl) (by kernel_rfl) (by kernel_rfl) (by kernel_rfl) (loops_of (bs := []) (by kernel_rfl) trivial) (L.szStream.q)

theorem L.szTable.q (x : L.szTable.A) : evalF Ty Try.f189 L.szTable.fa L.szTable.fr 2 L.szTable.o [] x = L.szTable x := by kernel_rfl
theorem L.szTable.oo : OrcOK Try.prog L.szTable.o := (orc_cons L.szCellS.ok orc_nil)
theorem L.szTable.ok : SpecOK Try.prog 189 L.szTable.spec :=
  func_ok (f := Try.f189) (fa := L.szTable.fa) (fr := L.szTable.fr) (spec := L.szTable) (np := 2) (L := ([] : List (Nat × LoopO (DenF L.szTable.fr × DenB L.szTable.fa)))) mixed ty_ok L.szTable.oo (by kernel_rfl) (by kernel_rfl) (by kernel_rfl) (by kernel_rfl) (loops_of (bs := []) (by kernel_rfl) trivial) (L.szTable.q)

theorem L.szTableS.q5 (Rc : L.szTableS.H5 → Option L.szTableS.R) (X : Nat → L.szTableS.E5 → Option L.szTableS.R) (x : L.szTableS.H5) : evalL Ty Try.f124 L.szTableS.fa L.szTableS.fr 2 5 L.szTableS.o [] [0, 1, 5] L.szTableS.h5 [1] L.szTableS.e5 Rc X x = L.szTableS.st5 Rc X x := by kernel_rfl
theorem L.szTableS.q (l5 : L.szTableS.H5 → (Nat → L.szTableS.E5 → Option L.szTableS.R) → Option L.szTableS.R) (x : L.szTableS.A) : evalF Ty Try.f124 L.szTableS.fa L.szTableS.fr 2 L.szTableS.o [(5, ⟨[0, 1, 5], L.szTableS.h5, [1], L.szTableS.e5, l5⟩)] x = L.szTableS.p l5 x := by kernel_rfl
theorem L.szTableS.oo : OrcOK Try.prog L.szTableS.o := (orc_cons L.szTable.ok orc_nil)
theorem L.szTableS.lk5 : LoopOK (fxOf L.szTableS.fa 0) Try.prog (loopBody 5 Try.f124) (max 2 Try.f124.ntmps) (fin Ty Try.f124 L.szTableS.fa L.szTableS.fr 2) L.szTableS.lo5 :=
  loopF_ok (f := Try.f124) (np := 2) (n := 5) (fa := L.szTableS.fa) (fr := L.szTableS.fr) (L := ([] : List (Nat × LoopO (DenF L.szTableS.fr × DenB L.szTableS.fa)))) (hs := [0, 1, 5]) (xs := [1]) (head := L.szTableS.h5) (exit := L.szTableS.e5) (step := L.szTableS.st5) mixed ty_ok L.szTableS.oo (loops_of (bs := []) (by kernel_rfl) trivial) (L.szTableS.q5) big
theorem L.szTableS.ok : SpecOK Try.prog 124 L.szTableS.spec :=
  func_ok (f := Try.f124) (fa := L.szTableS.fa) (fr := L.szTableS.fr) (spec := L.szTableS) (np := 2) (L := ([(5, L.szTableS.lo5)] : List (Nat × LoopO (DenF L.szTableS.fr × DenB L.szTableS.fa)))) mixed ty_ok L.szTableS.oo (by kernel_rfl) (by kernel_rfl) (by kernel_rfl) (by kernel_rfl) (loops_of (bs := [loopBody 5 Try.f124]) (by kernel_rfl) ⟨one_loop (lo := L.szTableS.lo5) (by kernel_rfl) L.szTableS.lk5, trivial⟩) (L.szTableS.q L.szTableS.l5)

theorem L.szReceiver.q (x : L.szReceiver.A) : evalF Ty Try.f46 L.szReceiver.fa L.szReceiver.fr 2 L.szReceiver.o [] x = L.szReceiver x := by kernel_rfl
theorem L.szReceiver.oo : OrcOK Try.prog L.szReceiver.o := (orc_cons L.szLinkIn.ok (orc_cons L.szStream.ok (orc_cons L.szTableS.ok orc_nil)))
theorem L.szReceiver.ok : SpecOK Try.prog 46 L.szReceiver.spec :=
  func_ok (f := Try.f46) (fa := L.szReceiver.fa) (fr := L.szReceiver.fr) (spec := L.szReceiver) (np := 2) (L := ([] : List (Nat × LoopO (DenF L.szReceiver.fr × DenB L.szReceiver.fa)))) mixed ty_ok L.szReceiver.oo (by kernel_rfl) (by kernel_rfl) (by kernel_rfl) (by kernel_rfl) (loops_of (bs := []) (by kernel_rfl) trivial) (L.szReceiver.q)

theorem L.toPacket.q (x : L.toPacket.A) : evalF Ty Try.f40 L.toPacket.fa L.toPacket.fr 1 L.toPacket.o [] x = L.toPacket x := by kernel_rfl
theorem L.toPacket.oo : OrcOK Try.prog L.toPacket.o := (orc_cons L.toByteS.ok orc_nil)
theorem L.toPacket.ok : SpecOK Try.prog 40 L.toPacket.spec :=
  func_ok (f := Try.f40) (fa := L.toPacket.fa) (fr := L.toPacket.fr) (spec := L.toPacket) (np := 1) (L := ([] : List (Nat × LoopO (DenF L.toPacket.fr × DenB L.toPacket.fa)))) mixed ty_ok L.toPacket.oo (by kernel_rfl) (by kernel_rfl) (by kernel_rfl) (by kernel_rfl) (loops_of (bs := []) (by kernel_rfl) trivial) (L.toPacket.q)

theorem L.toPacketS.q3 (Rc : L.toPacketS.H3 → Option L.toPacketS.R) (X : Nat → L.toPacketS.E3 → Option L.toPacketS.R) (x : L.toPacketS.H3) : evalL Ty Try.f119 L.toPacketS.fa L.toPacketS.fr 1 3 L.toPacketS.o [] [0, 3, 4] L.toPacketS.h3 [3] L.toPacketS.e3 Rc X x = L.toPacketS.st3 Rc X x := by kernel_rfl
theorem L.toPacketS.q (l3 : L.toPacketS.H3 → (Nat → L.toPacketS.E3 → Option L.toPacketS.R) → Option L.toPacketS.R) (x : L.toPacketS.A) : evalF Ty Try.f119 L.toPacketS.fa L.toPacketS.fr 1 L.toPacketS.o [(3, ⟨[0, 3, 4], L.toPacketS.h3, [3], L.toPacketS.e3, l3⟩)] x = L.toPacketS.p l3 x := by kernel_rfl
theorem L.toPacketS.oo : OrcOK Try.prog L.toPacketS.o := (orc_cons L.toPacket.ok orc_nil)
theorem L.toPacketS.lk3 : LoopOK (fxOf L.toPacketS.fa 0) Try.prog (loopBody 3 Try.f119) (max 1 Try.f119.ntmps) (fin Ty Try.f119 L.toPacketS.fa L.toPacketS.fr 1) L.toPacketS.lo3 :=
  loopF_ok (f := Try.f119) (np := 1) (n := 3) (fa := L.toPacketS.fa) (fr := L.toPacketS.fr) (L := ([] : List (Nat × LoopO (DenF L.toPacketS.fr × DenB L.toPacketS.fa)))) (hs := [0, 3, 4]) (xs := [3]) (head := L.toPacketS.h3) (exit := L.toPacketS.e3) (step := L.toPacketS.st3) mixed ty_ok L.toPacketS.oo (loops_of (bs := []) (by kernel_rfl) trivial) (L.toPacketS.q3) big
theorem L.toPacketS.ok : SpecOK Try.prog 119 L.toPacketS.spec :=
  func_ok (f := Try.f119) (fa := L.toPacketS.fa) (fr := L.toPacketS.fr) (spec := L.toPacketS) (np := 1) (L := ([(3, L.toPacketS.lo3)] : List (Nat × LoopO (DenF L.toPacketS.fr × DenB L.toPacketS.fa)))) mixed ty_ok L.toPacketS.oo (by kernel_rfl) (by kernel_rfl) (by kernel_rfl) (by kernel_rfl) (loops_of (bs := [loopBody 3 Try.f119]) (by kernel_rfl) ⟨one_loop (lo := L.toPacketS.lo3) (by kernel_rfl) L.toPacketS.lk3, trivial⟩) (L.toPacketS.q L.toPacketS.l3)

theorem L.toLinkIn.q (x : L.toLinkIn.A) : evalF Ty Try.f39 L.toLinkIn.fa L.toLinkIn.fr 1 L.toLinkIn.o [] x = L.toLinkIn x := by kernel_rfl
theorem L.toLinkIn.oo : OrcOK Try.prog L.toLinkIn.o := (orc_cons L.toByteS.ok (orc_cons L.toPacketS.ok orc_nil))
theorem L.toLinkIn.ok : SpecOK Try.prog 39 L.toLinkIn.spec :=
  func_ok (f := Try.f39) (fa := L.toLinkIn.fa) (fr := L.toLinkIn.fr) (spec := L.toLinkIn) (np := 1) (L := ([] : List (Nat × LoopO (DenF L.toLinkIn.fr × DenB L.toLinkIn.fa)))) mixed ty_ok L.toLinkIn.oo (by kernel_rfl) (by kernel_rfl) (by kernel_rfl) (by kernel_rfl) (loops_of (bs := []) (by kernel_rfl) trivial) (L.toLinkIn.q)

theorem L.toFieldS.q3 (Rc : L.toFieldS.H3 → Option L.toFieldS.R) (X : Nat → L.toFieldS.E3 → Option L.toFieldS.R) (x : L.toFieldS.H3) : evalL Ty Try.f58 L.toFieldS.fa L.toFieldS.fr 1 3 L.toFieldS.o [] [0, 3, 4] L.toFieldS.h3 [3] L.toFieldS.e3 Rc X x = L.toFieldS.st3 Rc X x := by kernel_rfl
theorem L.toFieldS.q (l3 : L.toFieldS.H3 → (Nat → L.toFieldS.E3 → Option L.toFieldS.R) → Option L.toFieldS.R) (x : L.toFieldS.A) : evalF Ty Try.f58 L.toFieldS.fa L.toFieldS.fr 1 L.toFieldS.o [(3, ⟨[0, 3, 4], L.toFieldS.h3, [3], L.toFieldS.e3, l3⟩)] x = L.toFieldS.p l3 x := by kernel_rfl
theorem L.toFieldS.oo : OrcOK Try.prog L.toFieldS.o := (orc_cons L.toField.ok orc_nil)
theorem L.toFieldS.lk3 : LoopOK (fxOf L.toFieldS.fa 0) Try.prog (loopBody 3 Try.f58) (max 1 Try.f58.ntmps) (fin Ty Try.f58 L.toFieldS.fa L.toFieldS.fr 1) L.toFieldS.lo3 :=
  loopF_ok (f := Try.f58) (np := 1) (n := 3) (fa := L.toFieldS.fa) (fr := L.toFieldS.fr) (L := ([] : List (Nat × LoopO (DenF L.toFieldS.fr × DenB L.toFieldS.fa)))) (hs := [0, 3, 4]) (xs := [3]) (head := L.toFieldS.h3) (exit := L.toFieldS.e3) (step := L.toFieldS.st3) mixed ty_ok L.toFieldS.oo (loops_of (bs := []) (by kernel_rfl) trivial) (L.toFieldS.q3) big
theorem L.toFieldS.ok : SpecOK Try.prog 58 L.toFieldS.spec :=
  func_ok (f := Try.f58) (fa := L.toFieldS.fa) (fr := L.toFieldS.fr) (spec := L.toFieldS) (np := 1) (L := ([(3, L.toFieldS.lo3)] : List (Nat × LoopO (DenF L.toFieldS.fr × DenB L.toFieldS.fa)))) mixed ty_ok L.toFieldS.oo (by kernel_rfl) (by kernel_rfl) (by kernel_rfl) (by kernel_rfl) (loops_of (bs := [loopBody 3 Try.f58]) (by kernel_rfl) ⟨one_loop (lo := L.toFieldS.lo3) (by kernel_rfl) L.toFieldS.lk3, trivial⟩) (L.toFieldS.q L.toFieldS.l3)

theorem L.toByteSSS.q3 (Rc : L.toByteSSS.H3 → Option L.toByteSSS.R) (X : Nat → L.toByteSSS.E3 → Option L.toByteSSS.R) (x : L.toByteSSS.H3) : evalL Ty Try.f190 L.toByteSSS.fa L.toByteSSS.fr 1 3 L.toByteSSS.o [] [0, 3, 4] L.toByteSSS.h3 [3] L.toByteSSS.e3 Rc X x = L.toByteSSS.st3 Rc X x := by kernel_rfl
theorem L.toByteSSS.q (l3 : L.toByteSSS.H3 → (Nat → L.toByteSSS.E3 → Option L.toByteSSS.R) → Option L.toByteSSS.R) (x : L.toByteSSS.A) : evalF Ty Try.f190 L.toByteSSS.fa L.toByteSSS.fr 1 L.toByteSSS.o [(3, ⟨[0, 3, 4], L.toByteSSS.h3, [3], L.toByteSSS.e3, l3⟩)] x = L.toByteSSS.p l3 x := by kernel_rfl
theorem L.toByteSSS.oo : OrcOK Try.prog L.toByteSSS.o := (orc_cons L.toByteSS.ok orc_nil)
theorem L.toByteSSS.lk3 : LoopOK (fxOf L.toByteSSS.fa 0) Try.prog (loopBody 3 Try.f190) (max 1 Try.f190.ntmps) (fin Ty Try.f190 L.toByteSSS.fa L.toByteSSS.fr 1) L.toByteSSS.lo3 :=
  loopF_ok (f := Try.f190) (np := 1) (n := 3) (fa := L.toByteSSS.fa) (fr := L.toByteSSS.fr) (L := ([] : List (Nat × LoopO (DenF L.toByteSSS.fr × DenB L.toByteSSS.fa)))) (hs := [0, 3, 4]) (xs := [3]) (head := L.toByteSSS.h3) (exit := L.toByteSSS.e3) (step := L.toByteSSS.st3) mixed ty_ok L.toByteSSS.oo (loops_of (bs := []) (by kernel_rfl) trivial) (L.toByteSSS.q3) big
theorem L.toByteSSS.ok : SpecOK Try.prog 190 L.toByteSSS.spec :=
  func_ok (f := Try.f190) (fa := L.toByteSSS.fa) (fr := L.toByteSSS.fr) (spec := L.toByteSSS) (np := 1) (L := ([(3, L.toByteSSS.lo3)] : List (Nat × LoopO (DenF L.toByteSSS.fr × DenB L.toByteSSS.fa)))) mixed ty_ok L.toByteSSS.oo (by kernel_rfl) (by kernel_rfl) (by kernel_rfl) (by kernel_rfl) (loops_of (bs := [loopBody 3 Try.f190]) (by kernel_rfl) ⟨one_loop (lo := L.toByteSSS.lo3) (by kernel_rfl) L.toByteSSS.lk3, trivial⟩) (L.toByteSSS.q L.toByteSSS.l3)

theorem L.toStream.q (x : L.toStream.A) : evalF Ty Try.f127 L.toStream.fa L.toStream.fr 1 L.toStream.o [] x = L.toStream x := by kernel_rfl
theorem L.toStream.oo : OrcOK Try.prog L.toStream.o := (orc_cons L.toFieldS.ok (orc_cons L.toByteSSS.ok orc_nil))
theorem L.toStream.ok : SpecOK Try.prog 127 L.toStream.spec :=
  func_ok (f := Try.f127) (fa := L.toStream.fa) (fr := L.toStream.fr) (spec := L.toStream) (np := 1) (L := ([] : List (Nat × LoopO (DenF L.toStream.fr × DenB L.toStream.fa)))) mixed ty_ok L.toStream.oo (by kernel_rfl) (by kernel_rfl) (by kernel_rfl) (by kernel_rfl) (loops_of (bs := []) (by kernel_rfl) trivial) (L.toStream.q)

theorem L.toTable.q (x : L.toTable.A) : evalF Ty Try.f191 L.toTable.fa L.toTable.fr 1 L.toTable.o [] x = L.toTable x := by kernel_rfl
theorem L.toTable.oo : OrcOK Try.prog L.toTable.o := (orc_cons L.toCellS.ok orc_nil)
theorem L.toTable.ok : SpecOK Try.prog 191 L.toTable.spec :=
  func_ok (f := Try.f191) (fa := L.toTable.fa) (fr := L.toTable.fr) (spec := L.toTable) (np := 1) (L := ([] : List (Nat × LoopO (DenF L.toTable.fr × DenB L.toTable.fa)))) mixed ty_ok L.toTable.oo (by kernel_rfl) (by kernel_rfl) (by kernel_rfl) (by kernel_rfl) (loops_of (bs := []) (by kernel_rfl) trivial) (L.toTable.q)

theorem L.toTableS.q3 (Rc : L.toTableS.H3 → Option L.toTableS.R) (X : Nat → L.toTableS.E3 → Option L.toTableS.R) (x : L.toTableS.H3) : evalL Ty Try.f128 L.toTableS.fa L.toTableS.fr 1 3 L.toTableS.o [] [0, 3, 4] L.toTableS.h3 [3] L.toTableS.e3 Rc X x = L.toTableS.st3 Rc X x := by kernel_rfl
theorem L.toTableS.q (l3 : L.toTableS.H3 → (Nat → L.toTableS.E3 → Option L.toTableS.R) → Option L.toTableS.R) (x : L.toTableS.A) : evalF Ty Try.f128 L.toTableS.fa L.toTableS.fr 1 L.toTableS.o [(3, ⟨[0, 3, 4], L.toTableS.h3, [3], L.toTableS.e3, l3⟩)] x = L.toTableS.p l3 x := by kernel_rfl
theorem L.toTableS.oo : OrcOK Try.prog L.toTableS.o := (orc_cons L.toTable.ok orc_nil)
theorem L.toTableS.lk3 : LoopOK (fxOf L.toTableS.fa 0) Try.prog (loopBody 3 Try.f128) (max 1 Try.f128.ntmps) (fin Ty Try.f128 L.toTableS.fa L.toTableS.fr 1) L.toTableS.lo3 :=
  loopF_ok (f := Try.f128) (np := 1) (n := 3) (fa := L.toTableS.fa) (fr := L.toTableS.fr) (L := ([] : List (Nat × LoopO (DenF L.toTableS.fr × DenB L.toTableS.fa)))) (hs := [0, 3, 4]) (xs := [3]) (head := L.toTableS.h3) (exit := L.toTableS.e3) (step := L.toTableS.st3) mixed ty_ok L.toTableS.oo (loops_of (bs := []) (by kernel_rfl) trivial) (L.toTableS.q3) big
theorem L.toTableS.ok : SpecOK Try.prog 128 L.toTableS.spec :=
  func_ok (f := Try.f128) (fa := L.toTableS.fa) (fr := L.toTableS.fr) (spec := L.toTableS) (np := 1) (L := ([(3, L.toTableS.lo3)] : List (Nat × LoopO (DenF L.toTableS.fr × DenB L.toTableS.fa)))) mixed ty_ok L.toTableS.oo (by kernel_rfl) (by kernel_rfl) (by kernel_rfl) (by kernel_rfl) (loops_of (bs := [loopBody 3 Try.f128]) (by kernel_rfl) ⟨one_loop (lo := L.toTableS.lo3) (by kernel_rfl) L.toTableS.lk3, trivial⟩) (L.toTableS.q L.toTableS.l3)

theorem L.toReceiver.q (x : L.toReceiver.A) : evalF Ty Try.f48 L.toReceiver.fa L.toReceiver.fr 1 L.toReceiver.o [] x = L.toReceiver x := by kernel_rfl
theorem L.toReceiver.oo : OrcOK Try.prog L.toReceiver.o := (orc_cons L.toLinkIn.ok (orc_cons L.toStream.ok (orc_cons L.toTableS.ok orc_nil)))
theorem L.toReceiver.ok : SpecOK Try.prog 48 L.toReceiver.spec :=
  func_ok (f := Try.f48) (fa := L.toReceiver.fa) (fr := L.toReceiver.fr) (spec := L.toReceiver) (np := 1) (L := ([] : List (Nat × LoopO (DenF L.toReceiver.fr × DenB L.toReceiver.fa)))) mixed ty_ok L.toReceiver.oo (by kernel_rfl) (by kernel_rfl) (by kernel_rfl) (by kernel_rfl) (loops_of (bs := []) (by kernel_rfl) trivial) (L.toReceiver.q)

theorem S.l5valid.q (x : S.l5valid.A) : evalF Ty Try.f112 S.l5valid.fa S.l5valid.fr 1 S.l5valid.o [] x = S.l5valid x := by kernel_rfl
theorem S.l5valid.oo : OrcOK Try.prog S.l5valid.o := orc_nil
theorem S.l5valid.ok : SpecOK Try.prog 112 S.l5valid.spec :=
  func_ok (f := Try.f112) (fa := S.l5valid.fa) (fr := S.l5valid.fr) (spec := S.l5valid) (np := 1) (L := ([] : List (Nat × LoopO (DenF S.l5valid.fr × DenB S.l5valid.fa)))) mixed ty_ok S.l5valid.oo (by kernel_rfl) (by kernel_rfl) (by kernel_rfl) (by kernel_rfl) (loops_of (bs := []) (by kernel_rfl) trivial) (S.l5valid.q)

theorem S.l5data.q (x : S.l5data.A) : evalF Ty Try.f111 S.l5data.fa S.l5data.fr 2 S.l5data.o [] x = S.l5data x := by kernel_rfl
theorem S.l5data.oo : OrcOK Try.prog S.l5data.o := (orc_cons S.l5valid.ok orc_nil)
theorem S.l5data.ok : SpecOK Try.prog 111 S.l5data.spec :=
  func_ok (f := Try.f111) (fa := S.l5data.fa) (fr := S.l5data.fr) (spec := S.l5data) (np := 2) (L := ([] : List (Nat × LoopO (DenF S.l5data.fr × DenB S.l5data.fa)))) mixed ty_ok S.l5data.oo (by kernel_rfl) (by kernel_rfl) (by kernel_rfl) (by kernel_rfl) (loops_of (bs := []) (by kernel_rfl) trivial) (S.l5data.q)

theorem S.ValidIn.q4 (Rc : S.ValidIn.H4 → Option S.ValidIn.R) (X : Nat → S.ValidIn.E4 → Option S.ValidIn.R) (x : S.ValidIn.H4) : evalL Ty Try.f33 S.ValidIn.fa S.ValidIn.fr 1 4 S.ValidIn.o [] [1, 3] S.ValidIn.h4 [] S.ValidIn.e4 Rc X x = S.ValidIn.st4 Rc X x := by kernel_rfl
theorem S.ValidIn.q (l4 : S.ValidIn.H4 → (Nat → S.ValidIn.E4 → Option S.ValidIn.R) → Option S.ValidIn.R) (x : S.ValidIn.A) : evalF Ty Try.f33 S.ValidIn.fa S.ValidIn.fr 1 S.ValidIn.o [(4, ⟨[1, 3], S.ValidIn.h4, [], S.ValidIn.e4, l4⟩)] x = S.ValidIn.p l4 x := by kernel_rfl
theorem S.ValidIn.oo : OrcOK Try.prog S.ValidIn.o := (orc_cons S.l5data.ok orc_nil)
theorem S.ValidIn.lk4 : LoopOK (fxOf S.ValidIn.fa 0) Try.prog (loopBody 4 Try.f33) (max 1 Try.f33.ntmps) (fin Ty Try.f33 S.ValidIn.fa S.ValidIn.fr 1) S.ValidIn.lo4 :=
  loopF_ok (f := Try.f33) (np := 1) (n := 4) (fa := S.ValidIn.fa) (fr := S.ValidIn.fr) (L := ([] : List (Nat × LoopO (DenF S.ValidIn.fr × DenB S.ValidIn.fa)))) (hs := [1, 3]) (xs := []) (head := S.ValidIn.h4) (exit := S.ValidIn.e4) (step := S.ValidIn.st4) mixed ty_ok S.ValidIn.oo (loops_of (bs := []) (by kernel_rfl) trivial) (S.ValidIn.q4) big
theorem S.ValidIn.ok : SpecOK Try.prog 33 S.ValidIn.spec :=
  func_ok (f := Try.f33) (fa := S.ValidIn.fa) (fr := S.ValidIn.fr) (spec := S.ValidIn) (np := 1) (L := ([(4, S.ValidIn.lo4)] : List (Nat × LoopO (DenF S.ValidIn.fr × DenB S.ValidIn.fa)))) mixed ty_ok S.ValidIn.oo (by kernel_rfl) (by kernel_rfl) (by kernel_rfl) (by kernel_rfl) (loops_of (bs := [loopBody 4 Try.f33]) (by kernel_rfl) ⟨one_loop (lo := S.ValidIn.lo4) (by kernel_rfl) S.ValidIn.lk4, trivial⟩) (S.ValidIn.q S.ValidIn.l4)

theorem S.ValidFields.q9 (Rc : S.ValidFields.H9 → Option S.ValidFields.R) (X : Nat → S.ValidFields.E9 → Option S.ValidFields.R) (x : S.ValidFields.H9) : evalL Ty Try.f136 S.ValidFields.fa S.ValidFields.fr 1 9 S.ValidFields.o [] [0, 3, 4] S.ValidFields.h9 [0, 3] S.ValidFields.e9 Rc X x = S.ValidFields.st9 Rc X x := by kernel_rfl
theorem S.ValidFields.q4 (l9 : S.ValidFields.H9 → (Nat → S.ValidFields.E9 → Option S.ValidFields.R) → Option S.ValidFields.R) (Rc : S.ValidFields.H4 → Option S.ValidFields.R) (X : Nat → S.ValidFields.E4 → Option S.ValidFields.R) (x : S.ValidFields.H4) : evalL Ty Try.f136 S.ValidFields.fa S.ValidFields.fr 1 4 S.ValidFields.o [(9, ⟨[0, 3, 4], S.ValidFields.h9, [0, 3], S.ValidFields.e9, l9⟩)] [0, 3] S.ValidFields.h4 [] S.ValidFields.e4 Rc X x = S.ValidFields.st4 l9 Rc X x := by kernel_rfl
theorem S.ValidFields.q (l4 : S.ValidFields.H4 → (Nat → S.ValidFields.E4 → Option S.ValidFields.R) → Option S.ValidFields.R) (x : S.ValidFields.A) : evalF Ty Try.f136 S.ValidFields.fa S.ValidFields.fr 1 S.ValidFields.o [(4, ⟨[0, 3], S.ValidFields.h4, [], S.ValidFields.e4, l4⟩)] x = S.ValidFields.p l4 x := by kernel_rfl
theorem S.ValidFields.oo : OrcOK Try.prog S.ValidFields.o := (orc_cons S.l2fieldOK.ok (orc_cons S.l1same.ok orc_nil))
theorem S.ValidFields.lk9 : LoopOK (fxOf S.ValidFields.fa 0) Try.prog (loopBody 9 Try.f136) (max 1 Try.f136.ntmps) (fin Ty Try.f136 S.ValidFields.fa S.ValidFields.fr 1) S.ValidFields.lo9 :=
  loopF_ok (f := Try.f136) (np := 1) (n := 9) (fa := S.ValidFields.fa) (fr := S.ValidFields.fr) (L := ([] : List (Nat × LoopO (DenF S.ValidFields.fr × DenB S.ValidFields.fa)))) (hs := [0, 3, 4]) (xs := [0, 3]) (head := S.ValidFields.h9) (exit := S.ValidFields.e9) (step := S.ValidFields.st9) mixed ty_ok S.ValidFields.oo (loops_of (bs := []) (by kernel_rfl) trivial) (S.ValidFields.q9) big
theorem S.ValidFields.lk4 : LoopOK (fxOf S.ValidFields.fa 0) Try.prog (loopBody 4 Try.f136) (max 1 Try.f136.ntmps) (fin Ty Try.f136 S.ValidFields.fa S.ValidFields.fr 1) S.ValidFields.lo4 :=
  loopF_ok (f := Try.f136) (np := 1) (n := 4) (fa := S.ValidFields.fa) (fr := S.ValidFields.fr) (L := ([(9, S.ValidFields.lo9)] : List (Nat × LoopO (DenF S.ValidFields.fr × DenB S.ValidFields.fa)))) (hs := [0, 3]) (xs := []) (head := S.ValidFields.h4) (exit := S.ValidFields.e4) (step := S.ValidFields.st4 S.ValidFields.l9) mixed ty_ok S.ValidFields.oo (loops_of (bs := [loopBody 9 Try.f136]) (by kernel_rfl) ⟨one_loop (lo := S.ValidFields.lo9) (by kernel_rfl) S.ValidFields.lk9, trivial⟩) (S.ValidFields.q4 S.ValidFields.l9) big
theorem S.ValidFields.ok : SpecOK Try.prog 136 S.ValidFields.spec :=
  func_ok (f := Try.f136) (fa := S.ValidFields.fa) (fr := S.ValidFields.fr) (spec := S.ValidFields) (np := 1) (L := ([(4, S.ValidFields.lo4)] : List (Nat × LoopO (DenF S.ValidFields.fr × DenB S.ValidFields.fa)))) mixed ty_ok S.ValidFields.oo (by kernel_rfl) (by kernel_rfl) (by kernel_rfl) (by kernel_rfl) (loops_of (bs := [loopBody 4 Try.f136]) (by kernel_rfl) ⟨one_loop (lo := S.ValidFields.lo4) (by kernel_rfl) S.ValidFields.lk4, trivial⟩) (S.ValidFields.q S.ValidFields.l4)

theorem S.ValidStream.q6 (Rc : S.ValidStream.H6 → Option S.ValidStream.R) (X : Nat → S.ValidStream.E6 → Option S.ValidStream.R) (x : S.ValidStream.H6) : evalL Ty Try.f125 S.ValidStream.fa S.ValidStream.fr 1 6 S.ValidStream.o [] [1, 3] S.ValidStream.h6 [] S.ValidStream.e6 Rc X x = S.ValidStream.st6 Rc X x := by kernel_rfl
theorem S.ValidStream.q (l6 : S.ValidStream.H6 → (Nat → S.ValidStream.E6 → Option S.ValidStream.R) → Option S.ValidStream.R) (x : S.ValidStream.A) : evalF Ty Try.f125 S.ValidStream.fa S.ValidStream.fr 1 S.ValidStream.o [(6, ⟨[1, 3], S.ValidStream.h6, [], S.ValidStream.e6, l6⟩)] x = S.ValidStream.p l6 x := by kernel_rfl
theorem S.ValidStream.oo : OrcOK Try.prog S.ValidStream.o := (orc_cons S.ValidDict.ok (orc_cons S.ValidFields.ok orc_nil))
theorem S.ValidStream.lk6 : LoopOK (fxOf S.ValidStream.fa 0) Try.prog (loopBody 6 Try.f125) (max 1 Try.f125.ntmps) (fin Ty Try.f125 S.ValidStream.fa S.ValidStream.fr 1) S.ValidStream.lo6 :=
  loopF_ok (f := Try.f125) (np := 1) (n := 6) (fa := S.ValidStream.fa) (fr := S.ValidStream.fr) (L := ([] : List (Nat × LoopO (DenF S.ValidStream.fr × DenB S.ValidStream.fa)))) (hs := [1, 3]) (xs := []) (head := S.ValidStream.h6) (exit := S.ValidStream.e6) (step := S.ValidStream.st6) mixed ty_ok S.ValidStream.oo (loops_of (bs := []) (by kernel_rfl) trivial) (S.ValidStream.q6) big
theorem S.ValidStream.ok : SpecOK Try.prog 125 S.ValidStream.spec :=
  func_ok (f := Try.f125) (fa := S.ValidStream.fa) (fr := S.ValidStream.fr) (spec := S.ValidStream) (np := 1) (L := ([(6, S.ValidStream.lo6)] : List (Nat × LoopO (DenF S.ValidStream.fr × DenB S.ValidStream.fa)))) mixed ty_ok S.ValidStream.oo (by kernel_rfl) (by kernel_rfl) (by kernel_rfl) (by kernel_rfl) (loops_of (bs := [loopBody 6 Try.f125]) (by kernel_rfl) ⟨one_loop (lo := S.ValidStream.lo6) (by kernel_rfl) S.ValidStream.lk6, trivial⟩) (S.ValidStream.q S.ValidStream.l6)

theorem S.l2column.q (x : S.l2column.A) : evalF Ty Try.f236 S.l2column.fa S.l2column.fr 2 S.l2column.o [] x = S.l2column x := by kernel_rfl
theorem S.l2column.oo : OrcOK Try.prog S.l2column.o := orc_nil
theorem S.l2column.ok : SpecOK Try.prog 236 S.l2column.spec :=
  func_ok (f := Try.f236) (fa := S.l2column.fa) (fr := S.l2column.fr) (spec := S.l2column) (np := 2) (L := ([] : List (Nat × LoopO (DenF S.l2column.fr × DenB S.l2column.fa)))) mixed ty_ok S.l2column.oo (by kernel_rfl) (by kernel_rfl) (by kernel_rfl) (by kernel_rfl) (loops_of (bs := []) (by kernel_rfl) trivial) (S.l2column.q)

theorem S.l2texts.q3 (Rc : S.l2texts.H3 → Option S.l2texts.R) (X : Nat → S.l2texts.E3 → Option S.l2texts.R) (x : S.l2texts.H3) : evalL Ty Try.f160 S.l2texts.fa S.l2texts.fr 2 3 S.l2texts.o [] [0, 1, 5, 6] S.l2texts.h3 [5] S.l2texts.e3 Rc X x = S.l2texts.st3 Rc X x := by kernel_rfl
theorem S.l2texts.q (l3 : S.l2texts.H3 → (Nat → S.l2texts.E3 → Option S.l2texts.R) → Option S.l2texts.R) (x : S.l2texts.A) : evalF Ty Try.f160 S.l2texts.fa S.l2texts.fr 2 S.l2texts.o [(3, ⟨[0, 1, 5, 6], S.l2texts.h3, [5], S.l2texts.e3, l3⟩)] x = S.l2texts.p l3 x := by kernel_rfl
theorem S.l2texts.oo : OrcOK Try.prog S.l2texts.o := (orc_cons S.l2place.ok orc_nil)
theorem S.l2texts.lk3 : LoopOK (fxOf S.l2texts.fa 0) Try.prog (loopBody 3 Try.f160) (max 2 Try.f160.ntmps) (fin Ty Try.f160 S.l2texts.fa S.l2texts.fr 2) S.l2texts.lo3 :=
  loopF_ok (f := Try.f160) (np := 2) (n := 3) (fa := S.l2texts.fa) (fr := S.l2texts.fr) (L := ([] : List (Nat × LoopO (DenF S.l2texts.fr × DenB S.l2texts.fa)))) (hs := [0, 1, 5, 6]) (xs := [5]) (head := S.l2texts.h3) (exit := S.l2texts.e3) (step := S.l2texts.st3) mixed ty_ok S.l2texts.oo (loops_of (bs := []) (by kernel_rfl) trivial) (S.l2texts.q3) big
theorem S.l2texts.ok : SpecOK Try.prog 160 S.l2texts.spec :=
  func_ok (f := Try.f160) (fa := S.l2texts.fa) (fr := S.l2texts.fr) (spec := S.l2texts) (np := 2) (L := ([(3, S.l2texts.lo3)] : List (Nat × LoopO (DenF S.l2texts.fr × DenB S.l2texts.fa)))) mixed ty_ok S.l2texts.oo (by kernel_rfl) (by kernel_rfl) (by kernel_rfl) (by kernel_rfl) (loops_of (bs := [loopBody 3 Try.f160]) (by kernel_rfl) ⟨one_loop (lo := S.l2texts.lo3) (by kernel_rfl) S.l2texts.lk3, trivial⟩) (S.l2texts.q S.l2texts.l3)

theorem S.ValidTable.q9 (Rc : S.ValidTable.H9 → Option S.ValidTable.R) (X : Nat → S.ValidTable.E9 → Option S.ValidTable.R) (x : S.ValidTable.H9) : evalL Ty Try.f197 S.ValidTable.fa S.ValidTable.fr 2 9 S.ValidTable.o [] [0, 3, 5, 6, 7, 8] S.ValidTable.h9 [0, 3, 5, 6, 7] S.ValidTable.e9 Rc X x = S.ValidTable.st9 Rc X x := by kernel_rfl
theorem S.ValidTable.q5 (l9 : S.ValidTable.H9 → (Nat → S.ValidTable.E9 → Option S.ValidTable.R) → Option S.ValidTable.R) (Rc : S.ValidTable.H5 → Option S.ValidTable.R) (X : Nat → S.ValidTable.E5 → Option S.ValidTable.R) (x : S.ValidTable.H5) : evalL Ty Try.f197 S.ValidTable.fa S.ValidTable.fr 2 5 S.ValidTable.o [(9, ⟨[0, 3, 5, 6, 7, 8], S.ValidTable.h9, [0, 3, 5, 6, 7], S.ValidTable.e9, l9⟩)] [0, 3, 5, 6] S.ValidTable.h5 [5] S.ValidTable.e5 Rc X x = S.ValidTable.st5 l9 Rc X x := by kernel_rfl
theorem S.ValidTable.q (l5 : S.ValidTable.H5 → (Nat → S.ValidTable.E5 → Option S.ValidTable.R) → Option S.ValidTable.R) (x : S.ValidTable.A) : evalF Ty Try.f197 S.ValidTable.fa S.ValidTable.fr 2 S.ValidTable.o [(5, ⟨[0, 3, 5, 6], S.ValidTable.h5, [5], S.ValidTable.e5, l5⟩)] x = S.ValidTable.p l5 x := by kernel_rfl
theorem S.ValidTable.oo : OrcOK Try.prog S.ValidTable.o := (orc_cons S.ValidFields.ok (orc_cons S.l2texts.ok (orc_cons S.l2cellOK.ok (orc_cons S.l2column.ok orc_nil))))
theorem S.ValidTable.lk9 : LoopOK (fxOf S.ValidTable.fa 0) Try.prog (loopBody 9 Try.f197) (max 2 Try.f197.ntmps) (fin Ty Try.f197 S.ValidTable.fa S.ValidTable.fr 2) S.ValidTable.lo9 :=
  loopF_ok (f := Try.f197) (np := 2) (n := 9) (fa := S.ValidTable.fa) (fr := S.ValidTable.fr) (L := ([] : List (Nat × LoopO (DenF S.ValidTable.fr × DenB S.ValidTable.fa)))) (hs := [0, 3, 5, 6, 7, 8]) (xs := [0, 3, 5, 6, 7]) (head := S.ValidTable.h9) (exit := S.ValidTable.e9) (step := S.ValidTable.st9) mixed ty_ok S.ValidTable.oo (loops_of (bs := []) (by kernel_rfl) trivial) (S.ValidTable.q9) big
theorem S.ValidTable.lk5 : LoopOK (fxOf S.ValidTable.fa 0) Try.prog (loopBody 5 Try.f197) (max 2 Try.f197.ntmps) (fin Ty Try.f197 S.ValidTable.fa S.ValidTable.fr 2) S.ValidTable.lo5 :=
  loopF_ok (f := Try.f197) (np := 2) (n := 5) (fa := S.ValidTable.fa) (fr := S.ValidTable.fr) (L := ([(9, S.ValidTable.lo9)] : List (Nat × LoopO (DenF S.ValidTable.fr × DenB S.ValidTable.fa)))) (hs := [0, 3, 5, 6]) (xs := [5]) (head := S.ValidTable.h5) (exit := S.ValidTable.e5) (step := S.ValidTable.st5 S.ValidTable.l9) mixed ty_ok S.ValidTable.oo (loops_of (bs := [loopBody 9 Try.f197]) (by kernel_rfl) ⟨one_loop (lo := S.ValidTable.lo9) (by kernel_rfl) S.ValidTable.lk9, trivial⟩) (S.ValidTable.q5 S.ValidTable.l9) big
theorem S.ValidTable.ok : SpecOK Try.prog 197 S.ValidTable.spec :=
  func_ok (f := Try.f197) (fa := S.ValidTable.fa) (fr := S.ValidTable.fr) (spec := S.ValidTable) (np := 2) (L := ([(5, S.ValidTable.lo5)] : List (Nat × LoopO (DenF S.ValidTable.fr × DenB S.ValidTable.fa)))) mixed ty_ok S.ValidTable.oo (by kernel_rfl) (by kernel_rfl) (by kernel_rfl) (by kernel_rfl) (loops_of (bs := [loopBody 5 Try.f197]) (by kernel_rfl) ⟨one_loop (lo := S.ValidTable.lo5) (by kernel_rfl) S.ValidTable.lk5, trivial⟩) (S.ValidTable.q S.ValidTable.l5)

theorem S.l6tablesOK.q4 (Rc : S.l6tablesOK.H4 → Option S.l6tablesOK.R) (X : Nat → S.l6tablesOK.E4 → Option S.l6tablesOK.R) (x : S.l6tablesOK.H4) : evalL Ty Try.f137 S.l6tablesOK.fa S.l6tablesOK.fr 2 4 S.l6tablesOK.o [] [0, 1, 5] S.l6tablesOK.h4 [] S.l6tablesOK.e4 Rc X x = S.l6tablesOK.st4 Rc X x := by kernel_rfl
theorem S.l6tablesOK.q (l4 : S.l6tablesOK.H4 → (Nat → S.l6tablesOK.E4 → Option S.l6tablesOK.R) → Option S.l6tablesOK.R) (x : S.l6tablesOK.A) : evalF Ty Try.f137 S.l6tablesOK.fa S.l6tablesOK.fr 2 S.l6tablesOK.o [(4, ⟨[0, 1, 5], S.l6tablesOK.h4, [], S.l6tablesOK.e4, l4⟩)] x = S.l6tablesOK.p l4 x := by kernel_rfl
theorem S.l6tablesOK.oo : OrcOK Try.prog S.l6tablesOK.o := (orc_cons S.ValidTable.ok orc_nil)
theorem S.l6tablesOK.lk4 : LoopOK (fxOf S.l6tablesOK.fa 0) Try.prog (loopBody 4 Try.f137) (max 2 Try.f137.ntmps) (fin Ty Try.f137 S.l6tablesOK.fa S.l6tablesOK.fr 2) S.l6tablesOK.lo4 :=
  loopF_ok (f := Try.f137) (np := 2) (n := 4) (fa := S.l6tablesOK.fa) (fr := S.l6tablesOK.fr) (L := ([] : List (Nat × LoopO (DenF S.l6tablesOK.fr × DenB S.l6tablesOK.fa)))) (hs := [0, 1, 5]) (xs := []) (head := S.l6tablesOK.h4) (exit := S.l6tablesOK.e4) (step := S.l6tablesOK.st4) mixed ty_ok S.l6tablesOK.oo (loops_of (bs := []) (by kernel_rfl) trivial) (S.l6tablesOK.q4) big
theorem S.l6tablesOK.ok : SpecOK Try.prog 137 S.l6tablesOK.spec :=
  func_ok (f := Try.f137) (fa := S.l6tablesOK.fa) (fr := S.l6tablesOK.fr) (spec := S.l6tablesOK) (np := 2) (L := ([(4, S.l6tablesOK.lo4)] : List (Nat × LoopO (DenF S.l6tablesOK.fr × DenB S.l6tablesOK.fa)))) mixed ty_ok S.l6tablesOK.oo (by kernel_rfl) (by kernel_rfl) (by kernel_rfl) (by kernel_rfl) (loops_of (bs := [loopBody 4 Try.f137]) (by kernel_rfl) ⟨one_loop (lo := S.l6tablesOK.lo4) (by kernel_rfl) S.l6tablesOK.lk4, trivial⟩) (S.l6tablesOK.q S.l6tablesOK.l4)

theorem S.l6ready.q (x : S.l6ready.A) : evalF Ty Try.f126 S.l6ready.fa S.l6ready.fr 1 S.l6ready.o [] x = S.l6ready x := by kernel_rfl
theorem S.l6ready.oo : OrcOK Try.prog S.l6ready.o := (orc_cons S.l6tablesOK.ok orc_nil)
theorem S.l6ready.ok : SpecOK Try.prog 126 S.l6ready.spec :=
  func_ok (f := Try.f126) (fa := S.l6ready.fa) (fr := S.l6ready.fr) (spec := S.l6ready) (np := 1) (L := ([] : List (Nat × LoopO (DenF S.l6ready.fr × DenB S.l6ready.fa)))) mixed ty_ok S.l6ready.oo (by kernel_rfl) (by kernel_rfl) (by kernel_rfl) (by kernel_rfl) (loops_of (bs := []) (by kernel_rfl) trivial) (S.l6ready.q)

theorem S.ValidReceiver.q (x : S.ValidReceiver.A) : evalF Ty Try.f47 S.ValidReceiver.fa S.ValidReceiver.fr 1 S.ValidReceiver.o [] x = S.ValidReceiver x := by kernel_rfl
theorem S.ValidReceiver.oo : OrcOK Try.prog S.ValidReceiver.o := (orc_cons S.ValidIn.ok (orc_cons S.ValidStream.ok (orc_cons S.l6ready.ok orc_nil)))
theorem S.ValidReceiver.ok : SpecOK Try.prog 47 S.ValidReceiver.spec :=
  func_ok (f := Try.f47) (fa := S.ValidReceiver.fa) (fr := S.ValidReceiver.fr) (spec := S.ValidReceiver) (np := 1) (L := ([] : List (Nat × LoopO (DenF S.ValidReceiver.fr × DenB S.ValidReceiver.fa)))) mixed ty_ok S.ValidReceiver.oo (by kernel_rfl) (by kernel_rfl) (by kernel_rfl) (by kernel_rfl) (loops_of (bs := []) (by kernel_rfl) trivial) (S.ValidReceiver.q)

theorem I.ValidFields.q5 (Rc : I.ValidFields.H5 → Option I.ValidFields.R) (X : Nat → I.ValidFields.E5 → Option I.ValidFields.R) (x : I.ValidFields.H5) : evalL Ty Try.f140 I.ValidFields.fa I.ValidFields.fr 1 5 I.ValidFields.o [] [3, 17, 18, 19] I.ValidFields.h5 [] I.ValidFields.e5 Rc X x = I.ValidFields.st5 Rc X x := by kernel_rfl
theorem I.ValidFields.q (l5 : I.ValidFields.H5 → (Nat → I.ValidFields.E5 → Option I.ValidFields.R) → Option I.ValidFields.R) (x : I.ValidFields.A) : evalF Ty Try.f140 I.ValidFields.fa I.ValidFields.fr 1 I.ValidFields.o [(5, ⟨[3, 17, 18, 19], I.ValidFields.h5, [], I.ValidFields.e5, l5⟩)] x = I.ValidFields.p l5 x := by kernel_rfl
theorem I.ValidFields.oo : OrcOK Try.prog I.ValidFields.o := (orc_cons I.fieldOk.ok orc_nil)
theorem I.ValidFields.lk5 : LoopOK (fxOf I.ValidFields.fa 0) Try.prog (loopBody 5 Try.f140) (max 1 Try.f140.ntmps) (fin Ty Try.f140 I.ValidFields.fa I.ValidFields.fr 1) I.ValidFields.lo5 :=
  loopF_ok (f := Try.f140) (np := 1) (n := 5) (fa := I.ValidFields.fa) (fr := I.ValidFields.fr) (L := ([] : List (Nat × LoopO (DenF I.ValidFields.fr × DenB I.ValidFields.fa)))) (hs := [3, 17, 18, 19]) (xs := []) (head := I.ValidFields.h5) (exit := I.ValidFields.e5) (step := I.ValidFields.st5) mixed ty_ok I.ValidFields.oo (loops_of (bs := []) (by kernel_rfl) trivial) (I.ValidFields.q5) big
theorem I.ValidFields.ok : SpecOK Try.prog 140 I.ValidFields.spec :=
  func_ok (f := Try.f140) (fa := I.ValidFields.fa) (fr := I.ValidFields.fr) (spec := I.ValidFields) (np := 1) (L := ([(5, I.ValidFields.lo5)] : List (Nat × LoopO (DenF I.ValidFields.fr × DenB I.ValidFields.fa)))) mixed ty_ok I.ValidFields.oo (by kernel_rfl) (by kernel_rfl) (by kernel_rfl) (by kernel_rfl) (loops_of (bs := [loopBody 5 Try.f140]) (by kernel_rfl) ⟨one_loop (lo := I.ValidFields.lo5) (by kernel_rfl) I.ValidFields.lk5, trivial⟩) (I.ValidFields.q I.ValidFields.l5)

theorem I.ValidStream.q6 (Rc : I.ValidStream.H6 → Option I.ValidStream.R) (X : Nat → I.ValidStream.E6 → Option I.ValidStream.R) (x : I.ValidStream.H6) : evalL Ty Try.f129 I.ValidStream.fa I.ValidStream.fr 1 6 I.ValidStream.o [] [1, 47, 48, 49] I.ValidStream.h6 [] I.ValidStream.e6 Rc X x = I.ValidStream.st6 Rc X x := by kernel_rfl
theorem I.ValidStream.q (l6 : I.ValidStream.H6 → (Nat → I.ValidStream.E6 → Option I.ValidStream.R) → Option I.ValidStream.R) (x : I.ValidStream.A) : evalF Ty Try.f129 I.ValidStream.fa I.ValidStream.fr 1 I.ValidStream.o [(6, ⟨[1, 47, 48, 49], I.ValidStream.h6, [], I.ValidStream.e6, l6⟩)] x = I.ValidStream.p l6 x := by kernel_rfl
theorem I.ValidStream.oo : OrcOK Try.prog I.ValidStream.o := (orc_cons I.ValidDict.ok (orc_cons I.ValidFields.ok orc_nil))
theorem I.ValidStream.lk6 : LoopOK (fxOf I.ValidStream.fa 0) Try.prog (loopBody 6 Try.f129) (max 1 Try.f129.ntmps) (fin Ty Try.f129 I.ValidStream.fa I.ValidStream.fr 1) I.ValidStream.lo6 :=
  loopF_ok (f := Try.f129) (np := 1) (n := 6) (fa := I.ValidStream.fa) (fr := I.ValidStream.fr) (L := ([] : List (Nat × LoopO (DenF I.ValidStream.fr × DenB I.ValidStream.fa)))) (hs := [1, 47, 48, 49]) (xs := []) (head := I.ValidStream.h6) (exit := I.ValidStream.e6) (step := I.ValidStream.st6) mixed ty_ok I.ValidStream.oo (loops_of (bs := []) (by kernel_rfl) trivial) (I.ValidStream.q6) big
theorem I.ValidStream.ok : SpecOK Try.prog 129 I.ValidStream.spec :=
  func_ok (f := Try.f129) (fa := I.ValidStream.fa) (fr := I.ValidStream.fr) (spec := I.ValidStream) (np := 1) (L := ([(6, I.ValidStream.lo6)] : List (Nat × LoopO (DenF I.ValidStream.fr × DenB I.ValidStream.fa)))) mixed ty_ok I.ValidStream.oo (by kernel_rfl) (by kernel_rfl) (by kernel_rfl) (by kernel_rfl) (loops_of (bs := [loopBody 6 Try.f129]) (by kernel_rfl) ⟨one_loop (lo := I.ValidStream.lo6) (by kernel_rfl) I.ValidStream.lk6, trivial⟩) (I.ValidStream.q I.ValidStream.l6)

theorem I.packetOk.q (x : I.packetOk.A) : evalF Ty Try.f104 I.packetOk.fa I.packetOk.fr 1 I.packetOk.o [] x = I.packetOk x := by kernel_rfl
theorem I.packetOk.oo : OrcOK Try.prog I.packetOk.o := orc_nil
theorem I.packetOk.ok : SpecOK Try.prog 104 I.packetOk.spec :=
  func_ok (f := Try.f104) (fa := I.packetOk.fa) (fr := I.packetOk.fr) (spec := I.packetOk) (np := 1) (L := ([] : List (Nat × LoopO (DenF I.packetOk.fr × DenB I.packetOk.fa)))) mixed ty_ok I.packetOk.oo (by kernel_rfl) (by kernel_rfl) (by kernel_rfl) (by kernel_rfl) (loops_of (bs := []) (by kernel_rfl) trivial) (I.packetOk.q)

theorem I.ValidIn.q5 (Rc : I.ValidIn.H5 → Option I.ValidIn.R) (X : Nat → I.ValidIn.E5 → Option I.ValidIn.R) (x : I.ValidIn.H5) : evalL Ty Try.f103 I.ValidIn.fa I.ValidIn.fr 1 5 I.ValidIn.o [] [1, 3, 39, 40, 41] I.ValidIn.h5 [] I.ValidIn.e5 Rc X x = I.ValidIn.st5 Rc X x := by kernel_rfl
theorem I.ValidIn.q (l5 : I.ValidIn.H5 → (Nat → I.ValidIn.E5 → Option I.ValidIn.R) → Option I.ValidIn.R) (x : I.ValidIn.A) : evalF Ty Try.f103 I.ValidIn.fa I.ValidIn.fr 1 I.ValidIn.o [(5, ⟨[1, 3, 39, 40, 41], I.ValidIn.h5, [], I.ValidIn.e5, l5⟩)] x = I.ValidIn.p l5 x := by kernel_rfl
theorem I.ValidIn.oo : OrcOK Try.prog I.ValidIn.o := (orc_cons I.packetOk.ok orc_nil)
theorem I.ValidIn.lk5 : LoopOK (fxOf I.ValidIn.fa 0) Try.prog (loopBody 5 Try.f103) (max 1 Try.f103.ntmps) (fin Ty Try.f103 I.ValidIn.fa I.ValidIn.fr 1) I.ValidIn.lo5 :=
  loopF_ok (f := Try.f103) (np := 1) (n := 5) (fa := I.ValidIn.fa) (fr := I.ValidIn.fr) (L := ([] : List (Nat × LoopO (DenF I.ValidIn.fr × DenB I.ValidIn.fa)))) (hs := [1, 3, 39, 40, 41]) (xs := []) (head := I.ValidIn.h5) (exit := I.ValidIn.e5) (step := I.ValidIn.st5) mixed ty_ok I.ValidIn.oo (loops_of (bs := []) (by kernel_rfl) trivial) (I.ValidIn.q5) big
theorem I.ValidIn.ok : SpecOK Try.prog 103 I.ValidIn.spec :=
  func_ok (f := Try.f103) (fa := I.ValidIn.fa) (fr := I.ValidIn.fr) (spec := I.ValidIn) (np := 1) (L := ([(5, I.ValidIn.lo5)] : List (Nat × LoopO (DenF I.ValidIn.fr × DenB I.ValidIn.fa)))) mixed ty_ok I.ValidIn.oo (by kernel_rfl) (by kernel_rfl) (by kernel_rfl) (by kernel_rfl) (loops_of (bs := [loopBody 5 Try.f103]) (by kernel_rfl) ⟨one_loop (lo := I.ValidIn.lo5) (by kernel_rfl) I.ValidIn.lk5, trivial⟩) (I.ValidIn.q I.ValidIn.l5)

theorem I.column.q (x : I.column.A) : evalF Ty Try.f193 I.column.fa I.column.fr 2 I.column.o [] x = I.column x := by kernel_rfl
theorem I.column.oo : OrcOK Try.prog I.column.o := orc_nil
theorem I.column.ok : SpecOK Try.prog 193 I.column.spec :=
  func_ok (f := Try.f193) (fa := I.column.fa) (fr := I.column.fr) (spec := I.column) (np := 2) (L := ([] : List (Nat × LoopO (DenF I.column.fr × DenB I.column.fa)))) mixed ty_ok I.column.oo (by kernel_rfl) (by kernel_rfl) (by kernel_rfl) (by kernel_rfl) (loops_of (bs := []) (by kernel_rfl) trivial) (I.column.q)

theorem I.ValidTable.q9 (Rc : I.ValidTable.H9 → Option I.ValidTable.R) (X : Nat → I.ValidTable.E9 → Option I.ValidTable.R) (x : I.ValidTable.H9) : evalL Ty Try.f132 I.ValidTable.fa I.ValidTable.fr 2 9 I.ValidTable.o [] [3, 5, 7, 8, 35, 36, 37, 45, 46, 47] I.ValidTable.h9 [3, 5, 7, 8, 35, 36, 37] I.ValidTable.e9 Rc X x = I.ValidTable.st9 Rc X x := by kernel_rfl
theorem I.ValidTable.q5 (l9 : I.ValidTable.H9 → (Nat → I.ValidTable.E9 → Option I.ValidTable.R) → Option I.ValidTable.R) (Rc : I.ValidTable.H5 → Option I.ValidTable.R) (X : Nat → I.ValidTable.E5 → Option I.ValidTable.R) (x : I.ValidTable.H5) : evalL Ty Try.f132 I.ValidTable.fa I.ValidTable.fr 2 5 I.ValidTable.o [(9, ⟨[3, 5, 7, 8, 35, 36, 37, 45, 46, 47], I.ValidTable.h9, [3, 5, 7, 8, 35, 36, 37], I.ValidTable.e9, l9⟩)] [3, 5, 35, 36, 37] I.ValidTable.h5 [5] I.ValidTable.e5 Rc X x = I.ValidTable.st5 l9 Rc X x := by kernel_rfl
theorem I.ValidTable.q (l5 : I.ValidTable.H5 → (Nat → I.ValidTable.E5 → Option I.ValidTable.R) → Option I.ValidTable.R) (x : I.ValidTable.A) : evalF Ty Try.f132 I.ValidTable.fa I.ValidTable.fr 2 I.ValidTable.o [(5, ⟨[3, 5, 35, 36, 37], I.ValidTable.h5, [5], I.ValidTable.e5, l5⟩)] x = I.ValidTable.p l5 x := by kernel_rfl
theorem I.ValidTable.oo : OrcOK Try.prog I.ValidTable.o := (orc_cons I.cellOk.ok (orc_cons I.ValidFields.ok (orc_cons I.column.ok orc_nil)))
theorem I.ValidTable.lk9 : LoopOK (fxOf I.ValidTable.fa 0) Try.prog (loopBody 9 Try.f132) (max 2 Try.f132.ntmps) (fin Ty Try.f132 I.ValidTable.fa I.ValidTable.fr 2) I.ValidTable.lo9 :=
  loopF_ok (f := Try.f132) (np := 2) (n := 9) (fa := I.ValidTable.fa) (fr := I.ValidTable.fr) (L := ([] : List (Nat × LoopO (DenF I.ValidTable.fr × DenB I.ValidTable.fa)))) (hs := [3, 5, 7, 8, 35, 36, 37, 45, 46, 47]) (xs := [3, 5, 7, 8, 35, 36, 37]) (head := I.ValidTable.h9) (exit := I.ValidTable.e9) (step := I.ValidTable.st9) mixed ty_ok I.ValidTable.oo (loops_of (bs := []) (by kernel_rfl) trivial) (I.ValidTable.q9) big
theorem I.ValidTable.lk5 : LoopOK (fxOf I.ValidTable.fa 0) Try.prog (loopBody 5 Try.f132) (max 2 Try.f132.ntmps) (fin Ty Try.f132 I.ValidTable.fa I.ValidTable.fr 2) I.ValidTable.lo5 :=
  loopF_ok (f := Try.f132) (np := 2) (n := 5) (fa := I.ValidTable.fa) (fr := I.ValidTable.fr) (L := ([(9, I.ValidTable.lo9)] : List (Nat × LoopO (DenF I.ValidTable.fr × DenB I.ValidTable.fa)))) (hs := [3, 5, 35, 36, 37]) (xs := [5]) (head := I.ValidTable.h5) (exit := I.ValidTable.e5) (step := I.ValidTable.st5 I.ValidTable.l9) mixed ty_ok I.ValidTable.oo (loops_of (bs := [loopBody 9 Try.f132]) (by kernel_rfl) ⟨one_loop (lo := I.ValidTable.lo9) (by kernel_rfl) I.ValidTable.lk9, trivial⟩) (I.ValidTable.q5 I.ValidTable.l9) big
theorem I.ValidTable.ok : SpecOK Try.prog 132 I.ValidTable.spec :=
  func_ok (f := Try.f132) (fa := I.ValidTable.fa) (fr := I.ValidTable.fr) (spec := I.ValidTable) (np := 2) (L := ([(5, I.ValidTable.lo5)] : List (Nat × LoopO (DenF I.ValidTable.fr × DenB I.ValidTable.fa)))) mixed ty_ok I.ValidTable.oo (by kernel_rfl) (by kernel_rfl) (by kernel_rfl) (by kernel_rfl) (loops_of (bs := [loopBody 5 Try.f132]) (by kernel_rfl) ⟨one_loop (lo := I.ValidTable.lo5) (by kernel_rfl) I.ValidTable.lk5, trivial⟩) (I.ValidTable.q I.ValidTable.l5)

theorem I.ValidReceiver_f1.q (x : I.ValidReceiver_f1.A) : evalF Ty Try.f131 I.ValidReceiver_f1.fa I.ValidReceiver_f1.fr 2 I.ValidReceiver_f1.o [] x = I.ValidReceiver_f1 x := by kernel_rfl
theorem I.ValidReceiver_f1.oo : OrcOK Try.prog I.ValidReceiver_f1.o := (orc_cons I.ValidTable.ok orc_nil)
theorem I.ValidReceiver_f1.ok : SpecOK Try.prog 131 I.ValidReceiver_f1.spec :=
  func_ok (f := Try.f131) (fa := I.ValidReceiver_f1.fa) (fr := I.ValidReceiver_f1.fr) (spec := I.ValidReceiver_f1) (np := 2) (L := ([] : List (Nat × LoopO (DenF I.ValidReceiver_f1.fr × DenB I.ValidReceiver_f1.fa)))) mixed ty_ok I.ValidReceiver_f1.oo (by kernel_rfl) (by kernel_rfl) (by kernel_rfl) (by kernel_rfl) (loops_of (bs := []) (by kernel_rfl) trivial) (I.ValidReceiver_f1.q)

theorem B.slices_IndexFunc_Table_ValidReceiver_f1.q2 (Rc : B.slices_IndexFunc_Table_ValidReceiver_f1.H2 → Option B.slices_IndexFunc_Table_ValidReceiver_f1.R) (X : Nat → B.slices_IndexFunc_Table_ValidReceiver_f1.E2 → Option B.slices_IndexFunc_Table_ValidReceiver_f1.R) (x : B.slices_IndexFunc_Table_ValidReceiver_f1.H2) : evalL Ty Try.f192 B.slices_IndexFunc_Table_ValidReceiver_f1.fa B.slices_IndexFunc_Table_ValidReceiver_f1.fr 2 2 B.slices_IndexFunc_Table_ValidReceiver_f1.o [] [0, 1, 7, 8] B.slices_IndexFunc_Table_ValidReceiver_f1.h2 [] B.slices_IndexFunc_Table_ValidReceiver_f1.e2 Rc X x = B.slices_IndexFunc_Table_ValidReceiver_f1.st2 Rc X x := by kernel_rfl
theorem B.slices_IndexFunc_Table_ValidReceiver_f1.q (l2 : B.slices_IndexFunc_Table_ValidReceiver_f1.H2 → (Nat → B.slices_IndexFunc_Table_ValidReceiver_f1.E2 → Option B.slices_IndexFunc_Table_ValidReceiver_f1.R) → Option B.slices_IndexFunc_Table_ValidReceiver_f1.R) (x : B.slices_IndexFunc_Table_ValidReceiver_f1.A) : evalF Ty Try.f192 B.slices_IndexFunc_Table_ValidReceiver_f1.fa B.slices_IndexFunc_Table_ValidReceiver_f1.fr 2 B.slices_IndexFunc_Table_ValidReceiver_f1.o [(2, ⟨[0, 1, 7, 8], B.slices_IndexFunc_Table_ValidReceiver_f1.h2, [], B.slices_IndexFunc_Table_ValidReceiver_f1.e2, l2⟩)] x = B.slices_IndexFunc_Table_ValidReceiver_f1.p l2 x := by kernel_rfl
theorem B.slices_IndexFunc_Table_ValidReceiver_f1.oo : OrcOK Try.prog B.slices_IndexFunc_Table_ValidReceiver_f1.o := (orc_cons I.ValidReceiver_f1.ok orc_nil)
theorem B.slices_IndexFunc_Table_ValidReceiver_f1.lk2 : LoopOK (fxOf B.slices_IndexFunc_Table_ValidReceiver_f1.fa 0) Try.prog (loopBody 2 Try.f192) (max 2 Try.f192.ntmps) (fin Ty Try.f192 B.slices_IndexFunc_Table_ValidReceiver_f1.fa B.slices_IndexFunc_Table_ValidReceiver_f1.fr 2) B.slices_IndexFunc_Table_ValidReceiver_f1.lo2 :=
  loopF_ok (f := Try.f192) (np := 2) (n := 2) (fa := B.slices_IndexFunc_Table_ValidReceiver_f1.fa) (fr := B.slices_IndexFunc_Table_ValidReceiver_f1.fr) (L := ([] : List (Nat × LoopO (DenF B.slices_IndexFunc_Table_ValidReceiver_f1.fr × DenB B.slices_IndexFunc_Table_ValidReceiver_f1.fa)))) (hs := [0, 1, 7, 8]) (xs := []) (head := B.slices_IndexFunc_Table_ValidReceiver_f1.h2) (exit := B.slices_IndexFunc_Table_ValidReceiver_f1.e2) (step := B.slices_IndexFunc_Table_ValidReceiver_f1.st2) mixed ty_ok B.slices_IndexFunc_Table_ValidReceiver_f1.oo (loops_of (bs := []) (by kernel_rfl) trivial) (B.slices_IndexFunc_Table_ValidReceiver_f1.q2) big
theorem B.slices_IndexFunc_Table_ValidReceiver_f1.ok : SpecOK Try.prog 192 B.slices_IndexFunc_Table_ValidReceiver_f1.spec :=
  func_ok (f := Try.f192) (fa := B.slices_IndexFunc_Table_ValidReceiver_f1.fa) (fr := B.slices_IndexFunc_Table_ValidReceiver_f1.fr) (spec := B.slices_IndexFunc_Table_ValidReceiver_f1) (np := 2) (L := ([(2, B.slices_IndexFunc_Table_ValidReceiver_f1.lo2)] : List (Nat × LoopO (DenF B.slices_IndexFunc_Table_ValidReceiver_f1.fr × DenB B.slices_IndexFunc_Table_ValidReceiver_f1.fa)))) mixed ty_ok B.slices_IndexFunc_Table_ValidReceiver_f1.oo (by kernel_rfl) (by kernel_rfl) (by kernel_rfl) (by kernel_rfl) (loops_of (bs := [loopBody 2 Try.f192]) (by kernel_rfl) ⟨one_loop (lo := B.slices_IndexFunc_Table_ValidReceiver_f1.lo2) (by kernel_rfl) B.slices_IndexFunc_Table_ValidReceiver_f1.lk2, trivial⟩) (B.slices_IndexFunc_Table_ValidReceiver_f1.q B.slices_IndexFunc_Table_ValidReceiver_f1.l2)

theorem B.slices_ContainsFunc_Table_ValidReceiver_f1.q (x : B.slices_ContainsFunc_Table_ValidReceiver_f1.A) : evalF Ty Try.f130 B.slices_ContainsFunc_Table_ValidReceiver_f1.fa B.slices_ContainsFunc_Table_ValidReceiver_f1.fr 2 B.slices_ContainsFunc_Table_ValidReceiver_f1.o [] x = B.slices_ContainsFunc_Table_ValidReceiver_f1 x := by kernel_rfl
theorem B.slices_ContainsFunc_Table_ValidReceiver_f1.oo : OrcOK Try.prog B.slices_ContainsFunc_Table_ValidReceiver_f1.o := (orc_cons B.slices_IndexFunc_Table_ValidReceiver_f1.ok orc_nil)
theorem B.slices_ContainsFunc_Table_ValidReceiver_f1.ok : SpecOK Try.prog 130 B.slices_ContainsFunc_Table_ValidReceiver_f1.spec :=
  func_ok (f := Try.f130) (fa := B.slices_ContainsFunc_Table_ValidReceiver_f1.fa) (fr := B.slices_ContainsFunc_Table_ValidReceiver_f1.fr) (spec := B.slices_ContainsFunc_Table_ValidReceiver_f1) (np := 2) (L := ([] : List (Nat × LoopO (DenF B.slices_ContainsFunc_Table_ValidReceiver_f1.fr × DenB B.slices_ContainsFunc_Table_ValidReceiver_f1.fa)))) mixed ty_ok B.slices_ContainsFunc_Table_ValidReceiver_f1.oo (by kernel_rfl) (by kernel_rfl) (by kernel_rfl) (by kernel_rfl) (loops_of (bs := []) (by kernel_rfl) trivial) (B.slices_ContainsFunc_Table_ValidReceiver_f1.q)

theorem I.ValidReceiver.q (x : I.ValidReceiver.A) : evalF Ty Try.f49 I.ValidReceiver.fa I.ValidReceiver.fr 1 I.ValidReceiver.o [] x = I.ValidReceiver x := by kernel_rfl
theorem I.ValidReceiver.oo : OrcOK Try.prog I.ValidReceiver.o := (orc_cons I.ValidIn.ok (orc_cons I.ValidStream.ok (orc_cons B.slices_ContainsFunc_Table_ValidReceiver_f1.ok orc_nil)))
theorem I.ValidReceiver.ok : SpecOK Try.prog 49 I.ValidReceiver.spec :=
  func_ok (f := Try.f49) (fa := I.ValidReceiver.fa) (fr := I.ValidReceiver.fr) (spec := I.ValidReceiver) (np := 1) (L := ([] : List (Nat × LoopO (DenF I.ValidReceiver.fr × DenB I.ValidReceiver.fa)))) mixed ty_ok I.ValidReceiver.oo (by kernel_rfl) (by kernel_rfl) (by kernel_rfl) (by kernel_rfl) (loops_of (bs := []) (by kernel_rfl) trivial) (I.ValidReceiver.q)

theorem L.eqPacket.q (x : L.eqPacket.A) : evalF Ty Try.f42 L.eqPacket.fa L.eqPacket.fr 2 L.eqPacket.o [] x = L.eqPacket x := by kernel_rfl
theorem L.eqPacket.oo : OrcOK Try.prog L.eqPacket.o := (orc_cons L.eqByteS.ok orc_nil)
theorem L.eqPacket.ok : SpecOK Try.prog 42 L.eqPacket.spec :=
  func_ok (f := Try.f42) (fa := L.eqPacket.fa) (fr := L.eqPacket.fr) (spec := L.eqPacket) (np := 2) (L := ([] : List (Nat × LoopO (DenF L.eqPacket.fr × DenB L.eqPacket.fa)))) mixed ty_ok L.eqPacket.oo (by kernel_rfl) (by kernel_rfl) (by kernel_rfl) (by kernel_rfl) (loops_of (bs := []) (by kernel_rfl) trivial) (L.eqPacket.q)

theorem L.eqPacketS.q4 (Rc : L.eqPacketS.H4 → Option L.eqPacketS.R) (X : Nat → L.eqPacketS.E4 → Option L.eqPacketS.R) (x : L.eqPacketS.H4) : evalL Ty Try.f120 L.eqPacketS.fa L.eqPacketS.fr 2 4 L.eqPacketS.o [] [0, 1, 5] L.eqPacketS.h4 [] L.eqPacketS.e4 Rc X x = L.eqPacketS.st4 Rc X x := by kernel_rfl
theorem L.eqPacketS.q (l4 : L.eqPacketS.H4 → (Nat → L.eqPacketS.E4 → Option L.eqPacketS.R) → Option L.eqPacketS.R) (x : L.eqPacketS.A) : evalF Ty Try.f120 L.eqPacketS.fa L.eqPacketS.fr 2 L.eqPacketS.o [(4, ⟨[0, 1, 5], L.eqPacketS.h4, [], L.eqPacketS.e4, l4⟩)] x = L.eqPacketS.p l4 x := by kernel_rfl
theorem L.eqPacketS.oo : OrcOK Try.prog L.eqPacketS.o := (orc_cons L.eqPacket.ok orc_nil)
theorem L.eqPacketS.lk4 : LoopOK (fxOf L.eqPacketS.fa 0) Try.prog (loopBody 4 Try.f120) (max 2 Try.f120.ntmps) (fin Ty Try.f120 L.eqPacketS.fa L.eqPacketS.fr 2) L.eqPacketS.lo4 :=
  loopF_ok (f := Try.f120) (np := 2) (n := 4) (fa := L.eqPacketS.fa) (fr := L.eqPacketS.fr) (L := ([] : List (Nat × LoopO (DenF L.eqPacketS.fr × DenB L.eqPacketS.fa)))) (hs := [0, 1, 5]) (xs := []) (head := L.eqPacketS.h4) (exit := L.eqPacketS.e4) (step := L.eqPacketS.st4) mixed ty_ok L.eqPacketS.oo (loops_of (bs := []) (by kernel_rfl) trivial) (L.eqPacketS.q4) big
theorem L.eqPacketS.ok : SpecOK Try.prog 120 L.eqPacketS.spec :=
  func_ok (f := Try.f120) (fa := L.eqPacketS.fa) (fr := L.eqPacketS.fr) (spec := L.eqPacketS) (np := 2) (L := ([(4, L.eqPacketS.lo4)] : List (Nat × LoopO (DenF L.eqPacketS.fr × DenB L.eqPacketS.fa)))) mixed ty_ok L.eqPacketS.oo (by kernel_rfl) (by kernel_rfl) (by kernel_rfl) (by kernel_rfl) (loops_of (bs := [loopBody 4 Try.f120]) (by kernel_rfl) ⟨one_loop (lo := L.eqPacketS.lo4) (by kernel_rfl) L.eqPacketS.lk4, trivial⟩) (L.eqPacketS.q L.eqPacketS.l4)

theorem L.eqLinkIn.q (x : L.eqLinkIn.A) : evalF Ty Try.f41 L.eqLinkIn.fa L.eqLinkIn.fr 2 L.eqLinkIn.o [] x = L.eqLinkIn x := by kernel_rfl
theorem L.eqLinkIn.oo : OrcOK Try.prog L.eqLinkIn.o := (orc_cons L.eqByteS.ok (orc_cons L.eqPacketS.ok orc_nil))
theorem L.eqLinkIn.ok : SpecOK Try.prog 41 L.eqLinkIn.spec :=
  func_ok (f := Try.f41) (fa := L.eqLinkIn.fa) (fr := L.eqLinkIn.fr) (spec := L.eqLinkIn) (np := 2) (L := ([] : List (Nat × LoopO (DenF L.eqLinkIn.fr × DenB L.eqLinkIn.fa)))) mixed ty_ok L.eqLinkIn.oo (by kernel_rfl) (by kernel_rfl) (by kernel_rfl) (by kernel_rfl) (loops_of (bs := []) (by kernel_rfl) trivial) (L.eqLinkIn.q)

theorem L.eqFieldS.q4 (Rc : L.eqFieldS.H4 → Option L.eqFieldS.R) (X : Nat → L.eqFieldS.E4 → Option L.eqFieldS.R) (x : L.eqFieldS.H4) : evalL Ty Try.f60 L.eqFieldS.fa L.eqFieldS.fr 2 4 L.eqFieldS.o [] [0, 1, 5] L.eqFieldS.h4 [] L.eqFieldS.e4 Rc X x = L.eqFieldS.st4 Rc X x := by kernel_rfl
theorem L.eqFieldS.q (l4 : L.eqFieldS.H4 → (Nat → L.eqFieldS.E4 → Option L.eqFieldS.R) → Option L.eqFieldS.R) (x : L.eqFieldS.A) : evalF Ty Try.f60 L.eqFieldS.fa L.eqFieldS.fr 2 L.eqFieldS.o [(4, ⟨[0, 1, 5], L.eqFieldS.h4, [], L.eqFieldS.e4, l4⟩)] x = L.eqFieldS.p l4 x := by kernel_rfl
theorem L.eqFieldS.oo : OrcOK Try.prog L.eqFieldS.o := (orc_cons L.eqField.ok orc_nil)
theorem L.eqFieldS.lk4 : LoopOK (fxOf L.eqFieldS.fa 0) Try.prog (loopBody 4 Try.f60) (max 2 Try.f60.ntmps) (fin Ty Try.f60 L.eqFieldS.fa L.eqFieldS.fr 2) L.eqFieldS.lo4 :=
  loopF_ok (f := Try.f60) (np := 2) (n := 4) (fa := L.eqFieldS.fa) (fr := L.eqFieldS.fr) (L := ([] : List (Nat × LoopO (DenF L.eqFieldS.fr × DenB L.eqFieldS.fa)))) (hs := [0, 1, 5]) (xs := []) (head := L.eqFieldS.h4) (exit := L.eqFieldS.e4) (step := L.eqFieldS.st4) mixed ty_ok L.eqFieldS.oo (loops_of (bs := []) (by kernel_rfl) trivial) (L.eqFieldS.q4) big
theorem L.eqFieldS.ok : SpecOK Try.prog 60 L.eqFieldS.spec :=
  func_ok (f := Try.f60) (fa := L.eqFieldS.fa) (fr := L.eqFieldS.fr) (spec := L.eqFieldS) (np := 2) (L := ([(4, L.eqFieldS.lo4)] : List (Nat × LoopO (DenF L.eqFieldS.fr × DenB L.eqFieldS.fa)))) mixed ty_ok L.eqFieldS.oo (by kernel_rfl) (by kernel_rfl) (by kernel_rfl) (by kernel_rfl) (loops_of (bs := [loopBody 4 Try.f60]) (by kernel_rfl) ⟨one_loop (lo := L.eqFieldS.lo4) (by kernel_rfl) L.eqFieldS.lk4, trivial⟩) (L.eqFieldS.q L.eqFieldS.l4)

theorem L.eqByteSSS.q4 (Rc : L.eqByteSSS.H4 → Option L.eqByteSSS.R) (X : Nat → L.eqByteSSS.E4 → Option L.eqByteSSS.R) (x : L.eqByteSSS.H4) : evalL Ty Try.f194 L.eqByteSSS.fa L.eqByteSSS.fr 2 4 L.eqByteSSS.o [] [0, 1, 5] L.eqByteSSS.h4 [] L.eqByteSSS.e4 Rc X x = L.eqByteSSS.st4 Rc X x := by kernel_rfl
theorem L.eqByteSSS.q (l4 : L.eqByteSSS.H4 → (Nat → L.eqByteSSS.E4 → Option L.eqByteSSS.R) → Option L.eqByteSSS.R) (x : L.eqByteSSS.A) : evalF Ty Try.f194 L.eqByteSSS.fa L.eqByteSSS.fr 2 L.eqByteSSS.o [(4, ⟨[0, 1, 5], L.eqByteSSS.h4, [], L.eqByteSSS.e4, l4⟩)] x = L.eqByteSSS.p l4 x := by kernel_rfl
theorem L.eqByteSSS.oo : OrcOK Try.prog L.eqByteSSS.o := (orc_cons L.eqByteSS.ok orc_nil)
theorem L.eqByteSSS.lk4 : LoopOK (fxOf L.eqByteSSS.fa 0) Try.prog (loopBody 4 Try.f194) (max 2 Try.f194.ntmps) (fin Ty Try.f194 L.eqByteSSS.fa L.eqByteSSS.fr 2) L.eqByteSSS.lo4 :=
  loopF_ok (f := Try.f194) (np := 2) (n := 4) (fa := L.eqByteSSS.fa) (fr := L.eqByteSSS.fr) (L := ([] : List (Nat × LoopO (DenF L.eqByteSSS.fr × DenB L.eqByteSSS.fa)))) (hs := [0, 1, 5]) (xs := []) (head := L.eqByteSSS.h4) (exit := L.eqByteSSS.e4) (step := L.eqByteSSS.st4) mixed ty_ok L.eqByteSSS.oo (loops_of (bs := []) (by kernel_rfl) trivial) (L.eqByteSSS.q4) big
theorem L.eqByteSSS.ok : SpecOK Try.prog 194 L.eqByteSSS.spec :=
  func_ok (f := Try.f194) (fa := L.eqByteSSS.fa) (fr := L.eqByteSSS.fr) (spec := L.eqByteSSS) (np := 2) (L := ([(4, L.eqByteSSS.lo4)] : List (Nat × LoopO (DenF L.eqByteSSS.fr × DenB L.eqByteSSS.fa)))) mixed ty_ok L.eqByteSSS.oo (by kernel_rfl) (by kernel_rfl) (by kernel_rfl) (by kernel_rfl) (loops_of (bs := [loopBody 4 Try.f194]) (by kernel_rfl) ⟨one_loop (lo := L.eqByteSSS.lo4) (by kernel_rfl) L.eqByteSSS.lk4, trivial⟩) (L.eqByteSSS.q L.eqByteSSS.l4)

theorem L.eqStream.q (x : L.eqStream.A) : evalF Ty Try.f133 L.eqStream.fa L.eqStream.fr 2 L.eqStream.o [] x = L.eqStream x := by kernel_rfl
theorem L.eqStream.oo : OrcOK Try.prog L.eqStream.o := (orc_cons L.eqFieldS.ok (orc_cons L.eqByteSSS.ok orc_nil))
theorem L.eqStream.ok : SpecOK Try.prog 133 L.eqStream.spec :=
  func_ok (f := Try.f133) (fa := L.eqStream.fa) (fr := L.eqStream.fr) (spec := L.eqStream) (np := 2) (L := ([] : List (Nat × LoopO (DenF L.eqStream.fr × DenB L.eqStream.fa)))) mixed ty_ok L.eqStream.oo (by kernel_rfl) (by kernel_rfl) (by kernel_rfl) (by kernel_rfl) (loops_of (bs := []) (by kernel_rfl) trivial) (L.eqStream.q)

theorem L.eqTable.q (x : L.eqTable.A) : evalF Ty Try.f195 L.eqTable.fa L.eqTable.fr 2 L.eqTable.o [] x = L.eqTable x := by kernel_rfl
theorem L.eqTable.oo : OrcOK Try.prog L.eqTable.o := (orc_cons L.eqCellS.ok orc_nil)
theorem L.eqTable.ok : SpecOK Try.prog 195 L.eqTable.spec :=
  func_ok (f := Try.f195) (fa := L.eqTable.fa) (fr := L.eqTable.fr) (spec := L.eqTable) (np := 2) (L := ([] : List (Nat × LoopO (DenF L.eqTable.fr × DenB L.eqTable.fa)))) mixed ty_ok L.eqTable.oo (by kernel_rfl) (by kernel_rfl) (by kernel_rfl) (by kernel_rfl) (loops_of (bs := []) (by kernel_rfl) trivial) (L.eqTable.q)

theorem L.eqTableS.q4 (Rc : L.eqTableS.H4 → Option L.eqTableS.R) (X : Nat → L.eqTableS.E4 → Option L.eqTableS.R) (x : L.eqTableS.H4) : evalL Ty Try.f134 L.eqTableS.fa L.eqTableS.fr 2 4 L.eqTableS.o [] [0, 1, 5] L.eqTableS.h4 [] L.eqTableS.e4 Rc X x = L.eqTableS.st4 Rc X x := by kernel_rfl
theorem L.eqTableS.q (l4 : L.eqTableS.H4 → (Nat → L.eqTableS.E4 → Option L.eqTableS.R) → Option L.eqTableS.R) (x : L.eqTableS.A) : evalF Ty Try.f134 L.eqTableS.fa L.eqTableS.fr 2 L.eqTableS.o [(4, ⟨[0, 1, 5], L.eqTableS.h4, [], L.eqTableS.e4, l4⟩)] x = L.eqTableS.p l4 x := by kernel_rfl
theorem L.eqTableS.oo : OrcOK Try.prog L.eqTableS.o := (orc_cons L.eqTable.ok orc_nil)
theorem L.eqTableS.lk4 : LoopOK (fxOf L.eqTableS.fa 0) Try.prog (loopBody 4 Try.f134) (max 2 Try.f134.ntmps) (fin Ty Try.f134 L.eqTableS.fa L.eqTableS.fr 2) L.eqTableS.lo4 :=
  loopF_ok (f := Try.f134) (np := 2) (n := 4) (fa := L.eqTableS.fa) (fr := L.eqTableS.fr) (L := ([] : List (Nat × LoopO (DenF L.eqTableS.fr × DenB L.eqTableS.fa)))) (hs := [0, 1, 5]) (xs := []) (head := L.eqTableS.h4) (exit := L.eqTableS.e4) (step := L.eqTableS.st4) mixed ty_ok L.eqTableS.oo (loops_of (bs := []) (by kernel_rfl) trivial) (L.eqTableS.q4) big
theorem L.eqTableS.ok : SpecOK Try.prog 134 L.eqTableS.spec :=
  func_ok (f := Try.f134) (fa := L.eqTableS.fa) (fr := L.eqTableS.fr) (spec := L.eqTableS) (np := 2) (L := ([(4, L.eqTableS.lo4)] : List (Nat × LoopO (DenF L.eqTableS.fr × DenB L.eqTableS.fa)))) mixed ty_ok L.eqTableS.oo (by kernel_rfl) (by kernel_rfl) (by kernel_rfl) (by kernel_rfl) (loops_of (bs := [loopBody 4 Try.f134]) (by kernel_rfl) ⟨one_loop (lo := L.eqTableS.lo4) (by kernel_rfl) L.eqTableS.lk4, trivial⟩) (L.eqTableS.q L.eqTableS.l4)

theorem L.eqReceiver.q (x : L.eqReceiver.A) : evalF Ty Try.f50 L.eqReceiver.fa L.eqReceiver.fr 2 L.eqReceiver.o [] x = L.eqReceiver x := by kernel_rfl
theorem L.eqReceiver.oo : OrcOK Try.prog L.eqReceiver.o := (orc_cons L.eqLinkIn.ok (orc_cons L.eqStream.ok (orc_cons L.eqTableS.ok orc_nil)))
theorem L.eqReceiver.ok : SpecOK Try.prog 50 L.eqReceiver.spec :=
  func_ok (f := Try.f50) (fa := L.eqReceiver.fa) (fr := L.eqReceiver.fr) (spec := L.eqReceiver) (np := 2) (L := ([] : List (Nat × LoopO (DenF L.eqReceiver.fr × DenB L.eqReceiver.fa)))) mixed ty_ok L.eqReceiver.oo (by kernel_rfl) (by kernel_rfl) (by kernel_rfl) (by kernel_rfl) (loops_of (bs := []) (by kernel_rfl) trivial) (L.eqReceiver.q)

theorem L.FnExactValidReceiver.q (x : L.FnExactValidReceiver.A) : evalF Ty Try.f6 L.FnExactValidReceiver.fa L.FnExactValidReceiver.fr 1 L.FnExactValidReceiver.o [] x = L.FnExactValidReceiver x := by kernel_rfl
theorem L.FnExactValidReceiver.oo : OrcOK Try.prog L.FnExactValidReceiver.o := (orc_cons L.szReceiver.ok (orc_cons S.ValidReceiver.ok (orc_cons L.toReceiver.ok (orc_cons I.ValidReceiver.ok (orc_cons L.eqReceiver.ok orc_nil)))))
theorem L.FnExactValidReceiver.ok : SpecOK Try.prog 6 L.FnExactValidReceiver.spec :=
  func_ok (f := Try.f6) (fa := L.FnExactValidReceiver.fa) (fr := L.FnExactValidReceiver.fr) (spec := L.FnExactValidReceiver) (np := 1) (L := ([] : List (Nat × LoopO (DenF L.FnExactValidReceiver.fr × DenB L.FnExactValidReceiver.fa)))) mixed ty_ok L.FnExactValidReceiver.oo (by kernel_rfl) (by kernel_rfl) (by kernel_rfl) (by kernel_rfl) (loops_of (bs := []) (by kernel_rfl) trivial) (L.FnExactValidReceiver.q)
end Go.Ev

