/- A text of the claim, printed by a program: functions that the law reaches, as Lean functions, and that they are so. -/
import Derived.Test.YtkkjheildoclgaaYF
set_option linter.all false
set_option linter.unusedVariables false
set_option linter.unusedSimpArgs false
set_option autoImplicit false
set_option maxRecDepth 100000
set_option linter.unusedVariables false
namespace Go.Ev
/-! loop.example/s01316/laws.szPacket -/
def L.szPacket.fa : Fm := (.cons (.agg (.cons (.int .i64) (.cons (.int .i64) (.cons (.int .i64) (.cons (.int .i64) (.cons .bool (.cons (.sl 5 (.int .u8)) .nil))))))) (.cons (.int .i64) .nil))
def L.szPacket.fr : Fm := (.int .i64)
abbrev L.szPacket.A := (Int × Int × Int × Int × Bool × (List Int) × Unit) × Int × Unit
abbrev L.szPacket.R := Int × ((Unit × Unit × Unit × Unit × Unit × Unit × Unit) × Unit × Unit)
def L.szPacket.o : Orc := [(74, L.szByteS.spec)]
def L.szPacket (x : L.szPacket.A) : Option L.szPacket.R :=
  (L.szByteS (x.1.2.2.2.2.2.1, x.2.1, ())).bind fun r1 =>
  bif decide (r1.1 < 0) then some (-1, (((), (), (), (), (), (), ()), (), ())) else
  some (r1.1, (((), (), (), (), (), (), ()), (), ()))

def L.szPacket.spec : Spec := ⟨L.szPacket.fa, L.szPacket.fr, L.szPacket⟩

/-! loop.example/s01316/laws.szPacketS -/
def L.szPacketS.fa : Fm := (.cons (.sl 67 c55) (.cons (.int .i64) .nil))
def L.szPacketS.fr : Fm := (.int .i64)
abbrev L.szPacketS.A := (List DPacket) × Int × Unit
abbrev L.szPacketS.R := Int × (Unit × Unit × Unit)
def L.szPacketS.o : Orc := [(37, L.szPacket.spec)]
def L.szPacketS.h5 : Fm := (.cons (.sl 67 c55) (.cons (.int .i64) (.cons (.int .i64) .nil)))
def L.szPacketS.e5 : Fm := (.cons (.int .i64) .nil)
abbrev L.szPacketS.H5 := (List DPacket) × Int × Int × Unit
abbrev L.szPacketS.E5 := Int × Unit
def L.szPacketS.st5 (Rc : L.szPacketS.H5 → Option L.szPacketS.R) (X : Nat → L.szPacketS.E5 → Option L.szPacketS.R) (x : L.szPacketS.H5) : Option L.szPacketS.R :=
  bif decide (x.2.2.1 < (List.length x.1 : Int)) then
    ck (decide (0 ≤ x.2.2.1) && decide (x.2.2.1 < (List.length x.1 : Int))) <|
    (L.szPacket (((x.1.getD (Int.toNat x.2.2.1) zPacket).1, (x.1.getD (Int.toNat x.2.2.1) zPacket).2.1, (x.1.getD (Int.toNat x.2.2.1) zPacket).2.2.1, (x.1.getD (Int.toNat x.2.2.1) zPacket).2.2.2.1, (x.1.getD (Int.toNat x.2.2.1) zPacket).2.2.2.2.1, (x.1.getD (Int.toNat x.2.2.1) zPacket).2.2.2.2.2.1, ()), x.2.1, ())).bind fun r1 =>
    bif decide (r1.1 < 0) then some (-1, ((), (), ())) else
    Rc (x.1, r1.1, (wr .i64 (x.2.2.1 + 1)), ())
  else
  X 0 (x.2.1, ())

def L.szPacketS.l5 (x : L.szPacketS.H5) (X : Nat → L.szPacketS.E5 → Option L.szPacketS.R) : Option L.szPacketS.R := rounds (L.szPacketS.st5) big X x
def L.szPacketS.lo5 : LoopO (DenF L.szPacketS.fr × DenB L.szPacketS.fa) := ⟨[0, 1, 5], L.szPacketS.h5, [1], L.szPacketS.e5, L.szPacketS.l5⟩
def L.szPacketS.p (l5 : L.szPacketS.H5 → (Nat → L.szPacketS.E5 → Option L.szPacketS.R) → Option L.szPacketS.R) (x : L.szPacketS.A) : Option L.szPacketS.R :=
  let v1 : Int := wr .i64 (x.2.1 - (List.length x.1 : Int))
  bif decide (v1 < 0) then some (-1, ((), (), ())) else
  l5 (x.1, v1, 0, ()) (fun i5 y5 =>
    bif Nat.beq i5 0 then some (y5.1, ((), (), ())) else
    none)

def L.szPacketS (x : L.szPacketS.A) : Option L.szPacketS.R := L.szPacketS.p L.szPacketS.l5 x
def L.szPacketS.spec : Spec := ⟨L.szPacketS.fa, L.szPacketS.fr, L.szPacketS⟩

/-! loop.example/s01316/laws.szLinkIn -/
def L.szLinkIn.fa : Fm := (.cons (.agg (.cons (.int .i64) (.cons (.int .i64) (.cons (.sl 67 c55) (.cons (.sl 5 (.int .u8)) .nil))))) (.cons (.int .i64) .nil))
def L.szLinkIn.fr : Fm := (.int .i64)
abbrev L.szLinkIn.A := (Int × Int × (List DPacket) × (List Int) × Unit) × Int × Unit
abbrev L.szLinkIn.R := Int × ((Unit × Unit × Unit × Unit × Unit) × Unit × Unit)
def L.szLinkIn.o : Orc := [(74, L.szByteS.spec), (115, L.szPacketS.spec)]
def L.szLinkIn (x : L.szLinkIn.A) : Option L.szLinkIn.R :=
  (L.szPacketS (x.1.2.2.1, x.2.1, ())).bind fun r1 =>
  bif decide (r1.1 < 0) then some (-1, (((), (), (), (), ()), (), ())) else
  (L.szByteS (x.1.2.2.2.1, r1.1, ())).bind fun r2 =>
  bif decide (r2.1 < 0) then some (-1, (((), (), (), (), ()), (), ())) else
  some (r2.1, (((), (), (), (), ()), (), ()))

def L.szLinkIn.spec : Spec := ⟨L.szLinkIn.fa, L.szLinkIn.fr, L.szLinkIn⟩

/-! loop.example/s01316/laws.szFieldS -/
def L.szFieldS.fa : Fm := (.cons (.sl 24 c23) (.cons (.int .i64) .nil))
def L.szFieldS.fr : Fm := (.int .i64)
abbrev L.szFieldS.A := (List DField) × Int × Unit
abbrev L.szFieldS.R := Int × (Unit × Unit × Unit)
def L.szFieldS.o : Orc := [(12, L.szField.spec)]
def L.szFieldS.h5 : Fm := (.cons (.sl 24 c23) (.cons (.int .i64) (.cons (.int .i64) .nil)))
def L.szFieldS.e5 : Fm := (.cons (.int .i64) .nil)
abbrev L.szFieldS.H5 := (List DField) × Int × Int × Unit
abbrev L.szFieldS.E5 := Int × Unit
def L.szFieldS.st5 (Rc : L.szFieldS.H5 → Option L.szFieldS.R) (X : Nat → L.szFieldS.E5 → Option L.szFieldS.R) (x : L.szFieldS.H5) : Option L.szFieldS.R :=
  bif decide (x.2.2.1 < (List.length x.1 : Int)) then
    ck (decide (0 ≤ x.2.2.1) && decide (x.2.2.1 < (List.length x.1 : Int))) <|
    (L.szField (((x.1.getD (Int.toNat x.2.2.1) zField).1, (x.1.getD (Int.toNat x.2.2.1) zField).2.1, (x.1.getD (Int.toNat x.2.2.1) zField).2.2.1, ()), x.2.1, ())).bind fun r1 =>
    bif decide (r1.1 < 0) then some (-1, ((), (), ())) else
    Rc (x.1, r1.1, (wr .i64 (x.2.2.1 + 1)), ())
  else
  X 0 (x.2.1, ())

def L.szFieldS.l5 (x : L.szFieldS.H5) (X : Nat → L.szFieldS.E5 → Option L.szFieldS.R) : Option L.szFieldS.R := rounds (L.szFieldS.st5) big X x
def L.szFieldS.lo5 : LoopO (DenF L.szFieldS.fr × DenB L.szFieldS.fa) := ⟨[0, 1, 5], L.szFieldS.h5, [1], L.szFieldS.e5, L.szFieldS.l5⟩
def L.szFieldS.p (l5 : L.szFieldS.H5 → (Nat → L.szFieldS.E5 → Option L.szFieldS.R) → Option L.szFieldS.R) (x : L.szFieldS.A) : Option L.szFieldS.R :=
  let v1 : Int := wr .i64 (x.2.1 - (List.length x.1 : Int))
  bif decide (v1 < 0) then some (-1, ((), (), ())) else
  l5 (x.1, v1, 0, ()) (fun i5 y5 =>
    bif Nat.beq i5 0 then some (y5.1, ((), (), ())) else
    none)

def L.szFieldS (x : L.szFieldS.A) : Option L.szFieldS.R := L.szFieldS.p L.szFieldS.l5 x
def L.szFieldS.spec : Spec := ⟨L.szFieldS.fa, L.szFieldS.fr, L.szFieldS⟩

/-! loop.example/s01316/laws.szByteSSS -/
def L.szByteSSS.fa : Fm := (.cons (.sl 26 (.sl 22 (.sl 5 (.int .u8)))) (.cons (.int .i64) .nil))
def L.szByteSSS.fr : Fm := (.int .i64)
abbrev L.szByteSSS.A := (List (List (List Int))) × Int × Unit
abbrev L.szByteSSS.R := Int × (Unit × Unit × Unit)
def L.szByteSSS.o : Orc := [(14, L.szByteSS.spec)]
def L.szByteSSS.h5 : Fm := (.cons (.sl 26 (.sl 22 (.sl 5 (.int .u8)))) (.cons (.int .i64) (.cons (.int .i64) .nil)))
def L.szByteSSS.e5 : Fm := (.cons (.int .i64) .nil)
abbrev L.szByteSSS.H5 := (List (List (List Int))) × Int × Int × Unit
abbrev L.szByteSSS.E5 := Int × Unit
def L.szByteSSS.st5 (Rc : L.szByteSSS.H5 → Option L.szByteSSS.R) (X : Nat → L.szByteSSS.E5 → Option L.szByteSSS.R) (x : L.szByteSSS.H5) : Option L.szByteSSS.R :=
  bif decide (x.2.2.1 < (List.length x.1 : Int)) then
    ck (decide (0 ≤ x.2.2.1) && decide (x.2.2.1 < (List.length x.1 : Int))) <|
    (L.szByteSS ((x.1.getD (Int.toNat x.2.2.1) []), x.2.1, ())).bind fun r1 =>
    bif decide (r1.1 < 0) then some (-1, ((), (), ())) else
    Rc (x.1, r1.1, (wr .i64 (x.2.2.1 + 1)), ())
  else
  X 0 (x.2.1, ())

def L.szByteSSS.l5 (x : L.szByteSSS.H5) (X : Nat → L.szByteSSS.E5 → Option L.szByteSSS.R) : Option L.szByteSSS.R := rounds (L.szByteSSS.st5) big X x
def L.szByteSSS.lo5 : LoopO (DenF L.szByteSSS.fr × DenB L.szByteSSS.fa) := ⟨[0, 1, 5], L.szByteSSS.h5, [1], L.szByteSSS.e5, L.szByteSSS.l5⟩
def L.szByteSSS.p (l5 : L.szByteSSS.H5 → (Nat → L.szByteSSS.E5 → Option L.szByteSSS.R) → Option L.szByteSSS.R) (x : L.szByteSSS.A) : Option L.szByteSSS.R :=
  let v1 : Int := wr .i64 (x.2.1 - (List.length x.1 : Int))
  bif decide (v1 < 0) then some (-1, ((), (), ())) else
  l5 (x.1, v1, 0, ()) (fun i5 y5 =>
    bif Nat.beq i5 0 then some (y5.1, ((), (), ())) else
    none)

def L.szByteSSS (x : L.szByteSSS.A) : Option L.szByteSSS.R := L.szByteSSS.p L.szByteSSS.l5 x
def L.szByteSSS.spec : Spec := ⟨L.szByteSSS.fa, L.szByteSSS.fr, L.szByteSSS⟩

/-! loop.example/s01316/laws.szStream -/
def L.szStream.fa : Fm := (.cons (.agg (.cons .bool (.cons (.sl 24 c23) (.cons (.int .i64) (.cons (.sl 26 (.sl 22 (.sl 5 (.int .u8)))) .nil))))) (.cons (.int .i64) .nil))
def L.szStream.fr : Fm := (.int .i64)
abbrev L.szStream.A := (Bool × (List DField) × Int × (List (List (List Int))) × Unit) × Int × Unit
abbrev L.szStream.R := Int × ((Unit × Unit × Unit × Unit × Unit) × Unit × Unit)
def L.szStream.o : Orc := [(56, L.szFieldS.spec), (188, L.szByteSSS.spec)]
def L.szStream (x : L.szStream.A) : Option L.szStream.R :=
  (L.szFieldS (x.1.2.1, x.2.1, ())).bind fun r1 =>
  bif decide (r1.1 < 0) then some (-1, (((), (), (), (), ()), (), ())) else
  (L.szByteSSS (x.1.2.2.2.1, r1.1, ())).bind fun r2 =>
  bif decide (r2.1 < 0) then some (-1, (((), (), (), (), ()), (), ())) else
  some (r2.1, (((), (), (), (), ()), (), ()))

def L.szStream.spec : Spec := ⟨L.szStream.fa, L.szStream.fr, L.szStream⟩

/-! loop.example/s01316/laws.szTable -/
def L.szTable.fa : Fm := (.cons (.agg (.cons (.int .i64) (.cons (.sl 131 c131) .nil))) (.cons (.int .i64) .nil))
def L.szTable.fr : Fm := (.int .i64)
abbrev L.szTable.A := (Int × (List DCell) × Unit) × Int × Unit
abbrev L.szTable.R := Int × ((Unit × Unit × Unit) × Unit × Unit)
def L.szTable.o : Orc := [(13, L.szCellS.spec)]
def L.szTable (x : L.szTable.A) : Option L.szTable.R :=
  (L.szCellS (x.1.2.1, x.2.1, ())).bind fun r1 =>
  bif decide (r1.1 < 0) then some (-1, (((), (), ()), (), ())) else
  some (r1.1, (((), (), ()), (), ()))

def L.szTable.spec : Spec := ⟨L.szTable.fa, L.szTable.fr, L.szTable⟩

/-! loop.example/s01316/laws.szTableS -/
def L.szTableS.fa : Fm := (.cons (.sl 244 c244) (.cons (.int .i64) .nil))
def L.szTableS.fr : Fm := (.int .i64)
abbrev L.szTableS.A := (List DTable) × Int × Unit
abbrev L.szTableS.R := Int × (Unit × Unit × Unit)
def L.szTableS.o : Orc := [(189, L.szTable.spec)]
def L.szTableS.h5 : Fm := (.cons (.sl 244 c244) (.cons (.int .i64) (.cons (.int .i64) .nil)))
def L.szTableS.e5 : Fm := (.cons (.int .i64) .nil)
abbrev L.szTableS.H5 := (List DTable) × Int × Int × Unit
abbrev L.szTableS.E5 := Int × Unit
def L.szTableS.st5 (Rc : L.szTableS.H5 → Option L.szTableS.R) (X : Nat → L.szTableS.E5 → Option L.szTableS.R) (x : L.szTableS.H5) : Option L.szTableS.R :=
  bif decide (x.2.2.1 < (List.length x.1 : Int)) then
    ck (decide (0 ≤ x.2.2.1) && decide (x.2.2.1 < (List.length x.1 : Int))) <|
    (L.szTable (((x.1.getD (Int.toNat x.2.2.1) zTable).1, (x.1.getD (Int.toNat x.2.2.1) zTable).2.1, ()), x.2.1, ())).bind fun r1 =>
    bif decide (r1.1 < 0) then some (-1, ((), (), ())) else
    Rc (x.1, r1.1, (wr .i64 (x.2.2.1 + 1)), ())
  else
  X 0 (x.2.1, ())

def L.szTableS.l5 (x : L.szTableS.H5) (X : Nat → L.szTableS.E5 → Option L.szTableS.R) : Option L.szTableS.R := rounds (L.szTableS.st5) big X x
def L.szTableS.lo5 : LoopO (DenF L.szTableS.fr × DenB L.szTableS.fa) := ⟨[0, 1, 5], L.szTableS.h5, [1], L.szTableS.e5, L.szTableS.l5⟩
def L.szTableS.p (l5 : L.szTableS.H5 → (Nat → L.szTableS.E5 → Option L.szTableS.R) → Option L.szTableS.R) (x : L.szTableS.A) : Option L.szTableS.R :=
  let v1 : Int := wr .i64 (x.2.1 - (List.length x.1 : Int))
  bif decide (v1 < 0) then some (-1, ((), (), ())) else
  l5 (x.1, v1, 0, ()) (fun i5 y5 =>
    bif Nat.beq i5 0 then some (y5.1, ((), (), ())) else
    none)

def L.szTableS (x : L.szTableS.A) : Option L.szTableS.R := L.szTableS.p L.szTableS.l5 x
def L.szTableS.spec : Spec := ⟨L.szTableS.fa, L.szTableS.fr, L.szTableS⟩

/-! loop.example/s01316/laws.szReceiver -/
def L.szReceiver.fa : Fm := (.cons (.agg (.cons (.int .i64) (.cons (.int .i64) (.cons .bool (.cons (.int .i64) (.cons (.int .i64) (.cons (.sl 67 c55) (.cons (.sl 5 (.int .u8)) (.cons .bool (.cons (.sl 24 c23) (.cons (.int .i64) (.cons (.sl 26 (.sl 22 (.sl 5 (.int .u8)))) (.cons (.sl 244 c244) (.cons (.int .i64) .nil)))))))))))))) (.cons (.int .i64) .nil))
def L.szReceiver.fr : Fm := (.int .i64)
abbrev L.szReceiver.A := (Int × Int × Bool × Int × Int × (List DPacket) × (List Int) × Bool × (List DField) × Int × (List (List (List Int))) × (List DTable) × Int × Unit) × Int × Unit
abbrev L.szReceiver.R := Int × ((Unit × Unit × Unit × Unit × Unit × Unit × Unit × Unit × Unit × Unit × Unit × Unit × Unit × Unit) × Unit × Unit)
def L.szReceiver.o : Orc := [(36, L.szLinkIn.spec), (123, L.szStream.spec), (124, L.szTableS.spec)]
def L.szReceiver (x : L.szReceiver.A) : Option L.szReceiver.R :=
  (L.szLinkIn ((x.1.2.2.2.1, x.1.2.2.2.2.1, x.1.2.2.2.2.2.1, x.1.2.2.2.2.2.2.1, ()), x.2.1, ())).bind fun r1 =>
  bif decide (r1.1 < 0) then
    some (-1, (((), (), (), (), (), (), (), (), (), (), (), (), (), ()), (), ()))
  else
  (L.szStream ((x.1.2.2.2.2.2.2.2.1, x.1.2.2.2.2.2.2.2.2.1, x.1.2.2.2.2.2.2.2.2.2.1, x.1.2.2.2.2.2.2.2.2.2.2.1, ()), r1.1, ())).bind fun r2 =>
  bif decide (r2.1 < 0) then
    some (-1, (((), (), (), (), (), (), (), (), (), (), (), (), (), ()), (), ()))
  else
  (L.szTableS (x.1.2.2.2.2.2.2.2.2.2.2.2.1, r2.1, ())).bind fun r3 =>
  bif decide (r3.1 < 0) then
    some (-1, (((), (), (), (), (), (), (), (), (), (), (), (), (), ()), (), ()))
  else
  some (r3.1, (((), (), (), (), (), (), (), (), (), (), (), (), (), ()), (), ()))

def L.szReceiver.spec : Spec := ⟨L.szReceiver.fa, L.szReceiver.fr, L.szReceiver⟩

/-! loop.example/s01316/laws.toPacket -/
def L.toPacket.fa : Fm := (.cons (.agg (.cons (.int .i64) (.cons (.int .i64) (.cons (.int .i64) (.cons (.int .i64) (.cons .bool (.cons (.sl 5 (.int .u8)) .nil))))))) .nil)
def L.toPacket.fr : Fm := (.agg (.cons (.int .i64) (.cons (.int .i64) (.cons (.int .i64) (.cons (.int .i64) (.cons .bool (.cons (.own 5 (.int .u8) true) .nil)))))))
abbrev L.toPacket.A := (Int × Int × Int × Int × Bool × (List Int) × Unit) × Unit
abbrev L.toPacket.R := (Int × Int × Int × Int × Bool × (List Int) × Unit) × ((Unit × Unit × Unit × Unit × Unit × Unit × Unit) × Unit)
def L.toPacket.o : Orc := [(83, L.toByteS.spec)]
def L.toPacket (x : L.toPacket.A) : Option L.toPacket.R :=
  (L.toByteS (x.1.2.2.2.2.2.1, ())).bind fun r1 =>
  some ((x.1.1, x.1.2.1, x.1.2.2.1, x.1.2.2.2.1, x.1.2.2.2.2.1, r1.1, ()), (((), (), (), (), (), (), ()), ()))

def L.toPacket.spec : Spec := ⟨L.toPacket.fa, L.toPacket.fr, L.toPacket⟩

/-! loop.example/s01316/laws.toPacketS -/
def L.toPacketS.fa : Fm := (.cons (.sl 67 c55) .nil)
def L.toPacketS.fr : Fm := (.own 55 c55 true)
abbrev L.toPacketS.A := (List DPacket) × Unit
abbrev L.toPacketS.R := (List DPacket) × (Unit × Unit)
def L.toPacketS.o : Orc := [(40, L.toPacket.spec)]
def L.toPacketS.h3 : Fm := (.cons (.sl 67 c55) (.cons (.own 55 c55 true) (.cons (.int .i64) .nil)))
def L.toPacketS.e3 : Fm := (.cons (.own 55 c55 true) .nil)
abbrev L.toPacketS.H3 := (List DPacket) × (List DPacket) × Int × Unit
abbrev L.toPacketS.E3 := (List DPacket) × Unit
def L.toPacketS.st3 (Rc : L.toPacketS.H3 → Option L.toPacketS.R) (X : Nat → L.toPacketS.E3 → Option L.toPacketS.R) (x : L.toPacketS.H3) : Option L.toPacketS.R :=
  bif decide (x.2.2.1 < (List.length x.1 : Int)) then
    ck (decide (0 ≤ x.2.2.1) && decide (x.2.2.1 < (List.length x.1 : Int))) <|
    (L.toPacket (((x.1.getD (Int.toNat x.2.2.1) zPacket).1, (x.1.getD (Int.toNat x.2.2.1) zPacket).2.1, (x.1.getD (Int.toNat x.2.2.1) zPacket).2.2.1, (x.1.getD (Int.toNat x.2.2.1) zPacket).2.2.2.1, (x.1.getD (Int.toNat x.2.2.1) zPacket).2.2.2.2.1, (x.1.getD (Int.toNat x.2.2.1) zPacket).2.2.2.2.2.1, ()), ())).bind fun r1 =>
    ck (decide (0 ≤ x.2.2.1) && decide (x.2.2.1 < (List.length x.2.1 : Int))) <|
    let v2 : List DPacket := x.2.1.set (Int.toNat x.2.2.1) (r1.1.1, (r1.1.2.1, (r1.1.2.2.1, (r1.1.2.2.2.1, (r1.1.2.2.2.2.1, (r1.1.2.2.2.2.2.1, (x.2.1.getD (Int.toNat x.2.2.1) zPacket).2.2.2.2.2.2))))))
    Rc (x.1, v2, (wr .i64 (x.2.2.1 + 1)), ())
  else
  X 0 (x.2.1, ())

def L.toPacketS.l3 (x : L.toPacketS.H3) (X : Nat → L.toPacketS.E3 → Option L.toPacketS.R) : Option L.toPacketS.R := rounds (L.toPacketS.st3) big X x
def L.toPacketS.lo3 : LoopO (DenF L.toPacketS.fr × DenB L.toPacketS.fa) := ⟨[0, 3, 4], L.toPacketS.h3, [3], L.toPacketS.e3, L.toPacketS.l3⟩
def L.toPacketS.p (l3 : L.toPacketS.H3 → (Nat → L.toPacketS.E3 → Option L.toPacketS.R) → Option L.toPacketS.R) (x : L.toPacketS.A) : Option L.toPacketS.R :=
  ck ((decide (0 ≤ (List.length x.1 : Int)) && (decide ((List.length x.1 : Int) ≤ (List.length x.1 : Int)) && decide ((List.length x.1 : Int) * 64 ≤ 281474976710656))) && (Nat.blt 0 64 && Nat.blt 0 6)) <|
  l3 (x.1, (List.replicate (Int.toNat (List.length x.1 : Int)) zPacket : List DPacket), 0, ()) (fun i3 y3 =>
    bif Nat.beq i3 0 then some (y3.1, ((), ())) else
    none)

def L.toPacketS (x : L.toPacketS.A) : Option L.toPacketS.R := L.toPacketS.p L.toPacketS.l3 x
def L.toPacketS.spec : Spec := ⟨L.toPacketS.fa, L.toPacketS.fr, L.toPacketS⟩

/-! loop.example/s01316/laws.toLinkIn -/
def L.toLinkIn.fa : Fm := (.cons (.agg (.cons (.int .i64) (.cons (.int .i64) (.cons (.sl 67 c55) (.cons (.sl 5 (.int .u8)) .nil))))) .nil)
def L.toLinkIn.fr : Fm := (.agg (.cons (.int .i64) (.cons (.int .i64) (.cons (.own 55 c55 true) (.cons (.own 5 (.int .u8) true) .nil)))))
abbrev L.toLinkIn.A := (Int × Int × (List DPacket) × (List Int) × Unit) × Unit
abbrev L.toLinkIn.R := (Int × Int × (List DPacket) × (List Int) × Unit) × ((Unit × Unit × Unit × Unit × Unit) × Unit)
def L.toLinkIn.o : Orc := [(83, L.toByteS.spec), (119, L.toPacketS.spec)]
def L.toLinkIn (x : L.toLinkIn.A) : Option L.toLinkIn.R :=
  (L.toPacketS (x.1.2.2.1, ())).bind fun r1 =>
  (L.toByteS (x.1.2.2.2.1, ())).bind fun r2 =>
  some ((x.1.1, x.1.2.1, r1.1, r2.1, ()), (((), (), (), (), ()), ()))

def L.toLinkIn.spec : Spec := ⟨L.toLinkIn.fa, L.toLinkIn.fr, L.toLinkIn⟩

/-! loop.example/s01316/laws.toFieldS -/
def L.toFieldS.fa : Fm := (.cons (.sl 24 c23) .nil)
def L.toFieldS.fr : Fm := (.own 32 c23 true)
abbrev L.toFieldS.A := (List DField) × Unit
abbrev L.toFieldS.R := (List DField) × (Unit × Unit)
def L.toFieldS.o : Orc := [(16, L.toField.spec)]
def L.toFieldS.h3 : Fm := (.cons (.sl 24 c23) (.cons (.own 32 c23 true) (.cons (.int .i64) .nil)))
def L.toFieldS.e3 : Fm := (.cons (.own 32 c23 true) .nil)
abbrev L.toFieldS.H3 := (List DField) × (List DField) × Int × Unit
abbrev L.toFieldS.E3 := (List DField) × Unit
def L.toFieldS.st3 (Rc : L.toFieldS.H3 → Option L.toFieldS.R) (X : Nat → L.toFieldS.E3 → Option L.toFieldS.R) (x : L.toFieldS.H3) : Option L.toFieldS.R :=
  bif decide (x.2.2.1 < (List.length x.1 : Int)) then
    ck (decide (0 ≤ x.2.2.1) && decide (x.2.2.1 < (List.length x.1 : Int))) <|
    (L.toField (((x.1.getD (Int.toNat x.2.2.1) zField).1, (x.1.getD (Int.toNat x.2.2.1) zField).2.1, (x.1.getD (Int.toNat x.2.2.1) zField).2.2.1, ()), ())).bind fun r1 =>
    ck (decide (0 ≤ x.2.2.1) && decide (x.2.2.1 < (List.length x.2.1 : Int))) <|
    let v2 : List DField := x.2.1.set (Int.toNat x.2.2.1) (r1.1.1, (r1.1.2.1, (r1.1.2.2.1, (x.2.1.getD (Int.toNat x.2.2.1) zField).2.2.2)))
    Rc (x.1, v2, (wr .i64 (x.2.2.1 + 1)), ())
  else
  X 0 (x.2.1, ())

def L.toFieldS.l3 (x : L.toFieldS.H3) (X : Nat → L.toFieldS.E3 → Option L.toFieldS.R) : Option L.toFieldS.R := rounds (L.toFieldS.st3) big X x
def L.toFieldS.lo3 : LoopO (DenF L.toFieldS.fr × DenB L.toFieldS.fa) := ⟨[0, 3, 4], L.toFieldS.h3, [3], L.toFieldS.e3, L.toFieldS.l3⟩
def L.toFieldS.p (l3 : L.toFieldS.H3 → (Nat → L.toFieldS.E3 → Option L.toFieldS.R) → Option L.toFieldS.R) (x : L.toFieldS.A) : Option L.toFieldS.R :=
  ck ((decide (0 ≤ (List.length x.1 : Int)) && (decide ((List.length x.1 : Int) ≤ (List.length x.1 : Int)) && decide ((List.length x.1 : Int) * 40 ≤ 281474976710656))) && (Nat.blt 0 40 && Nat.blt 0 3)) <|
  l3 (x.1, (List.replicate (Int.toNat (List.length x.1 : Int)) zField : List DField), 0, ()) (fun i3 y3 =>
    bif Nat.beq i3 0 then some (y3.1, ((), ())) else
    none)

def L.toFieldS (x : L.toFieldS.A) : Option L.toFieldS.R := L.toFieldS.p L.toFieldS.l3 x
def L.toFieldS.spec : Spec := ⟨L.toFieldS.fa, L.toFieldS.fr, L.toFieldS⟩

/-! loop.example/s01316/laws.toByteSSS -/
def L.toByteSSS.fa : Fm := (.cons (.sl 26 (.sl 22 (.sl 5 (.int .u8)))) .nil)
def L.toByteSSS.fr : Fm := (.own 26 (.sl 22 (.sl 5 (.int .u8))) true)
abbrev L.toByteSSS.A := (List (List (List Int))) × Unit
abbrev L.toByteSSS.R := (List (List (List Int))) × (Unit × Unit)
def L.toByteSSS.o : Orc := [(18, L.toByteSS.spec)]
def L.toByteSSS.h3 : Fm := (.cons (.sl 26 (.sl 22 (.sl 5 (.int .u8)))) (.cons (.own 26 (.sl 22 (.sl 5 (.int .u8))) true) (.cons (.int .i64) .nil)))
def L.toByteSSS.e3 : Fm := (.cons (.own 26 (.sl 22 (.sl 5 (.int .u8))) true) .nil)
abbrev L.toByteSSS.H3 := (List (List (List Int))) × (List (List (List Int))) × Int × Unit
abbrev L.toByteSSS.E3 := (List (List (List Int))) × Unit
def L.toByteSSS.st3 (Rc : L.toByteSSS.H3 → Option L.toByteSSS.R) (X : Nat → L.toByteSSS.E3 → Option L.toByteSSS.R) (x : L.toByteSSS.H3) : Option L.toByteSSS.R :=
  bif decide (x.2.2.1 < (List.length x.1 : Int)) then
    ck (decide (0 ≤ x.2.2.1) && decide (x.2.2.1 < (List.length x.1 : Int))) <|
    (L.toByteSS ((x.1.getD (Int.toNat x.2.2.1) []), ())).bind fun r1 =>
    ck (decide (0 ≤ x.2.2.1) && decide (x.2.2.1 < (List.length x.2.1 : Int))) <|
    let v2 : List (List (List Int)) := x.2.1.set (Int.toNat x.2.2.1) r1.1
    Rc (x.1, v2, (wr .i64 (x.2.2.1 + 1)), ())
  else
  X 0 (x.2.1, ())

def L.toByteSSS.l3 (x : L.toByteSSS.H3) (X : Nat → L.toByteSSS.E3 → Option L.toByteSSS.R) : Option L.toByteSSS.R := rounds (L.toByteSSS.st3) big X x
def L.toByteSSS.lo3 : LoopO (DenF L.toByteSSS.fr × DenB L.toByteSSS.fa) := ⟨[0, 3, 4], L.toByteSSS.h3, [3], L.toByteSSS.e3, L.toByteSSS.l3⟩
def L.toByteSSS.p (l3 : L.toByteSSS.H3 → (Nat → L.toByteSSS.E3 → Option L.toByteSSS.R) → Option L.toByteSSS.R) (x : L.toByteSSS.A) : Option L.toByteSSS.R :=
  ck ((decide (0 ≤ (List.length x.1 : Int)) && (decide ((List.length x.1 : Int) ≤ (List.length x.1 : Int)) && decide ((List.length x.1 : Int) * 24 ≤ 281474976710656))) && (Nat.blt 0 24 && Nat.blt 0 1)) <|
  l3 (x.1, (List.replicate (Int.toNat (List.length x.1 : Int)) [] : List (List (List Int))), 0, ()) (fun i3 y3 =>
    bif Nat.beq i3 0 then some (y3.1, ((), ())) else
    none)

def L.toByteSSS (x : L.toByteSSS.A) : Option L.toByteSSS.R := L.toByteSSS.p L.toByteSSS.l3 x
def L.toByteSSS.spec : Spec := ⟨L.toByteSSS.fa, L.toByteSSS.fr, L.toByteSSS⟩

/-! loop.example/s01316/laws.toStream -/
def L.toStream.fa : Fm := (.cons (.agg (.cons .bool (.cons (.sl 24 c23) (.cons (.int .i64) (.cons (.sl 26 (.sl 22 (.sl 5 (.int .u8)))) .nil))))) .nil)
def L.toStream.fr : Fm := (.agg (.cons .bool (.cons (.own 32 c23 true) (.cons (.int .i64) (.cons (.own 26 (.sl 22 (.sl 5 (.int .u8))) true) .nil)))))
abbrev L.toStream.A := (Bool × (List DField) × Int × (List (List (List Int))) × Unit) × Unit
abbrev L.toStream.R := (Bool × (List DField) × Int × (List (List (List Int))) × Unit) × ((Unit × Unit × Unit × Unit × Unit) × Unit)
def L.toStream.o : Orc := [(58, L.toFieldS.spec), (190, L.toByteSSS.spec)]
def L.toStream (x : L.toStream.A) : Option L.toStream.R :=
  (L.toFieldS (x.1.2.1, ())).bind fun r1 =>
  (L.toByteSSS (x.1.2.2.2.1, ())).bind fun r2 =>
  some ((x.1.1, r1.1, x.1.2.2.1, r2.1, ()), (((), (), (), (), ()), ()))

def L.toStream.spec : Spec := ⟨L.toStream.fa, L.toStream.fr, L.toStream⟩

/-! loop.example/s01316/laws.toTable -/
def L.toTable.fa : Fm := (.cons (.agg (.cons (.int .i64) (.cons (.sl 131 c131) .nil))) .nil)
def L.toTable.fr : Fm := (.agg (.cons (.int .i64) (.cons (.own 137 c131 true) .nil)))
abbrev L.toTable.A := (Int × (List DCell) × Unit) × Unit
abbrev L.toTable.R := (Int × (List DCell) × Unit) × ((Unit × Unit × Unit) × Unit)
def L.toTable.o : Orc := [(17, L.toCellS.spec)]
def L.toTable (x : L.toTable.A) : Option L.toTable.R :=
  (L.toCellS (x.1.2.1, ())).bind fun r1 =>
  some ((x.1.1, r1.1, ()), (((), (), ()), ()))

def L.toTable.spec : Spec := ⟨L.toTable.fa, L.toTable.fr, L.toTable⟩

/-! loop.example/s01316/laws.toTableS -/
def L.toTableS.fa : Fm := (.cons (.sl 244 c244) .nil)
def L.toTableS.fr : Fm := (.own 186 c186 true)
abbrev L.toTableS.A := (List DTable) × Unit
abbrev L.toTableS.R := (List DTable) × (Unit × Unit)
def L.toTableS.o : Orc := [(191, L.toTable.spec)]
def L.toTableS.h3 : Fm := (.cons (.sl 244 c244) (.cons (.own 186 c186 true) (.cons (.int .i64) .nil)))
def L.toTableS.e3 : Fm := (.cons (.own 186 c186 true) .nil)
abbrev L.toTableS.H3 := (List DTable) × (List DTable) × Int × Unit
abbrev L.toTableS.E3 := (List DTable) × Unit
def L.toTableS.st3 (Rc : L.toTableS.H3 → Option L.toTableS.R) (X : Nat → L.toTableS.E3 → Option L.toTableS.R) (x : L.toTableS.H3) : Option L.toTableS.R :=
  bif decide (x.2.2.1 < (List.length x.1 : Int)) then
    ck (decide (0 ≤ x.2.2.1) && decide (x.2.2.1 < (List.length x.1 : Int))) <|
    (L.toTable (((x.1.getD (Int.toNat x.2.2.1) zTable).1, (x.1.getD (Int.toNat x.2.2.1) zTable).2.1, ()), ())).bind fun r1 =>
    ck (decide (0 ≤ x.2.2.1) && decide (x.2.2.1 < (List.length x.2.1 : Int))) <|
    let v2 : List DTable := x.2.1.set (Int.toNat x.2.2.1) (r1.1.1, (r1.1.2.1, (x.2.1.getD (Int.toNat x.2.2.1) zTable).2.2))
    Rc (x.1, v2, (wr .i64 (x.2.2.1 + 1)), ())
  else
  X 0 (x.2.1, ())

def L.toTableS.l3 (x : L.toTableS.H3) (X : Nat → L.toTableS.E3 → Option L.toTableS.R) : Option L.toTableS.R := rounds (L.toTableS.st3) big X x
def L.toTableS.lo3 : LoopO (DenF L.toTableS.fr × DenB L.toTableS.fa) := ⟨[0, 3, 4], L.toTableS.h3, [3], L.toTableS.e3, L.toTableS.l3⟩
def L.toTableS.p (l3 : L.toTableS.H3 → (Nat → L.toTableS.E3 → Option L.toTableS.R) → Option L.toTableS.R) (x : L.toTableS.A) : Option L.toTableS.R :=
  ck ((decide (0 ≤ (List.length x.1 : Int)) && (decide ((List.length x.1 : Int) ≤ (List.length x.1 : Int)) && decide ((List.length x.1 : Int) * 32 ≤ 281474976710656))) && (Nat.blt 0 32 && Nat.blt 0 2)) <|
  l3 (x.1, (List.replicate (Int.toNat (List.length x.1 : Int)) zTable : List DTable), 0, ()) (fun i3 y3 =>
    bif Nat.beq i3 0 then some (y3.1, ((), ())) else
    none)

def L.toTableS (x : L.toTableS.A) : Option L.toTableS.R := L.toTableS.p L.toTableS.l3 x
def L.toTableS.spec : Spec := ⟨L.toTableS.fa, L.toTableS.fr, L.toTableS⟩

/-! loop.example/s01316/laws.toReceiver -/
def L.toReceiver.fa : Fm := (.cons (.agg (.cons (.int .i64) (.cons (.int .i64) (.cons .bool (.cons (.int .i64) (.cons (.int .i64) (.cons (.sl 67 c55) (.cons (.sl 5 (.int .u8)) (.cons .bool (.cons (.sl 24 c23) (.cons (.int .i64) (.cons (.sl 26 (.sl 22 (.sl 5 (.int .u8)))) (.cons (.sl 244 c244) (.cons (.int .i64) .nil)))))))))))))) .nil)
def L.toReceiver.fr : Fm := (.agg (.cons (.int .i64) (.cons (.int .i64) (.cons .bool (.cons (.int .i64) (.cons (.int .i64) (.cons (.own 55 c55 true) (.cons (.own 5 (.int .u8) true) (.cons .bool (.cons (.own 32 c23 true) (.cons (.int .i64) (.cons (.own 26 (.sl 22 (.sl 5 (.int .u8))) true) (.cons (.own 186 c186 true) (.cons (.int .i64) .nil))))))))))))))
abbrev L.toReceiver.A := (Int × Int × Bool × Int × Int × (List DPacket) × (List Int) × Bool × (List DField) × Int × (List (List (List Int))) × (List DTable) × Int × Unit) × Unit
abbrev L.toReceiver.R := (Int × Int × Bool × Int × Int × (List DPacket) × (List Int) × Bool × (List DField) × Int × (List (List (List Int))) × (List DTable) × Int × Unit) × ((Unit × Unit × Unit × Unit × Unit × Unit × Unit × Unit × Unit × Unit × Unit × Unit × Unit × Unit) × Unit)
def L.toReceiver.o : Orc := [(39, L.toLinkIn.spec), (127, L.toStream.spec), (128, L.toTableS.spec)]
def L.toReceiver (x : L.toReceiver.A) : Option L.toReceiver.R :=
  (L.toLinkIn ((x.1.2.2.2.1, x.1.2.2.2.2.1, x.1.2.2.2.2.2.1, x.1.2.2.2.2.2.2.1, ()), ())).bind fun r1 =>
  (L.toStream ((x.1.2.2.2.2.2.2.2.1, x.1.2.2.2.2.2.2.2.2.1, x.1.2.2.2.2.2.2.2.2.2.1, x.1.2.2.2.2.2.2.2.2.2.2.1, ()), ())).bind fun r2 =>
  (L.toTableS (x.1.2.2.2.2.2.2.2.2.2.2.2.1, ())).bind fun r3 =>
  some ((x.1.1, x.1.2.1, x.1.2.2.1, r1.1.1, r1.1.2.1, r1.1.2.2.1, r1.1.2.2.2.1, r2.1.1, r2.1.2.1, r2.1.2.2.1, r2.1.2.2.2.1, r3.1, x.1.2.2.2.2.2.2.2.2.2.2.2.2.1, ()), (((), (), (), (), (), (), (), (), (), (), (), (), (), ()), ()))

def L.toReceiver.spec : Spec := ⟨L.toReceiver.fa, L.toReceiver.fr, L.toReceiver⟩

/-! loop.example/s01316/spec.l5valid -/
def S.l5valid.fa : Fm := (.cons (.agg (.cons (.int .i64) (.cons (.int .i64) (.cons (.int .i64) (.cons (.int .i64) (.cons .bool (.cons (.sl 5 (.int .u8)) .nil))))))) .nil)
def S.l5valid.fr : Fm := .bool
abbrev S.l5valid.A := (Int × Int × Int × Int × Bool × (List Int) × Unit) × Unit
abbrev S.l5valid.R := Bool × ((Unit × Unit × Unit × Unit × Unit × Unit × Unit) × Unit)
def S.l5valid.o : Orc := []
def S.l5valid (x : S.l5valid.A) : Option S.l5valid.R :=
  bif (decide (x.1.1 < 1)) == false then
    bif (decide (x.1.1 > 4)) == false then
      bif (decide (x.1.2.1 < 1)) == false then
        bif (decide (x.1.2.1 > 1000000000)) == false then
          bif (decide (x.1.2.2.1 < 0)) == false then
            bif (decide (x.1.2.2.1 > 1000000000000)) == false then
              bif (decide (x.1.2.2.2.1 < 0)) == false then
                bif decide (x.1.2.2.2.1 > 1000000000) then some (false, (((), (), (), (), (), (), ()), ())) else
                bif x.1.1 == 1 then
                  bif (x.1.2.2.2.1 == 0) == true then
                    bif (decide (x.1.2.2.1 < 1000000000000)) == true then
                      bif (decide ((List.length x.1.2.2.2.2.2.1 : Int) ≥ 1)) == true then
                        some (decide ((List.length x.1.2.2.2.2.2.1 : Int) ≤ 100), (((), (), (), (), (), (), ()), ()))
                      else
                      some (false, (((), (), (), (), (), (), ()), ()))
                    else
                    some (false, (((), (), (), (), (), (), ()), ()))
                  else
                  some (false, (((), (), (), (), (), (), ()), ()))
                else
                bif x.1.2.2.2.2.1 == false then
                  bif (List.length x.1.2.2.2.2.2.1 : Int) != 0 then some (false, (((), (), (), (), (), (), ()), ())) else
                  bif x.1.1 == 2 then some (true, (((), (), (), (), (), (), ()), ())) else
                  bif (x.1.2.2.1 == 0) == true then
                    bif (x.1.1 == 3) == false then
                      some (x.1.2.2.2.1 == 0, (((), (), (), (), (), (), ()), ()))
                    else
                    some (true, (((), (), (), (), (), (), ()), ()))
                  else
                  some (false, (((), (), (), (), (), (), ()), ()))
                else
                some (false, (((), (), (), (), (), (), ()), ()))
              else
              some (false, (((), (), (), (), (), (), ()), ()))
            else
            some (false, (((), (), (), (), (), (), ()), ()))
          else
          some (false, (((), (), (), (), (), (), ()), ()))
        else
        some (false, (((), (), (), (), (), (), ()), ()))
      else
      some (false, (((), (), (), (), (), (), ()), ()))
    else
    some (false, (((), (), (), (), (), (), ()), ()))
  else
  some (false, (((), (), (), (), (), (), ()), ()))

def S.l5valid.spec : Spec := ⟨S.l5valid.fa, S.l5valid.fr, S.l5valid⟩

/-! loop.example/s01316/spec.l5data -/
def S.l5data.fa : Fm := (.cons (.agg (.cons (.int .i64) (.cons (.int .i64) (.cons (.int .i64) (.cons (.int .i64) (.cons .bool (.cons (.sl 5 (.int .u8)) .nil))))))) (.cons (.int .i64) .nil))
def S.l5data.fr : Fm := .bool
abbrev S.l5data.A := (Int × Int × Int × Int × Bool × (List Int) × Unit) × Int × Unit
abbrev S.l5data.R := Bool × ((Unit × Unit × Unit × Unit × Unit × Unit × Unit) × Unit × Unit)
def S.l5data.o : Orc := [(112, S.l5valid.spec)]
def S.l5data (x : S.l5data.A) : Option S.l5data.R :=
  (S.l5valid ((x.1.1, x.1.2.1, x.1.2.2.1, x.1.2.2.2.1, x.1.2.2.2.2.1, x.1.2.2.2.2.2.1, ()), ())).bind fun r1 =>
  bif r1.1 == true then
    bif (x.1.1 == 1) == true then
      some (x.1.2.1 == x.2.1, (((), (), (), (), (), (), ()), (), ()))
    else
    some (false, (((), (), (), (), (), (), ()), (), ()))
  else
  some (false, (((), (), (), (), (), (), ()), (), ()))

def S.l5data.spec : Spec := ⟨S.l5data.fa, S.l5data.fr, S.l5data⟩

/-! loop.example/s01316/spec.ValidIn -/
def S.ValidIn.fa : Fm := (.cons (.agg (.cons (.int .i64) (.cons (.int .i64) (.cons (.sl 55 c55) (.cons (.sl 5 (.int .u8)) .nil))))) .nil)
def S.ValidIn.fr : Fm := .bool
abbrev S.ValidIn.A := (Int × Int × (List DPacket) × (List Int) × Unit) × Unit
abbrev S.ValidIn.R := Bool × ((Unit × Unit × Unit × Unit × Unit) × Unit)
def S.ValidIn.o : Orc := [(111, S.l5data.spec)]
def S.ValidIn.h4 : Fm := (.cons (.box (.cons (.int .i64) (.cons (.int .i64) (.cons (.sl 55 c55) (.cons (.sl 5 (.int .u8)) .nil))))) (.cons (.int .i64) .nil))
def S.ValidIn.e4 : Fm := .nil
abbrev S.ValidIn.H4 := (Int × Int × (List DPacket) × (List Int) × Unit) × Int × Unit
abbrev S.ValidIn.E4 := Unit
def S.ValidIn.st4 (Rc : S.ValidIn.H4 → Option S.ValidIn.R) (X : Nat → S.ValidIn.E4 → Option S.ValidIn.R) (x : S.ValidIn.H4) : Option S.ValidIn.R :=
  bif decide (x.2.1 < (List.length x.1.2.2.1 : Int)) then
    ck (decide (0 ≤ x.2.1) && decide (x.2.1 < (List.length x.1.2.2.1 : Int))) <|
    (S.l5data (((x.1.2.2.1.getD (Int.toNat x.2.1) zPacket).1, (x.1.2.2.1.getD (Int.toNat x.2.1) zPacket).2.1, (x.1.2.2.1.getD (Int.toNat x.2.1) zPacket).2.2.1, (x.1.2.2.1.getD (Int.toNat x.2.1) zPacket).2.2.2.1, (x.1.2.2.1.getD (Int.toNat x.2.1) zPacket).2.2.2.2.1, (x.1.2.2.1.getD (Int.toNat x.2.1) zPacket).2.2.2.2.2.1, ()), x.1.1, ())).bind fun r1 =>
    bif (!r1.1) == false then
      bif (decide ((x.1.2.2.1.getD (Int.toNat x.2.1) zPacket).2.2.1 ≤ x.1.2.1)) == false then
        bif (decide ((x.1.2.2.1.getD (Int.toNat x.2.1) zPacket).2.2.1 ≥ (wr .i64 (x.1.2.1 + 8)))) == false then
          bif (decide (x.2.1 > 0)) == true then
            ck (decide (0 ≤ (wr .i64 (x.2.1 - 1))) && decide ((wr .i64 (x.2.1 - 1)) < (List.length x.1.2.2.1 : Int))) <|
            bif decide ((x.1.2.2.1.getD (Int.toNat (wr .i64 (x.2.1 - 1))) zPacket).2.2.1 ≥ (x.1.2.2.1.getD (Int.toNat x.2.1) zPacket).2.2.1) then some (false, (((), (), (), (), ()), ())) else
            Rc ((x.1.1, x.1.2.1, x.1.2.2.1, x.1.2.2.2.1, ()), (wr .i64 (x.2.1 + 1)), ())
          else
          Rc ((x.1.1, x.1.2.1, x.1.2.2.1, x.1.2.2.2.1, ()), (wr .i64 (x.2.1 + 1)), ())
        else
        some (false, (((), (), (), (), ()), ()))
      else
      some (false, (((), (), (), (), ()), ()))
    else
    some (false, (((), (), (), (), ()), ()))
  else
  X 0 ()

def S.ValidIn.l4 (x : S.ValidIn.H4) (X : Nat → S.ValidIn.E4 → Option S.ValidIn.R) : Option S.ValidIn.R := rounds (S.ValidIn.st4) big X x
def S.ValidIn.lo4 : LoopO (DenF S.ValidIn.fr × DenB S.ValidIn.fa) := ⟨[1, 3], S.ValidIn.h4, [], S.ValidIn.e4, S.ValidIn.l4⟩
def S.ValidIn.p (l4 : S.ValidIn.H4 → (Nat → S.ValidIn.E4 → Option S.ValidIn.R) → Option S.ValidIn.R) (x : S.ValidIn.A) : Option S.ValidIn.R :=
  bif (decide (x.1.1 < 0)) == false then
    bif (decide (x.1.1 > 1000000000)) == false then
      bif (decide (x.1.2.1 < 0)) == false then
        bif (decide (x.1.2.1 > 1000000000000)) == false then
          bif decide ((List.length x.1.2.2.2.1 : Int) > 20000) then some (false, (((), (), (), (), ()), ())) else
          l4 ((x.1.1, x.1.2.1, x.1.2.2.1, x.1.2.2.2.1, ()), 0, ()) (fun i4 y4 =>
            bif Nat.beq i4 0 then some (true, (((), (), (), (), ()), ())) else
            none)
        else
        some (false, (((), (), (), (), ()), ()))
      else
      some (false, (((), (), (), (), ()), ()))
    else
    some (false, (((), (), (), (), ()), ()))
  else
  some (false, (((), (), (), (), ()), ()))

def S.ValidIn (x : S.ValidIn.A) : Option S.ValidIn.R := S.ValidIn.p S.ValidIn.l4 x
def S.ValidIn.spec : Spec := ⟨S.ValidIn.fa, S.ValidIn.fr, S.ValidIn⟩

/-! loop.example/s01316/spec.ValidFields -/
def S.ValidFields.fa : Fm := (.cons (.sl 32 c23) .nil)
def S.ValidFields.fr : Fm := .bool
abbrev S.ValidFields.A := (List DField) × Unit
abbrev S.ValidFields.R := Bool × (Unit × Unit)
def S.ValidFields.o : Orc := [(170, S.l2fieldOK.spec), (174, S.l1same.spec)]
def S.ValidFields.h9 : Fm := (.cons (.sl 32 c23) (.cons (.int .i64) (.cons (.int .i64) .nil)))
def S.ValidFields.e9 : Fm := (.cons (.sl 32 c23) (.cons (.int .i64) .nil))
abbrev S.ValidFields.H9 := (List DField) × Int × Int × Unit
abbrev S.ValidFields.E9 := (List DField) × Int × Unit
def S.ValidFields.st9 (Rc : S.ValidFields.H9 → Option S.ValidFields.R) (X : Nat → S.ValidFields.E9 → Option S.ValidFields.R) (x : S.ValidFields.H9) : Option S.ValidFields.R :=
  bif decide (x.2.2.1 < x.2.1) then
    ck (decide (0 ≤ x.2.2.1) && decide (x.2.2.1 < (List.length x.1 : Int))) <|
    ck (decide (0 ≤ x.2.1) && decide (x.2.1 < (List.length x.1 : Int))) <|
    (S.l1same ((x.1.getD (Int.toNat x.2.2.1) zField).1, (x.1.getD (Int.toNat x.2.1) zField).1, ())).bind fun r1 =>
    bif r1.1 then some (false, ((), ())) else
    Rc (x.1, x.2.1, (wr .i64 (x.2.2.1 + 1)), ())
  else
  X 2 (x.1, x.2.1, ())

def S.ValidFields.l9 (x : S.ValidFields.H9) (X : Nat → S.ValidFields.E9 → Option S.ValidFields.R) : Option S.ValidFields.R := rounds (S.ValidFields.st9) big X x
def S.ValidFields.lo9 : LoopO (DenF S.ValidFields.fr × DenB S.ValidFields.fa) := ⟨[0, 3, 4], S.ValidFields.h9, [0, 3], S.ValidFields.e9, S.ValidFields.l9⟩
def S.ValidFields.h4 : Fm := (.cons (.sl 32 c23) (.cons (.int .i64) .nil))
def S.ValidFields.e4 : Fm := .nil
abbrev S.ValidFields.H4 := (List DField) × Int × Unit
abbrev S.ValidFields.E4 := Unit
def S.ValidFields.st4 (l9 : S.ValidFields.H9 → (Nat → S.ValidFields.E9 → Option S.ValidFields.R) → Option S.ValidFields.R) (Rc : S.ValidFields.H4 → Option S.ValidFields.R) (X : Nat → S.ValidFields.E4 → Option S.ValidFields.R) (x : S.ValidFields.H4) : Option S.ValidFields.R :=
  bif decide (x.2.1 < (List.length x.1 : Int)) then
    ck (decide (0 ≤ x.2.1) && decide (x.2.1 < (List.length x.1 : Int))) <|
    (S.l2fieldOK (((x.1.getD (Int.toNat x.2.1) zField).1, (x.1.getD (Int.toNat x.2.1) zField).2.1, (x.1.getD (Int.toNat x.2.1) zField).2.2.1, ()), ())).bind fun r1 =>
    bif !r1.1 then some (false, ((), ())) else
    l9 (x.1, x.2.1, 0, ()) (fun i9 y9 =>
      bif Nat.beq i9 2 then Rc (y9.1, (wr .i64 (y9.2.1 + 1)), ()) else
      bif Nat.beq i9 1 then Rc (y9.1, (wr .i64 (y9.2.1 + 1)), ()) else
      X i9 ())
  else
  X 0 ()

def S.ValidFields.l4 (x : S.ValidFields.H4) (X : Nat → S.ValidFields.E4 → Option S.ValidFields.R) : Option S.ValidFields.R := rounds (S.ValidFields.st4 S.ValidFields.l9) big X x
def S.ValidFields.lo4 : LoopO (DenF S.ValidFields.fr × DenB S.ValidFields.fa) := ⟨[0, 3], S.ValidFields.h4, [], S.ValidFields.e4, S.ValidFields.l4⟩
def S.ValidFields.p (l4 : S.ValidFields.H4 → (Nat → S.ValidFields.E4 → Option S.ValidFields.R) → Option S.ValidFields.R) (x : S.ValidFields.A) : Option S.ValidFields.R :=
  bif (decide ((List.length x.1 : Int) < 1)) == false then
    bif decide ((List.length x.1 : Int) > 12) then some (false, ((), ())) else
    l4 (x.1, 0, ()) (fun i4 y4 =>
      bif Nat.beq i4 0 then some (true, ((), ())) else
      none)
  else
  some (false, ((), ()))

def S.ValidFields (x : S.ValidFields.A) : Option S.ValidFields.R := S.ValidFields.p S.ValidFields.l4 x
def S.ValidFields.spec : Spec := ⟨S.ValidFields.fa, S.ValidFields.fr, S.ValidFields⟩

/-! loop.example/s01316/spec.ValidStream -/
def S.ValidStream.fa : Fm := (.cons (.agg (.cons .bool (.cons (.sl 32 c23) (.cons (.int .i64) (.cons (.sl 26 (.sl 22 (.sl 5 (.int .u8)))) .nil))))) .nil)
def S.ValidStream.fr : Fm := .bool
abbrev S.ValidStream.A := (Bool × (List DField) × Int × (List (List (List Int))) × Unit) × Unit
abbrev S.ValidStream.R := Bool × ((Unit × Unit × Unit × Unit × Unit) × Unit)
def S.ValidStream.o : Orc := [(77, S.ValidDict.spec), (136, S.ValidFields.spec)]
def S.ValidStream.h6 : Fm := (.cons (.box (.cons .bool (.cons (.sl 32 c23) (.cons (.int .i64) (.cons (.sl 26 (.sl 22 (.sl 5 (.int .u8)))) .nil))))) (.cons (.int .i64) .nil))
def S.ValidStream.e6 : Fm := .nil
abbrev S.ValidStream.H6 := (Bool × (List DField) × Int × (List (List (List Int))) × Unit) × Int × Unit
abbrev S.ValidStream.E6 := Unit
def S.ValidStream.st6 (Rc : S.ValidStream.H6 → Option S.ValidStream.R) (X : Nat → S.ValidStream.E6 → Option S.ValidStream.R) (x : S.ValidStream.H6) : Option S.ValidStream.R :=
  bif decide (x.2.1 < (List.length x.1.2.2.2.1 : Int)) then
    ck (decide (0 ≤ x.2.1) && decide (x.2.1 < (List.length x.1.2.2.2.1 : Int))) <|
    (S.ValidDict ((x.1.2.2.2.1.getD (Int.toNat x.2.1) []), ())).bind fun r1 =>
    bif (!r1.1) == false then
      ck (decide (0 ≤ x.2.1) && decide (x.2.1 < (List.length x.1.2.1 : Int))) <|
      bif ((x.1.2.1.getD (Int.toNat x.2.1) zField).2.1 != 3) == true then
        ck (decide (0 ≤ x.2.1) && decide (x.2.1 < (List.length x.1.2.2.2.1 : Int))) <|
        bif decide ((List.length (x.1.2.2.2.1.getD (Int.toNat x.2.1) []) : Int) > 0) then some (false, (((), (), (), (), ()), ())) else
        Rc ((x.1.1, x.1.2.1, x.1.2.2.1, x.1.2.2.2.1, ()), (wr .i64 (x.2.1 + 1)), ())
      else
      Rc ((x.1.1, x.1.2.1, x.1.2.2.1, x.1.2.2.2.1, ()), (wr .i64 (x.2.1 + 1)), ())
    else
    some (false, (((), (), (), (), ()), ()))
  else
  X 0 ()

def S.ValidStream.l6 (x : S.ValidStream.H6) (X : Nat → S.ValidStream.E6 → Option S.ValidStream.R) : Option S.ValidStream.R := rounds (S.ValidStream.st6) big X x
def S.ValidStream.lo6 : LoopO (DenF S.ValidStream.fr × DenB S.ValidStream.fa) := ⟨[1, 3], S.ValidStream.h6, [], S.ValidStream.e6, S.ValidStream.l6⟩
def S.ValidStream.p (l6 : S.ValidStream.H6 → (Nat → S.ValidStream.E6 → Option S.ValidStream.R) → Option S.ValidStream.R) (x : S.ValidStream.A) : Option S.ValidStream.R :=
  bif !x.1.1 then
    bif ((List.length x.1.2.1 : Int) == 0) == true then
      bif (x.1.2.2.1 == 0) == true then
        some ((List.length x.1.2.2.2.1 : Int) == 0, (((), (), (), (), ()), ()))
      else
      some (false, (((), (), (), (), ()), ()))
    else
    some (false, (((), (), (), (), ()), ()))
  else
  (S.ValidFields (x.1.2.1, ())).bind fun r1 =>
  bif (!r1.1) == false then
    bif (decide (x.1.2.2.1 < 0)) == false then
      bif (decide (x.1.2.2.1 > 1000000000)) == false then
        bif (List.length x.1.2.2.2.1 : Int) != (List.length x.1.2.1 : Int) then some (false, (((), (), (), (), ()), ())) else
        l6 ((x.1.1, x.1.2.1, x.1.2.2.1, x.1.2.2.2.1, ()), 0, ()) (fun i6 y6 =>
          bif Nat.beq i6 0 then some (true, (((), (), (), (), ()), ())) else
          none)
      else
      some (false, (((), (), (), (), ()), ()))
    else
    some (false, (((), (), (), (), ()), ()))
  else
  some (false, (((), (), (), (), ()), ()))

def S.ValidStream (x : S.ValidStream.A) : Option S.ValidStream.R := S.ValidStream.p S.ValidStream.l6 x
def S.ValidStream.spec : Spec := ⟨S.ValidStream.fa, S.ValidStream.fr, S.ValidStream⟩

/-! loop.example/s01316/spec.l2column -/
def S.l2column.fa : Fm := (.cons (.agg (.cons (.int .i64) (.cons (.sl 137 c131) .nil))) (.cons (.int .i64) .nil))
def S.l2column.fr : Fm := (.sl 137 c131)
abbrev S.l2column.A := (Int × (List DCell) × Unit) × Int × Unit
abbrev S.l2column.R := (List DCell) × ((Unit × Unit × Unit) × Unit × Unit)
def S.l2column.o : Orc := []
def S.l2column (x : S.l2column.A) : Option S.l2column.R :=
  let v1 : Int := wr .i64 ((wr .i64 (x.2.1 + 1)) * x.1.1)
  ck (decide (0 ≤ (wr .i64 (x.2.1 * x.1.1))) && (decide ((wr .i64 (x.2.1 * x.1.1)) ≤ v1) && decide (v1 ≤ (List.length x.1.2.1 : Int)))) <|
  let v2 : List DCell := (x.1.2.1.take (Int.toNat v1)).drop (Int.toNat (wr .i64 (x.2.1 * x.1.1)))
  some (v2, (((), (), ()), (), ()))

def S.l2column.spec : Spec := ⟨S.l2column.fa, S.l2column.fr, S.l2column⟩

/-! loop.example/s01316/spec.l2texts -/
def S.l2texts.fa : Fm := (.cons (.sl 137 c131) (.cons (.int .i64) .nil))
def S.l2texts.fr : Fm := (.own 22 (.sl 5 (.int .u8)) false)
abbrev S.l2texts.A := (List DCell) × Int × Unit
abbrev S.l2texts.R := (List (List Int)) × (Unit × Unit × Unit)
def S.l2texts.o : Orc := [(79, S.l2place.spec)]
def S.l2texts.h3 : Fm := (.cons (.sl 137 c131) (.cons (.int .i64) (.cons (.own 22 (.sl 5 (.int .u8)) false) (.cons (.int .i64) .nil))))
def S.l2texts.e3 : Fm := (.cons (.own 22 (.sl 5 (.int .u8)) false) .nil)
abbrev S.l2texts.H3 := (List DCell) × Int × (List (List Int)) × Int × Unit
abbrev S.l2texts.E3 := (List (List Int)) × Unit
def S.l2texts.st3 (Rc : S.l2texts.H3 → Option S.l2texts.R) (X : Nat → S.l2texts.E3 → Option S.l2texts.R) (x : S.l2texts.H3) : Option S.l2texts.R :=
  bif (decide (x.2.2.2.1 < (List.length x.1 : Int))) == true then
    bif decide ((List.length x.2.2.1 : Int) ≤ x.2.1) then
      ck (decide (0 ≤ x.2.2.2.1) && decide (x.2.2.2.1 < (List.length x.1 : Int))) <|
      bif (!(x.1.getD (Int.toNat x.2.2.2.1) zCell).1) == true then
        ck (decide (0 ≤ x.2.2.2.1) && decide (x.2.2.2.1 < (List.length x.1 : Int))) <|
        (S.l2place (x.2.2.1, (x.1.getD (Int.toNat x.2.2.2.1) zCell).2.2.1, ())).bind fun r1 =>
        bif decide (r1.1 < 0) then
          ck (decide (0 ≤ x.2.2.2.1) && decide (x.2.2.2.1 < (List.length x.1 : Int))) <|
          ck (Nat.ble ((List.length x.2.2.1 + List.length [(x.1.getD (Int.toNat x.2.2.2.1) zCell).2.2.1]) * 24) 140737488355328) <|
          let v2 : List (List Int) := x.2.2.1 ++ [(x.1.getD (Int.toNat x.2.2.2.1) zCell).2.2.1]
          Rc (x.1, x.2.1, v2, (wr .i64 (x.2.2.2.1 + 1)), ())
        else
        Rc (x.1, x.2.1, x.2.2.1, (wr .i64 (x.2.2.2.1 + 1)), ())
      else
      Rc (x.1, x.2.1, x.2.2.1, (wr .i64 (x.2.2.2.1 + 1)), ())
    else
    X 0 (x.2.2.1, ())
  else
  X 0 (x.2.2.1, ())

def S.l2texts.l3 (x : S.l2texts.H3) (X : Nat → S.l2texts.E3 → Option S.l2texts.R) : Option S.l2texts.R := rounds (S.l2texts.st3) big X x
def S.l2texts.lo3 : LoopO (DenF S.l2texts.fr × DenB S.l2texts.fa) := ⟨[0, 1, 5, 6], S.l2texts.h3, [5], S.l2texts.e3, S.l2texts.l3⟩
def S.l2texts.p (l3 : S.l2texts.H3 → (Nat → S.l2texts.E3 → Option S.l2texts.R) → Option S.l2texts.R) (x : S.l2texts.A) : Option S.l2texts.R :=
  l3 (x.1, x.2.1, [], 0, ()) (fun i3 y3 =>
    bif Nat.beq i3 0 then some (y3.1, ((), (), ())) else
    none)

def S.l2texts (x : S.l2texts.A) : Option S.l2texts.R := S.l2texts.p S.l2texts.l3 x
def S.l2texts.spec : Spec := ⟨S.l2texts.fa, S.l2texts.fr, S.l2texts⟩

/-! loop.example/s01316/spec.ValidTable -/
def S.ValidTable.fa : Fm := (.cons (.sl 32 c23) (.cons (.agg (.cons (.int .i64) (.cons (.sl 137 c131) .nil))) .nil))
def S.ValidTable.fr : Fm := .bool
abbrev S.ValidTable.A := (List DField) × (Int × (List DCell) × Unit) × Unit
abbrev S.ValidTable.R := Bool × (Unit × (Unit × Unit × Unit) × Unit)
def S.ValidTable.o : Orc := [(136, S.ValidFields.spec), (160, S.l2texts.spec), (175, S.l2cellOK.spec), (236, S.l2column.spec)]
def S.ValidTable.h9 : Fm := (.cons (.sl 32 c23) (.cons (.box (.cons (.int .i64) (.cons (.sl 137 c131) .nil))) (.cons (.int .i64) (.cons (.int .i64) (.cons (.sl 137 c131) (.cons (.int .i64) .nil))))))
def S.ValidTable.e9 : Fm := (.cons (.sl 32 c23) (.cons (.box (.cons (.int .i64) (.cons (.sl 137 c131) .nil))) (.cons (.int .i64) (.cons (.int .i64) (.cons (.sl 137 c131) .nil)))))
abbrev S.ValidTable.H9 := (List DField) × (Int × (List DCell) × Unit) × Int × Int × (List DCell) × Int × Unit
abbrev S.ValidTable.E9 := (List DField) × (Int × (List DCell) × Unit) × Int × Int × (List DCell) × Unit
def S.ValidTable.st9 (Rc : S.ValidTable.H9 → Option S.ValidTable.R) (X : Nat → S.ValidTable.E9 → Option S.ValidTable.R) (x : S.ValidTable.H9) : Option S.ValidTable.R :=
  bif decide (x.2.2.2.2.2.1 < (List.length x.2.2.2.2.1 : Int)) then
    ck (decide (0 ≤ x.2.2.2.1) && decide (x.2.2.2.1 < (List.length x.1 : Int))) <|
    ck (decide (0 ≤ x.2.2.2.2.2.1) && decide (x.2.2.2.2.2.1 < (List.length x.2.2.2.2.1 : Int))) <|
    (S.l2cellOK (((x.1.getD (Int.toNat x.2.2.2.1) zField).1, (x.1.getD (Int.toNat x.2.2.2.1) zField).2.1, (x.1.getD (Int.toNat x.2.2.2.1) zField).2.2.1, ()), ((x.2.2.2.2.1.getD (Int.toNat x.2.2.2.2.2.1) zCell).1, (x.2.2.2.2.1.getD (Int.toNat x.2.2.2.2.2.1) zCell).2.1, (x.2.2.2.2.1.getD (Int.toNat x.2.2.2.2.2.1) zCell).2.2.1, ()), ())).bind fun r1 =>
    bif !r1.1 then some (false, ((), ((), (), ()), ())) else
    ck (decide (0 ≤ x.2.2.2.2.2.1) && decide (x.2.2.2.2.2.1 < (List.length x.2.2.2.2.1 : Int))) <|
    let v2 : Int := wr .i64 (x.2.2.1 + (List.length (x.2.2.2.2.1.getD (Int.toNat x.2.2.2.2.2.1) zCell).2.2.1 : Int))
    let v3 : Int := wr .i64 (x.2.2.2.2.2.1 + 1)
    Rc (x.1, (x.2.1.1, x.2.1.2.1, ()), v2, x.2.2.2.1, x.2.2.2.2.1, v3, ())
  else
  X 2 (x.1, (x.2.1.1, x.2.1.2.1, ()), x.2.2.1, x.2.2.2.1, x.2.2.2.2.1, ())

def S.ValidTable.l9 (x : S.ValidTable.H9) (X : Nat → S.ValidTable.E9 → Option S.ValidTable.R) : Option S.ValidTable.R := rounds (S.ValidTable.st9) big X x
def S.ValidTable.lo9 : LoopO (DenF S.ValidTable.fr × DenB S.ValidTable.fa) := ⟨[0, 3, 5, 6, 7, 8], S.ValidTable.h9, [0, 3, 5, 6, 7], S.ValidTable.e9, S.ValidTable.l9⟩
def S.ValidTable.h5 : Fm := (.cons (.sl 32 c23) (.cons (.box (.cons (.int .i64) (.cons (.sl 137 c131) .nil))) (.cons (.int .i64) (.cons (.int .i64) .nil))))
def S.ValidTable.e5 : Fm := (.cons (.int .i64) .nil)
abbrev S.ValidTable.H5 := (List DField) × (Int × (List DCell) × Unit) × Int × Int × Unit
abbrev S.ValidTable.E5 := Int × Unit
def S.ValidTable.st5 (l9 : S.ValidTable.H9 → (Nat → S.ValidTable.E9 → Option S.ValidTable.R) → Option S.ValidTable.R) (Rc : S.ValidTable.H5 → Option S.ValidTable.R) (X : Nat → S.ValidTable.E5 → Option S.ValidTable.R) (x : S.ValidTable.H5) : Option S.ValidTable.R :=
  bif decide (x.2.2.2.1 < (List.length x.1 : Int)) then
    (S.l2column ((x.2.1.1, x.2.1.2.1, ()), x.2.2.2.1, ())).bind fun r1 =>
    l9 (x.1, (x.2.1.1, x.2.1.2.1, ()), x.2.2.1, x.2.2.2.1, r1.1, 0, ()) (fun i9 y9 =>
      bif Nat.beq i9 2 then
        ck (decide (0 ≤ y9.2.2.2.1) && decide (y9.2.2.2.1 < (List.length y9.1 : Int))) <|
        bif ((y9.1.getD (Int.toNat y9.2.2.2.1) zField).2.1 == 3) == true then
          (S.l2texts (y9.2.2.2.2.1, 40, ())).bind fun r2 =>
          bif decide ((List.length r2.1 : Int) > 40) then some (false, ((), ((), (), ()), ())) else
          Rc (y9.1, (y9.2.1.1, y9.2.1.2.1, ()), y9.2.2.1, (wr .i64 (y9.2.2.2.1 + 1)), ())
        else
        Rc (y9.1, (y9.2.1.1, y9.2.1.2.1, ()), y9.2.2.1, (wr .i64 (y9.2.2.2.1 + 1)), ())
      else
      bif Nat.beq i9 1 then
        Rc (y9.1, (y9.2.1.1, y9.2.1.2.1, ()), y9.2.2.1, (wr .i64 (y9.2.2.2.1 + 1)), ())
      else
      X i9 (y9.2.2.1, ()))
  else
  X 0 (x.2.2.1, ())

def S.ValidTable.l5 (x : S.ValidTable.H5) (X : Nat → S.ValidTable.E5 → Option S.ValidTable.R) : Option S.ValidTable.R := rounds (S.ValidTable.st5 S.ValidTable.l9) big X x
def S.ValidTable.lo5 : LoopO (DenF S.ValidTable.fr × DenB S.ValidTable.fa) := ⟨[0, 3, 5, 6], S.ValidTable.h5, [5], S.ValidTable.e5, S.ValidTable.l5⟩
def S.ValidTable.p (l5 : S.ValidTable.H5 → (Nat → S.ValidTable.E5 → Option S.ValidTable.R) → Option S.ValidTable.R) (x : S.ValidTable.A) : Option S.ValidTable.R :=
  (S.ValidFields (x.1, ())).bind fun r1 =>
  bif (!r1.1) == false then
    bif (decide (x.2.1.1 < 0)) == false then
      bif (decide (x.2.1.1 > 100)) == false then
        let v2 : Int := wr .i64 ((List.length x.1 : Int) * x.2.1.1)
        bif (List.length x.2.1.2.1 : Int) != v2 then some (false, ((), ((), (), ()), ())) else
        l5 (x.1, (x.2.1.1, x.2.1.2.1, ()), 0, 0, ()) (fun i5 y5 =>
          bif Nat.beq i5 0 then some (decide (y5.1 ≤ 4000), ((), ((), (), ()), ())) else
          none)
      else
      some (false, ((), ((), (), ()), ()))
    else
    some (false, ((), ((), (), ()), ()))
  else
  some (false, ((), ((), (), ()), ()))

def S.ValidTable (x : S.ValidTable.A) : Option S.ValidTable.R := S.ValidTable.p S.ValidTable.l5 x
def S.ValidTable.spec : Spec := ⟨S.ValidTable.fa, S.ValidTable.fr, S.ValidTable⟩

/-! loop.example/s01316/spec.l6tablesOK -/
def S.l6tablesOK.fa : Fm := (.cons (.sl 32 c23) (.cons (.sl 186 c186) .nil))
def S.l6tablesOK.fr : Fm := .bool
abbrev S.l6tablesOK.A := (List DField) × (List DTable) × Unit
abbrev S.l6tablesOK.R := Bool × (Unit × Unit × Unit)
def S.l6tablesOK.o : Orc := [(197, S.ValidTable.spec)]
def S.l6tablesOK.h4 : Fm := (.cons (.sl 32 c23) (.cons (.sl 186 c186) (.cons (.int .i64) .nil)))
def S.l6tablesOK.e4 : Fm := .nil
abbrev S.l6tablesOK.H4 := (List DField) × (List DTable) × Int × Unit
abbrev S.l6tablesOK.E4 := Unit
def S.l6tablesOK.st4 (Rc : S.l6tablesOK.H4 → Option S.l6tablesOK.R) (X : Nat → S.l6tablesOK.E4 → Option S.l6tablesOK.R) (x : S.l6tablesOK.H4) : Option S.l6tablesOK.R :=
  bif decide (x.2.2.1 < (List.length x.2.1 : Int)) then
    ck (decide (0 ≤ x.2.2.1) && decide (x.2.2.1 < (List.length x.2.1 : Int))) <|
    (S.ValidTable (x.1, ((x.2.1.getD (Int.toNat x.2.2.1) zTable).1, (x.2.1.getD (Int.toNat x.2.2.1) zTable).2.1, ()), ())).bind fun r1 =>
    bif !r1.1 then some (false, ((), (), ())) else
    Rc (x.1, x.2.1, (wr .i64 (x.2.2.1 + 1)), ())
  else
  X 0 ()

def S.l6tablesOK.l4 (x : S.l6tablesOK.H4) (X : Nat → S.l6tablesOK.E4 → Option S.l6tablesOK.R) : Option S.l6tablesOK.R := rounds (S.l6tablesOK.st4) big X x
def S.l6tablesOK.lo4 : LoopO (DenF S.l6tablesOK.fr × DenB S.l6tablesOK.fa) := ⟨[0, 1, 5], S.l6tablesOK.h4, [], S.l6tablesOK.e4, S.l6tablesOK.l4⟩
def S.l6tablesOK.p (l4 : S.l6tablesOK.H4 → (Nat → S.l6tablesOK.E4 → Option S.l6tablesOK.R) → Option S.l6tablesOK.R) (x : S.l6tablesOK.A) : Option S.l6tablesOK.R :=
  bif decide ((List.length x.2.1 : Int) > 20) then some (false, ((), (), ())) else
  l4 (x.1, x.2.1, 0, ()) (fun i4 y4 =>
    bif Nat.beq i4 0 then some (true, ((), (), ())) else
    none)

def S.l6tablesOK (x : S.l6tablesOK.A) : Option S.l6tablesOK.R := S.l6tablesOK.p S.l6tablesOK.l4 x
def S.l6tablesOK.spec : Spec := ⟨S.l6tablesOK.fa, S.l6tablesOK.fr, S.l6tablesOK⟩

/-! loop.example/s01316/spec.l6ready -/
def S.l6ready.fa : Fm := (.cons (.agg (.cons (.int .i64) (.cons (.int .i64) (.cons .bool (.cons (.int .i64) (.cons (.int .i64) (.cons (.sl 55 c55) (.cons (.sl 5 (.int .u8)) (.cons .bool (.cons (.sl 32 c23) (.cons (.int .i64) (.cons (.sl 26 (.sl 22 (.sl 5 (.int .u8)))) (.cons (.sl 186 c186) (.cons (.int .i64) .nil)))))))))))))) .nil)
def S.l6ready.fr : Fm := .bool
abbrev S.l6ready.A := (Int × Int × Bool × Int × Int × (List DPacket) × (List Int) × Bool × (List DField) × Int × (List (List (List Int))) × (List DTable) × Int × Unit) × Unit
abbrev S.l6ready.R := Bool × ((Unit × Unit × Unit × Unit × Unit × Unit × Unit × Unit × Unit × Unit × Unit × Unit × Unit × Unit) × Unit)
def S.l6ready.o : Orc := [(137, S.l6tablesOK.spec)]
def S.l6ready (x : S.l6ready.A) : Option S.l6ready.R :=
  bif !x.1.2.2.2.2.2.2.2.1 then
    some ((List.length x.1.2.2.2.2.2.2.2.2.2.2.2.1 : Int) == 0, (((), (), (), (), (), (), (), (), (), (), (), (), (), ()), ()))
  else
  (S.l6tablesOK (x.1.2.2.2.2.2.2.2.2.1, x.1.2.2.2.2.2.2.2.2.2.2.2.1, ())).bind fun r1 =>
  some (r1.1, (((), (), (), (), (), (), (), (), (), (), (), (), (), ()), ()))

def S.l6ready.spec : Spec := ⟨S.l6ready.fa, S.l6ready.fr, S.l6ready⟩

/-! loop.example/s01316/spec.ValidReceiver -/
def S.ValidReceiver.fa : Fm := (.cons (.agg (.cons (.int .i64) (.cons (.int .i64) (.cons .bool (.cons (.int .i64) (.cons (.int .i64) (.cons (.sl 55 c55) (.cons (.sl 5 (.int .u8)) (.cons .bool (.cons (.sl 32 c23) (.cons (.int .i64) (.cons (.sl 26 (.sl 22 (.sl 5 (.int .u8)))) (.cons (.sl 186 c186) (.cons (.int .i64) .nil)))))))))))))) .nil)
def S.ValidReceiver.fr : Fm := .bool
abbrev S.ValidReceiver.A := (Int × Int × Bool × Int × Int × (List DPacket) × (List Int) × Bool × (List DField) × Int × (List (List (List Int))) × (List DTable) × Int × Unit) × Unit
abbrev S.ValidReceiver.R := Bool × ((Unit × Unit × Unit × Unit × Unit × Unit × Unit × Unit × Unit × Unit × Unit × Unit × Unit × Unit) × Unit)
def S.ValidReceiver.o : Orc := [(33, S.ValidIn.spec), (125, S.ValidStream.spec), (126, S.l6ready.spec)]
def S.ValidReceiver (x : S.ValidReceiver.A) : Option S.ValidReceiver.R :=
  bif (decide (x.1.1 < 0)) == false then
    bif (decide (x.1.1 > 1000000000)) == false then
      bif (decide (x.1.2.1 < 0)) == false then
        bif (decide (x.1.2.1 > 1000000000)) == false then
          bif (decide (x.1.2.2.2.2.2.2.2.2.2.2.2.2.1 < 0)) == false then
            bif decide (x.1.2.2.2.2.2.2.2.2.2.2.2.2.1 > 1000000000) then
              some (false, (((), (), (), (), (), (), (), (), (), (), (), (), (), ()), ()))
            else
            bif !x.1.2.2.1 then
              bif (x.1.2.2.2.1 == 0) == true then
                bif (x.1.2.2.2.2.1 == 0) == true then
                  bif ((List.length x.1.2.2.2.2.2.1 : Int) == 0) == true then
                    bif ((List.length x.1.2.2.2.2.2.2.1 : Int) == 0) == true then
                      bif (!x.1.2.2.2.2.2.2.2.1) == true then
                        bif (x.1.2.2.2.2.2.2.2.2.2.1 == 0) == true then
                          bif ((List.length x.1.2.2.2.2.2.2.2.2.1 : Int) == 0) == true then
                            bif ((List.length x.1.2.2.2.2.2.2.2.2.2.2.1 : Int) == 0) == true then
                              some ((List.length x.1.2.2.2.2.2.2.2.2.2.2.2.1 : Int) == 0, (((), (), (), (), (), (), (), (), (), (), (), (), (), ()), ()))
                            else
                            some (false, (((), (), (), (), (), (), (), (), (), (), (), (), (), ()), ()))
                          else
                          some (false, (((), (), (), (), (), (), (), (), (), (), (), (), (), ()), ()))
                        else
                        some (false, (((), (), (), (), (), (), (), (), (), (), (), (), (), ()), ()))
                      else
                      some (false, (((), (), (), (), (), (), (), (), (), (), (), (), (), ()), ()))
                    else
                    some (false, (((), (), (), (), (), (), (), (), (), (), (), (), (), ()), ()))
                  else
                  some (false, (((), (), (), (), (), (), (), (), (), (), (), (), (), ()), ()))
                else
                some (false, (((), (), (), (), (), (), (), (), (), (), (), (), (), ()), ()))
              else
              some (false, (((), (), (), (), (), (), (), (), (), (), (), (), (), ()), ()))
            else
            bif (decide (x.1.1 < 1)) == false then
              bif (x.1.2.2.2.1 != x.1.1) == false then
                (S.ValidIn ((x.1.2.2.2.1, x.1.2.2.2.2.1, x.1.2.2.2.2.2.1, x.1.2.2.2.2.2.2.1, ()), ())).bind fun r1 =>
                bif (!r1.1) == false then
                  (S.ValidStream ((x.1.2.2.2.2.2.2.2.1, x.1.2.2.2.2.2.2.2.2.1, x.1.2.2.2.2.2.2.2.2.2.1, x.1.2.2.2.2.2.2.2.2.2.2.1, ()), ())).bind fun r2 =>
                  bif (!r2.1) == false then
                    (S.l6ready ((x.1.1, x.1.2.1, x.1.2.2.1, x.1.2.2.2.1, x.1.2.2.2.2.1, x.1.2.2.2.2.2.1, x.1.2.2.2.2.2.2.1, x.1.2.2.2.2.2.2.2.1, x.1.2.2.2.2.2.2.2.2.1, x.1.2.2.2.2.2.2.2.2.2.1, x.1.2.2.2.2.2.2.2.2.2.2.1, x.1.2.2.2.2.2.2.2.2.2.2.2.1, x.1.2.2.2.2.2.2.2.2.2.2.2.2.1, ()), ())).bind fun r3 =>
                    bif !r3.1 then
                      some (false, (((), (), (), (), (), (), (), (), (), (), (), (), (), ()), ()))
                    else
                    bif !x.1.2.2.2.2.2.2.2.1 then
                      some (true, (((), (), (), (), (), (), (), (), (), (), (), (), (), ()), ()))
                    else
                    let v4 : Int := wr .i64 (x.1.2.1 + (List.length x.1.2.2.2.2.2.2.2.2.2.2.2.1 : Int))
                    bif (decide (x.1.2.2.2.2.2.2.2.2.2.1 ≤ v4)) == true then
                      bif ((List.length x.1.2.2.2.2.2.2.2.2.2.2.2.1 : Int) == 0) == false then
                        some (x.1.2.2.2.2.2.2.2.2.2.1 == v4, (((), (), (), (), (), (), (), (), (), (), (), (), (), ()), ()))
                      else
                      some (true, (((), (), (), (), (), (), (), (), (), (), (), (), (), ()), ()))
                    else
                    some (false, (((), (), (), (), (), (), (), (), (), (), (), (), (), ()), ()))
                  else
                  some (false, (((), (), (), (), (), (), (), (), (), (), (), (), (), ()), ()))
                else
                some (false, (((), (), (), (), (), (), (), (), (), (), (), (), (), ()), ()))
              else
              some (false, (((), (), (), (), (), (), (), (), (), (), (), (), (), ()), ()))
            else
            some (false, (((), (), (), (), (), (), (), (), (), (), (), (), (), ()), ()))
          else
          some (false, (((), (), (), (), (), (), (), (), (), (), (), (), (), ()), ()))
        else
        some (false, (((), (), (), (), (), (), (), (), (), (), (), (), (), ()), ()))
      else
      some (false, (((), (), (), (), (), (), (), (), (), (), (), (), (), ()), ()))
    else
    some (false, (((), (), (), (), (), (), (), (), (), (), (), (), (), ()), ()))
  else
  some (false, (((), (), (), (), (), (), (), (), (), (), (), (), (), ()), ()))

def S.ValidReceiver.spec : Spec := ⟨S.ValidReceiver.fa, S.ValidReceiver.fr, S.ValidReceiver⟩

/-! loop.example/s01316/impl.ValidFields -/
def I.ValidFields.fa : Fm := (.cons (.sl 32 c23) .nil)
def I.ValidFields.fr : Fm := .bool
abbrev I.ValidFields.A := (List DField) × Unit
abbrev I.ValidFields.R := Bool × (Unit × Unit)
def I.ValidFields.o : Orc := [(85, I.fieldOk.spec)]
def I.ValidFields.h5 : Fm := (.cons .mp (.cons (.sl 32 c23) (.cons (.int .i64) (.cons (.int .i64) .nil))))
def I.ValidFields.e5 : Fm := .nil
abbrev I.ValidFields.H5 := (List (ByteArray × Int)) × (List DField) × Int × Int × Unit
abbrev I.ValidFields.E5 := Unit
def I.ValidFields.st5 (Rc : I.ValidFields.H5 → Option I.ValidFields.R) (X : Nat → I.ValidFields.E5 → Option I.ValidFields.R) (x : I.ValidFields.H5) : Option I.ValidFields.R :=
  bif decide (x.2.2.2.1 < x.2.2.1) then
    ck (decide (0 ≤ x.2.2.2.1) && decide (x.2.2.2.1 < (List.length x.2.1 : Int))) <|
    bif (mhas (strOf (x.2.1.getD (Int.toNat x.2.2.2.1) zField).1) x.1) == false then
      (I.fieldOk (((x.2.1.getD (Int.toNat x.2.2.2.1) zField).1, (x.2.1.getD (Int.toNat x.2.2.2.1) zField).2.1, (x.2.1.getD (Int.toNat x.2.2.2.1) zField).2.2.1, ()), ())).bind fun r1 =>
      bif !r1.1 then some (false, ((), ())) else
      let v2 : List (ByteArray × Int) := mput (strOf (x.2.1.getD (Int.toNat x.2.2.2.1) zField).1) x.2.2.2.1 x.1
      Rc (v2, x.2.1, x.2.2.1, (wr .i64 (x.2.2.2.1 + 1)), ())
    else
    some (false, ((), ()))
  else
  X 0 ()

def I.ValidFields.l5 (x : I.ValidFields.H5) (X : Nat → I.ValidFields.E5 → Option I.ValidFields.R) : Option I.ValidFields.R := rounds (I.ValidFields.st5) big X x
def I.ValidFields.lo5 : LoopO (DenF I.ValidFields.fr × DenB I.ValidFields.fa) := ⟨[3, 17, 18, 19], I.ValidFields.h5, [], I.ValidFields.e5, I.ValidFields.l5⟩
def I.ValidFields.p (l5 : I.ValidFields.H5 → (Nat → I.ValidFields.E5 → Option I.ValidFields.R) → Option I.ValidFields.R) (x : I.ValidFields.A) : Option I.ValidFields.R :=
  bif (decide ((List.length x.1 : Int) < 1)) == false then
    bif decide ((List.length x.1 : Int) > 12) then some (false, ((), ())) else
    l5 (([] : List (ByteArray × Int)), x.1, (List.length x.1 : Int), 0, ()) (fun i5 y5 =>
      bif Nat.beq i5 0 then some (true, ((), ())) else
      none)
  else
  some (false, ((), ()))

def I.ValidFields (x : I.ValidFields.A) : Option I.ValidFields.R := I.ValidFields.p I.ValidFields.l5 x
def I.ValidFields.spec : Spec := ⟨I.ValidFields.fa, I.ValidFields.fr, I.ValidFields⟩

/-! loop.example/s01316/impl.ValidStream -/
def I.ValidStream.fa : Fm := (.cons (.agg (.cons .bool (.cons (.sl 32 c23) (.cons (.int .i64) (.cons (.sl 26 (.sl 22 (.sl 5 (.int .u8)))) .nil))))) .nil)
def I.ValidStream.fr : Fm := .bool
abbrev I.ValidStream.A := (Bool × (List DField) × Int × (List (List (List Int))) × Unit) × Unit
abbrev I.ValidStream.R := Bool × ((Unit × Unit × Unit × Unit × Unit) × Unit)
def I.ValidStream.o : Orc := [(86, I.ValidDict.spec), (140, I.ValidFields.spec)]
def I.ValidStream.h6 : Fm := (.cons (.box (.cons .bool (.cons (.sl 32 c23) (.cons (.int .i64) (.cons (.sl 26 (.sl 22 (.sl 5 (.int .u8)))) .nil))))) (.cons (.sl 26 (.sl 22 (.sl 5 (.int .u8)))) (.cons (.int .i64) (.cons (.int .i64) .nil))))
def I.ValidStream.e6 : Fm := .nil
abbrev I.ValidStream.H6 := (Bool × (List DField) × Int × (List (List (List Int))) × Unit) × (List (List (List Int))) × Int × Int × Unit
abbrev I.ValidStream.E6 := Unit
def I.ValidStream.st6 (Rc : I.ValidStream.H6 → Option I.ValidStream.R) (X : Nat → I.ValidStream.E6 → Option I.ValidStream.R) (x : I.ValidStream.H6) : Option I.ValidStream.R :=
  bif decide (x.2.2.2.1 < x.2.2.1) then
    ck (decide (0 ≤ x.2.2.2.1) && decide (x.2.2.2.1 < (List.length x.2.1 : Int))) <|
    (I.ValidDict ((x.2.1.getD (Int.toNat x.2.2.2.1) []), ())).bind fun r1 =>
    bif (!r1.1) == false then
      ck (decide (0 ≤ x.2.2.2.1) && decide (x.2.2.2.1 < (List.length x.1.2.1 : Int))) <|
      bif ((x.1.2.1.getD (Int.toNat x.2.2.2.1) zField).2.1 != 3) == true then
        bif decide ((List.length (x.2.1.getD (Int.toNat x.2.2.2.1) []) : Int) > 0) then some (false, (((), (), (), (), ()), ())) else
        Rc ((x.1.1, x.1.2.1, x.1.2.2.1, x.1.2.2.2.1, ()), x.2.1, x.2.2.1, (wr .i64 (x.2.2.2.1 + 1)), ())
      else
      Rc ((x.1.1, x.1.2.1, x.1.2.2.1, x.1.2.2.2.1, ()), x.2.1, x.2.2.1, (wr .i64 (x.2.2.2.1 + 1)), ())
    else
    some (false, (((), (), (), (), ()), ()))
  else
  X 0 ()

def I.ValidStream.l6 (x : I.ValidStream.H6) (X : Nat → I.ValidStream.E6 → Option I.ValidStream.R) : Option I.ValidStream.R := rounds (I.ValidStream.st6) big X x
def I.ValidStream.lo6 : LoopO (DenF I.ValidStream.fr × DenB I.ValidStream.fa) := ⟨[1, 47, 48, 49], I.ValidStream.h6, [], I.ValidStream.e6, I.ValidStream.l6⟩
def I.ValidStream.p (l6 : I.ValidStream.H6 → (Nat → I.ValidStream.E6 → Option I.ValidStream.R) → Option I.ValidStream.R) (x : I.ValidStream.A) : Option I.ValidStream.R :=
  bif !x.1.1 then
    bif ((List.length x.1.2.1 : Int) == 0) == true then
      bif (x.1.2.2.1 == 0) == true then
        some ((List.length x.1.2.2.2.1 : Int) == 0, (((), (), (), (), ()), ()))
      else
      some (false, (((), (), (), (), ()), ()))
    else
    some (false, (((), (), (), (), ()), ()))
  else
  (I.ValidFields (x.1.2.1, ())).bind fun r1 =>
  bif (!r1.1) == false then
    bif (decide (x.1.2.2.1 < 0)) == false then
      bif (decide (x.1.2.2.1 > 1000000000)) == false then
        bif (List.length x.1.2.2.2.1 : Int) != (List.length x.1.2.1 : Int) then some (false, (((), (), (), (), ()), ())) else
        l6 ((x.1.1, x.1.2.1, x.1.2.2.1, x.1.2.2.2.1, ()), x.1.2.2.2.1, (List.length x.1.2.2.2.1 : Int), 0, ()) (fun i6 y6 =>
          bif Nat.beq i6 0 then some (true, (((), (), (), (), ()), ())) else
          none)
      else
      some (false, (((), (), (), (), ()), ()))
    else
    some (false, (((), (), (), (), ()), ()))
  else
  some (false, (((), (), (), (), ()), ()))

def I.ValidStream (x : I.ValidStream.A) : Option I.ValidStream.R := I.ValidStream.p I.ValidStream.l6 x
def I.ValidStream.spec : Spec := ⟨I.ValidStream.fa, I.ValidStream.fr, I.ValidStream⟩

/-! loop.example/s01316/impl.packetOk -/
def I.packetOk.fa : Fm := (.cons (.agg (.cons (.int .i64) (.cons (.int .i64) (.cons (.int .i64) (.cons (.int .i64) (.cons .bool (.cons (.sl 5 (.int .u8)) .nil))))))) .nil)
def I.packetOk.fr : Fm := .bool
abbrev I.packetOk.A := (Int × Int × Int × Int × Bool × (List Int) × Unit) × Unit
abbrev I.packetOk.R := Bool × ((Unit × Unit × Unit × Unit × Unit × Unit × Unit) × Unit)
def I.packetOk.o : Orc := []
def I.packetOk (x : I.packetOk.A) : Option I.packetOk.R :=
  bif (decide (x.1.2.1 < 1)) == false then
    bif (decide (x.1.2.1 > 1000000000)) == false then
      bif (decide (x.1.2.2.1 < 0)) == false then
        bif (decide (x.1.2.2.1 > 1000000000000)) == false then
          bif (decide (x.1.2.2.2.1 < 0)) == false then
            bif decide (x.1.2.2.2.1 > 1000000000) then some (false, (((), (), (), (), (), (), ()), ())) else
            bif (!x.1.2.2.2.2.1) == true then
              bif x.1.1 == 1 then
                bif (decide (x.1.2.2.1 < 1000000000000)) == true then
                  bif (x.1.2.2.2.1 == 0) == true then
                    bif (decide ((List.length x.1.2.2.2.2.2.1 : Int) ≥ 1)) == true then
                      some (decide ((List.length x.1.2.2.2.2.2.1 : Int) ≤ 100), (((), (), (), (), (), (), ()), ()))
                    else
                    some (false, (((), (), (), (), (), (), ()), ()))
                  else
                  some (false, (((), (), (), (), (), (), ()), ()))
                else
                some (false, (((), (), (), (), (), (), ()), ()))
              else
              bif x.1.1 == 2 then
                some ((List.length x.1.2.2.2.2.2.1 : Int) == 0, (((), (), (), (), (), (), ()), ()))
              else
              bif x.1.1 == 3 then
                bif ((List.length x.1.2.2.2.2.2.1 : Int) == 0) == true then some (x.1.2.2.1 == 0, (((), (), (), (), (), (), ()), ())) else
                some (false, (((), (), (), (), (), (), ()), ()))
              else
              bif x.1.1 == 4 then
                bif ((List.length x.1.2.2.2.2.2.1 : Int) == 0) == true then
                  bif (x.1.2.2.1 == 0) == true then
                    some (x.1.2.2.2.1 == 0, (((), (), (), (), (), (), ()), ()))
                  else
                  some (false, (((), (), (), (), (), (), ()), ()))
                else
                some (false, (((), (), (), (), (), (), ()), ()))
              else
              some (false, (((), (), (), (), (), (), ()), ()))
            else
            bif x.1.1 == 1 then
              bif (decide (x.1.2.2.1 < 1000000000000)) == true then
                bif (x.1.2.2.2.1 == 0) == true then
                  bif (decide ((List.length x.1.2.2.2.2.2.1 : Int) ≥ 1)) == true then
                    some (decide ((List.length x.1.2.2.2.2.2.1 : Int) ≤ 100), (((), (), (), (), (), (), ()), ()))
                  else
                  some (false, (((), (), (), (), (), (), ()), ()))
                else
                some (false, (((), (), (), (), (), (), ()), ()))
              else
              some (false, (((), (), (), (), (), (), ()), ()))
            else
            bif x.1.1 == 2 then some (false, (((), (), (), (), (), (), ()), ())) else
            bif x.1.1 == 3 then some (false, (((), (), (), (), (), (), ()), ())) else
            bif x.1.1 == 4 then some (false, (((), (), (), (), (), (), ()), ())) else
            some (false, (((), (), (), (), (), (), ()), ()))
          else
          some (false, (((), (), (), (), (), (), ()), ()))
        else
        some (false, (((), (), (), (), (), (), ()), ()))
      else
      some (false, (((), (), (), (), (), (), ()), ()))
    else
    some (false, (((), (), (), (), (), (), ()), ()))
  else
  some (false, (((), (), (), (), (), (), ()), ()))

def I.packetOk.spec : Spec := ⟨I.packetOk.fa, I.packetOk.fr, I.packetOk⟩

/-! loop.example/s01316/impl.ValidIn -/
def I.ValidIn.fa : Fm := (.cons (.agg (.cons (.int .i64) (.cons (.int .i64) (.cons (.sl 55 c55) (.cons (.sl 5 (.int .u8)) .nil))))) .nil)
def I.ValidIn.fr : Fm := .bool
abbrev I.ValidIn.A := (Int × Int × (List DPacket) × (List Int) × Unit) × Unit
abbrev I.ValidIn.R := Bool × ((Unit × Unit × Unit × Unit × Unit) × Unit)
def I.ValidIn.o : Orc := [(104, I.packetOk.spec)]
def I.ValidIn.h5 : Fm := (.cons (.box (.cons (.int .i64) (.cons (.int .i64) (.cons (.sl 55 c55) (.cons (.sl 5 (.int .u8)) .nil))))) (.cons (.int .i64) (.cons (.sl 55 c55) (.cons (.int .i64) (.cons (.int .i64) .nil)))))
def I.ValidIn.e5 : Fm := .nil
abbrev I.ValidIn.H5 := (Int × Int × (List DPacket) × (List Int) × Unit) × Int × (List DPacket) × Int × Int × Unit
abbrev I.ValidIn.E5 := Unit
def I.ValidIn.st5 (Rc : I.ValidIn.H5 → Option I.ValidIn.R) (X : Nat → I.ValidIn.E5 → Option I.ValidIn.R) (x : I.ValidIn.H5) : Option I.ValidIn.R :=
  bif decide (x.2.2.2.2.1 < x.2.2.2.1) then
    ck (decide (0 ≤ x.2.2.2.2.1) && decide (x.2.2.2.2.1 < (List.length x.2.2.1 : Int))) <|
    (I.packetOk (((x.2.2.1.getD (Int.toNat x.2.2.2.2.1) zPacket).1, (x.2.2.1.getD (Int.toNat x.2.2.2.2.1) zPacket).2.1, (x.2.2.1.getD (Int.toNat x.2.2.2.2.1) zPacket).2.2.1, (x.2.2.1.getD (Int.toNat x.2.2.2.2.1) zPacket).2.2.2.1, (x.2.2.1.getD (Int.toNat x.2.2.2.2.1) zPacket).2.2.2.2.1, (x.2.2.1.getD (Int.toNat x.2.2.2.2.1) zPacket).2.2.2.2.2.1, ()), ())).bind fun r1 =>
    bif (!r1.1) == false then
      bif ((x.2.2.1.getD (Int.toNat x.2.2.2.2.1) zPacket).1 != 1) == false then
        bif ((x.2.2.1.getD (Int.toNat x.2.2.2.2.1) zPacket).2.1 != x.1.1) == false then
          bif (decide ((x.2.2.1.getD (Int.toNat x.2.2.2.2.1) zPacket).2.2.1 ≤ x.2.1)) == false then
            bif decide ((x.2.2.1.getD (Int.toNat x.2.2.2.2.1) zPacket).2.2.1 ≥ (wr .i64 (x.1.2.1 + 8))) then some (false, (((), (), (), (), ()), ())) else
            Rc ((x.1.1, x.1.2.1, x.1.2.2.1, x.1.2.2.2.1, ()), (x.2.2.1.getD (Int.toNat x.2.2.2.2.1) zPacket).2.2.1, x.2.2.1, x.2.2.2.1, (wr .i64 (x.2.2.2.2.1 + 1)), ())
          else
          some (false, (((), (), (), (), ()), ()))
        else
        some (false, (((), (), (), (), ()), ()))
      else
      some (false, (((), (), (), (), ()), ()))
    else
    some (false, (((), (), (), (), ()), ()))
  else
  X 0 ()

def I.ValidIn.l5 (x : I.ValidIn.H5) (X : Nat → I.ValidIn.E5 → Option I.ValidIn.R) : Option I.ValidIn.R := rounds (I.ValidIn.st5) big X x
def I.ValidIn.lo5 : LoopO (DenF I.ValidIn.fr × DenB I.ValidIn.fa) := ⟨[1, 3, 39, 40, 41], I.ValidIn.h5, [], I.ValidIn.e5, I.ValidIn.l5⟩
def I.ValidIn.p (l5 : I.ValidIn.H5 → (Nat → I.ValidIn.E5 → Option I.ValidIn.R) → Option I.ValidIn.R) (x : I.ValidIn.A) : Option I.ValidIn.R :=
  bif (decide (x.1.1 < 0)) == false then
    bif (decide (x.1.1 > 1000000000)) == false then
      bif (decide (x.1.2.1 < 0)) == false then
        bif (decide (x.1.2.1 > 1000000000000)) == false then
          bif (decide ((List.length x.1.2.2.2.1 : Int) > 20000)) == false then
            bif decide ((List.length x.1.2.2.1 : Int) > 8) then some (false, (((), (), (), (), ()), ())) else
            l5 ((x.1.1, x.1.2.1, x.1.2.2.1, x.1.2.2.2.1, ()), x.1.2.1, x.1.2.2.1, (List.length x.1.2.2.1 : Int), 0, ()) (fun i5 y5 =>
              bif Nat.beq i5 0 then some (true, (((), (), (), (), ()), ())) else
              none)
          else
          some (false, (((), (), (), (), ()), ()))
        else
        some (false, (((), (), (), (), ()), ()))
      else
      some (false, (((), (), (), (), ()), ()))
    else
    some (false, (((), (), (), (), ()), ()))
  else
  some (false, (((), (), (), (), ()), ()))

def I.ValidIn (x : I.ValidIn.A) : Option I.ValidIn.R := I.ValidIn.p I.ValidIn.l5 x
def I.ValidIn.spec : Spec := ⟨I.ValidIn.fa, I.ValidIn.fr, I.ValidIn⟩

/-! loop.example/s01316/impl.column -/
def I.column.fa : Fm := (.cons (.agg (.cons (.int .i64) (.cons (.sl 137 c131) .nil))) (.cons (.int .i64) .nil))
def I.column.fr : Fm := (.sl 137 c131)
abbrev I.column.A := (Int × (List DCell) × Unit) × Int × Unit
abbrev I.column.R := (List DCell) × ((Unit × Unit × Unit) × Unit × Unit)
def I.column.o : Orc := []
def I.column (x : I.column.A) : Option I.column.R :=
  let v1 : Int := wr .i64 ((wr .i64 (x.2.1 + 1)) * x.1.1)
  ck (decide (0 ≤ (wr .i64 (x.2.1 * x.1.1))) && (decide ((wr .i64 (x.2.1 * x.1.1)) ≤ v1) && decide (v1 ≤ (List.length x.1.2.1 : Int)))) <|
  let v2 : List DCell := (x.1.2.1.take (Int.toNat v1)).drop (Int.toNat (wr .i64 (x.2.1 * x.1.1)))
  some (v2, (((), (), ()), (), ()))

def I.column.spec : Spec := ⟨I.column.fa, I.column.fr, I.column⟩

/-! loop.example/s01316/impl.ValidTable -/
def I.ValidTable.fa : Fm := (.cons (.sl 32 c23) (.cons (.agg (.cons (.int .i64) (.cons (.sl 137 c131) .nil))) .nil))
def I.ValidTable.fr : Fm := .bool
abbrev I.ValidTable.A := (List DField) × (Int × (List DCell) × Unit) × Unit
abbrev I.ValidTable.R := Bool × (Unit × (Unit × Unit × Unit) × Unit)
def I.ValidTable.o : Orc := [(87, I.cellOk.spec), (140, I.ValidFields.spec), (193, I.column.spec)]
def I.ValidTable.h9 : Fm := (.cons (.box (.cons (.int .i64) (.cons (.sl 137 c131) .nil))) (.cons (.int .i64) (.cons (.box (.cons (.sl 5 (.int .u8)) (.cons (.int .i64) (.cons (.int .i64) .nil)))) (.cons .mp (.cons (.sl 32 c23) (.cons (.int .i64) (.cons (.int .i64) (.cons (.sl 137 c131) (.cons (.int .i64) (.cons (.int .i64) .nil))))))))))
def I.ValidTable.e9 : Fm := (.cons (.box (.cons (.int .i64) (.cons (.sl 137 c131) .nil))) (.cons (.int .i64) (.cons (.box (.cons (.sl 5 (.int .u8)) (.cons (.int .i64) (.cons (.int .i64) .nil)))) (.cons .mp (.cons (.sl 32 c23) (.cons (.int .i64) (.cons (.int .i64) .nil)))))))
abbrev I.ValidTable.H9 := (Int × (List DCell) × Unit) × Int × ((List Int) × Int × Int × Unit) × (List (ByteArray × Int)) × (List DField) × Int × Int × (List DCell) × Int × Int × Unit
abbrev I.ValidTable.E9 := (Int × (List DCell) × Unit) × Int × ((List Int) × Int × Int × Unit) × (List (ByteArray × Int)) × (List DField) × Int × Int × Unit
def I.ValidTable.st9 (Rc : I.ValidTable.H9 → Option I.ValidTable.R) (X : Nat → I.ValidTable.E9 → Option I.ValidTable.R) (x : I.ValidTable.H9) : Option I.ValidTable.R :=
  bif decide (x.2.2.2.2.2.2.2.2.2.1 < x.2.2.2.2.2.2.2.2.1) then
    ck (decide (0 ≤ x.2.2.2.2.2.2.2.2.2.1) && decide (x.2.2.2.2.2.2.2.2.2.1 < (List.length x.2.2.2.2.2.2.2.1 : Int))) <|
    (I.cellOk ((x.2.2.1.1, x.2.2.1.2.1, x.2.2.1.2.2.1, ()), ((x.2.2.2.2.2.2.2.1.getD (Int.toNat x.2.2.2.2.2.2.2.2.2.1) zCell).1, (x.2.2.2.2.2.2.2.1.getD (Int.toNat x.2.2.2.2.2.2.2.2.2.1) zCell).2.1, (x.2.2.2.2.2.2.2.1.getD (Int.toNat x.2.2.2.2.2.2.2.2.2.1) zCell).2.2.1, ()), ())).bind fun r1 =>
    bif !r1.1 then some (false, ((), ((), (), ()), ())) else
    let v2 : Int := wr .i64 (x.2.1 + (List.length (x.2.2.2.2.2.2.2.1.getD (Int.toNat x.2.2.2.2.2.2.2.2.2.1) zCell).2.2.1 : Int))
    bif !(x.2.2.2.2.2.2.2.1.getD (Int.toNat x.2.2.2.2.2.2.2.2.2.1) zCell).1 then
      let v3 : Int := wr .i64 ((mget (strOf (x.2.2.2.2.2.2.2.1.getD (Int.toNat x.2.2.2.2.2.2.2.2.2.1) zCell).2.2.1) x.2.2.2.1) + 1)
      let v4 : List (ByteArray × Int) := mput (strOf (x.2.2.2.2.2.2.2.1.getD (Int.toNat x.2.2.2.2.2.2.2.2.2.1) zCell).2.2.1) v3 x.2.2.2.1
      let v5 : Int := wr .i64 (x.2.2.2.2.2.2.2.2.2.1 + 1)
      Rc ((x.1.1, x.1.2.1, ()), v2, (x.2.2.1.1, x.2.2.1.2.1, x.2.2.1.2.2.1, ()), v4, x.2.2.2.2.1, x.2.2.2.2.2.1, x.2.2.2.2.2.2.1, x.2.2.2.2.2.2.2.1, x.2.2.2.2.2.2.2.2.1, v5, ())
    else
    let v6 : Int := wr .i64 (x.2.2.2.2.2.2.2.2.2.1 + 1)
    Rc ((x.1.1, x.1.2.1, ()), v2, (x.2.2.1.1, x.2.2.1.2.1, x.2.2.1.2.2.1, ()), x.2.2.2.1, x.2.2.2.2.1, x.2.2.2.2.2.1, x.2.2.2.2.2.2.1, x.2.2.2.2.2.2.2.1, x.2.2.2.2.2.2.2.2.1, v6, ())
  else
  X 2 ((x.1.1, x.1.2.1, ()), x.2.1, (x.2.2.1.1, x.2.2.1.2.1, x.2.2.1.2.2.1, ()), x.2.2.2.1, x.2.2.2.2.1, x.2.2.2.2.2.1, x.2.2.2.2.2.2.1, ())

def I.ValidTable.l9 (x : I.ValidTable.H9) (X : Nat → I.ValidTable.E9 → Option I.ValidTable.R) : Option I.ValidTable.R := rounds (I.ValidTable.st9) big X x
def I.ValidTable.lo9 : LoopO (DenF I.ValidTable.fr × DenB I.ValidTable.fa) := ⟨[3, 5, 7, 8, 35, 36, 37, 45, 46, 47], I.ValidTable.h9, [3, 5, 7, 8, 35, 36, 37], I.ValidTable.e9, I.ValidTable.l9⟩
def I.ValidTable.h5 : Fm := (.cons (.box (.cons (.int .i64) (.cons (.sl 137 c131) .nil))) (.cons (.int .i64) (.cons (.sl 32 c23) (.cons (.int .i64) (.cons (.int .i64) .nil)))))
def I.ValidTable.e5 : Fm := (.cons (.int .i64) .nil)
abbrev I.ValidTable.H5 := (Int × (List DCell) × Unit) × Int × (List DField) × Int × Int × Unit
abbrev I.ValidTable.E5 := Int × Unit
def I.ValidTable.st5 (l9 : I.ValidTable.H9 → (Nat → I.ValidTable.E9 → Option I.ValidTable.R) → Option I.ValidTable.R) (Rc : I.ValidTable.H5 → Option I.ValidTable.R) (X : Nat → I.ValidTable.E5 → Option I.ValidTable.R) (x : I.ValidTable.H5) : Option I.ValidTable.R :=
  bif decide (x.2.2.2.2.1 < x.2.2.2.1) then
    ck (decide (0 ≤ x.2.2.2.2.1) && decide (x.2.2.2.2.1 < (List.length x.2.2.1 : Int))) <|
    (I.column ((x.1.1, x.1.2.1, ()), x.2.2.2.2.1, ())).bind fun r1 =>
    l9 ((x.1.1, x.1.2.1, ()), x.2.1, ((x.2.2.1.getD (Int.toNat x.2.2.2.2.1) zField).1, (x.2.2.1.getD (Int.toNat x.2.2.2.2.1) zField).2.1, (x.2.2.1.getD (Int.toNat x.2.2.2.2.1) zField).2.2.1, ()), ([] : List (ByteArray × Int)), x.2.2.1, x.2.2.2.1, x.2.2.2.2.1, r1.1, (List.length r1.1 : Int), 0, ()) (fun i9 y9 =>
      bif Nat.beq i9 2 then
        bif (y9.2.2.1.2.1 == 3) == true then
          bif decide ((List.length y9.2.2.2.1 : Int) > 40) then some (false, ((), ((), (), ()), ())) else
          let v2 : Int := wr .i64 (y9.2.2.2.2.2.2.1 + 1)
          Rc ((y9.1.1, y9.1.2.1, ()), y9.2.1, y9.2.2.2.2.1, y9.2.2.2.2.2.1, v2, ())
        else
        let v3 : Int := wr .i64 (y9.2.2.2.2.2.2.1 + 1)
        Rc ((y9.1.1, y9.1.2.1, ()), y9.2.1, y9.2.2.2.2.1, y9.2.2.2.2.2.1, v3, ())
      else
      bif Nat.beq i9 1 then
        let v4 : Int := wr .i64 (y9.2.2.2.2.2.2.1 + 1)
        Rc ((y9.1.1, y9.1.2.1, ()), y9.2.1, y9.2.2.2.2.1, y9.2.2.2.2.2.1, v4, ())
      else
      X i9 (y9.2.1, ()))
  else
  X 0 (x.2.1, ())

def I.ValidTable.l5 (x : I.ValidTable.H5) (X : Nat → I.ValidTable.E5 → Option I.ValidTable.R) : Option I.ValidTable.R := rounds (I.ValidTable.st5 I.ValidTable.l9) big X x
def I.ValidTable.lo5 : LoopO (DenF I.ValidTable.fr × DenB I.ValidTable.fa) := ⟨[3, 5, 35, 36, 37], I.ValidTable.h5, [5], I.ValidTable.e5, I.ValidTable.l5⟩
def I.ValidTable.p (l5 : I.ValidTable.H5 → (Nat → I.ValidTable.E5 → Option I.ValidTable.R) → Option I.ValidTable.R) (x : I.ValidTable.A) : Option I.ValidTable.R :=
  (I.ValidFields (x.1, ())).bind fun r1 =>
  bif (!r1.1) == false then
    bif (decide (x.2.1.1 < 0)) == false then
      bif (decide (x.2.1.1 > 100)) == false then
        let v2 : Int := wr .i64 (x.2.1.1 * (List.length x.1 : Int))
        bif (List.length x.2.1.2.1 : Int) != v2 then some (false, ((), ((), (), ()), ())) else
        l5 ((x.2.1.1, x.2.1.2.1, ()), 0, x.1, (List.length x.1 : Int), 0, ()) (fun i5 y5 =>
          bif Nat.beq i5 0 then some (decide (y5.1 ≤ 4000), ((), ((), (), ()), ())) else
          none)
      else
      some (false, ((), ((), (), ()), ()))
    else
    some (false, ((), ((), (), ()), ()))
  else
  some (false, ((), ((), (), ()), ()))

def I.ValidTable (x : I.ValidTable.A) : Option I.ValidTable.R := I.ValidTable.p I.ValidTable.l5 x
def I.ValidTable.spec : Spec := ⟨I.ValidTable.fa, I.ValidTable.fr, I.ValidTable⟩

/-! loop.example/s01316/impl.ValidReceiver$1 -/
def I.ValidReceiver_f1.fa : Fm := (.cons (.agg (.cons (.int .i64) (.cons (.sl 137 c131) .nil))) (.cons (.ptr c90) .nil))
def I.ValidReceiver_f1.fr : Fm := .bool
abbrev I.ValidReceiver_f1.A := (Int × (List DCell) × Unit) × DReceiver × Unit
abbrev I.ValidReceiver_f1.R := Bool × ((Unit × Unit × Unit) × Unit × Unit)
def I.ValidReceiver_f1.o : Orc := [(132, I.ValidTable.spec)]
def I.ValidReceiver_f1 (x : I.ValidReceiver_f1.A) : Option I.ValidReceiver_f1.R :=
  (I.ValidTable (x.2.1.2.2.2.2.1.2.1, (x.1.1, x.1.2.1, ()), ())).bind fun r1 =>
  some (!r1.1, (((), (), ()), (), ()))

def I.ValidReceiver_f1.spec : Spec := ⟨I.ValidReceiver_f1.fa, I.ValidReceiver_f1.fr, I.ValidReceiver_f1⟩

/-! slices.IndexFunc[[]loop.example/s01316/impl.Table,loop.example/s01316/impl.Table] -/
def B.slices_IndexFunc_Table_ValidReceiver_f1.fa : Fm := (.cons (.sl 186 c186) (.cons (.clo 131 (.cons (.ptr c90) .nil)) .nil))
def B.slices_IndexFunc_Table_ValidReceiver_f1.fr : Fm := (.int .i64)
abbrev B.slices_IndexFunc_Table_ValidReceiver_f1.A := (List DTable) × (DReceiver × Unit) × Unit
abbrev B.slices_IndexFunc_Table_ValidReceiver_f1.R := Int × (Unit × Unit × Unit)
def B.slices_IndexFunc_Table_ValidReceiver_f1.o : Orc := [(131, I.ValidReceiver_f1.spec)]
def B.slices_IndexFunc_Table_ValidReceiver_f1.h2 : Fm := (.cons (.sl 186 c186) (.cons (.clo 131 (.cons (.ptr c90) .nil)) (.cons (.int .i64) (.cons (.int .i64) .nil))))
def B.slices_IndexFunc_Table_ValidReceiver_f1.e2 : Fm := .nil
abbrev B.slices_IndexFunc_Table_ValidReceiver_f1.H2 := (List DTable) × (DReceiver × Unit) × Int × Int × Unit
abbrev B.slices_IndexFunc_Table_ValidReceiver_f1.E2 := Unit
def B.slices_IndexFunc_Table_ValidReceiver_f1.st2 (Rc : B.slices_IndexFunc_Table_ValidReceiver_f1.H2 → Option B.slices_IndexFunc_Table_ValidReceiver_f1.R) (X : Nat → B.slices_IndexFunc_Table_ValidReceiver_f1.E2 → Option B.slices_IndexFunc_Table_ValidReceiver_f1.R) (x : B.slices_IndexFunc_Table_ValidReceiver_f1.H2) : Option B.slices_IndexFunc_Table_ValidReceiver_f1.R :=
  bif decide (x.2.2.2.1 < x.2.2.1) then
    ck (decide (0 ≤ x.2.2.2.1) && decide (x.2.2.2.1 < (List.length x.1 : Int))) <|
    (I.ValidReceiver_f1 (((x.1.getD (Int.toNat x.2.2.2.1) zTable).1, (x.1.getD (Int.toNat x.2.2.2.1) zTable).2.1, ()), x.2.1.1, ())).bind fun r1 =>
    bif r1.1 then some (x.2.2.2.1, ((), (), ())) else
    Rc (x.1, (x.2.1.1, ()), x.2.2.1, (wr .i64 (x.2.2.2.1 + 1)), ())
  else
  X 0 ()

def B.slices_IndexFunc_Table_ValidReceiver_f1.l2 (x : B.slices_IndexFunc_Table_ValidReceiver_f1.H2) (X : Nat → B.slices_IndexFunc_Table_ValidReceiver_f1.E2 → Option B.slices_IndexFunc_Table_ValidReceiver_f1.R) : Option B.slices_IndexFunc_Table_ValidReceiver_f1.R := rounds (B.slices_IndexFunc_Table_ValidReceiver_f1.st2) big X x
def B.slices_IndexFunc_Table_ValidReceiver_f1.lo2 : LoopO (DenF B.slices_IndexFunc_Table_ValidReceiver_f1.fr × DenB B.slices_IndexFunc_Table_ValidReceiver_f1.fa) := ⟨[0, 1, 7, 8], B.slices_IndexFunc_Table_ValidReceiver_f1.h2, [], B.slices_IndexFunc_Table_ValidReceiver_f1.e2, B.slices_IndexFunc_Table_ValidReceiver_f1.l2⟩
def B.slices_IndexFunc_Table_ValidReceiver_f1.p (l2 : B.slices_IndexFunc_Table_ValidReceiver_f1.H2 → (Nat → B.slices_IndexFunc_Table_ValidReceiver_f1.E2 → Option B.slices_IndexFunc_Table_ValidReceiver_f1.R) → Option B.slices_IndexFunc_Table_ValidReceiver_f1.R) (x : B.slices_IndexFunc_Table_ValidReceiver_f1.A) : Option B.slices_IndexFunc_Table_ValidReceiver_f1.R :=
  l2 (x.1, (x.2.1.1, ()), (List.length x.1 : Int), 0, ()) (fun i2 y2 =>
    bif Nat.beq i2 0 then some (-1, ((), (), ())) else
    none)

def B.slices_IndexFunc_Table_ValidReceiver_f1 (x : B.slices_IndexFunc_Table_ValidReceiver_f1.A) : Option B.slices_IndexFunc_Table_ValidReceiver_f1.R := B.slices_IndexFunc_Table_ValidReceiver_f1.p B.slices_IndexFunc_Table_ValidReceiver_f1.l2 x
def B.slices_IndexFunc_Table_ValidReceiver_f1.spec : Spec := ⟨B.slices_IndexFunc_Table_ValidReceiver_f1.fa, B.slices_IndexFunc_Table_ValidReceiver_f1.fr, B.slices_IndexFunc_Table_ValidReceiver_f1⟩

/-! slices.ContainsFunc[[]loop.example/s01316/impl.Table,loop.example/s01316/impl.Table] -/
def B.slices_ContainsFunc_Table_ValidReceiver_f1.fa : Fm := (.cons (.sl 186 c186) (.cons (.clo 131 (.cons (.ptr c90) .nil)) .nil))
def B.slices_ContainsFunc_Table_ValidReceiver_f1.fr : Fm := .bool
abbrev B.slices_ContainsFunc_Table_ValidReceiver_f1.A := (List DTable) × (DReceiver × Unit) × Unit
abbrev B.slices_ContainsFunc_Table_ValidReceiver_f1.R := Bool × (Unit × Unit × Unit)
def B.slices_ContainsFunc_Table_ValidReceiver_f1.o : Orc := [(192, B.slices_IndexFunc_Table_ValidReceiver_f1.spec)]
def B.slices_ContainsFunc_Table_ValidReceiver_f1 (x : B.slices_ContainsFunc_Table_ValidReceiver_f1.A) : Option B.slices_ContainsFunc_Table_ValidReceiver_f1.R :=
  (B.slices_IndexFunc_Table_ValidReceiver_f1 (x.1, (x.2.1.1, ()), ())).bind fun r1 =>
  some (decide (r1.1 ≥ 0), ((), (), ()))

def B.slices_ContainsFunc_Table_ValidReceiver_f1.spec : Spec := ⟨B.slices_ContainsFunc_Table_ValidReceiver_f1.fa, B.slices_ContainsFunc_Table_ValidReceiver_f1.fr, B.slices_ContainsFunc_Table_ValidReceiver_f1⟩

/-! loop.example/s01316/impl.ValidReceiver -/
def I.ValidReceiver.fa : Fm := (.cons (.agg (.cons (.int .i64) (.cons (.int .i64) (.cons .bool (.cons (.int .i64) (.cons (.int .i64) (.cons (.sl 55 c55) (.cons (.sl 5 (.int .u8)) (.cons .bool (.cons (.sl 32 c23) (.cons (.int .i64) (.cons (.sl 26 (.sl 22 (.sl 5 (.int .u8)))) (.cons (.sl 186 c186) (.cons (.int .i64) .nil)))))))))))))) .nil)
def I.ValidReceiver.fr : Fm := .bool
abbrev I.ValidReceiver.A := (Int × Int × Bool × Int × Int × (List DPacket) × (List Int) × Bool × (List DField) × Int × (List (List (List Int))) × (List DTable) × Int × Unit) × Unit
abbrev I.ValidReceiver.R := Bool × ((Unit × Unit × Unit × Unit × Unit × Unit × Unit × Unit × Unit × Unit × Unit × Unit × Unit × Unit) × Unit)
def I.ValidReceiver.o : Orc := [(103, I.ValidIn.spec), (129, I.ValidStream.spec), (130, B.slices_ContainsFunc_Table_ValidReceiver_f1.spec)]
def I.ValidReceiver (x : I.ValidReceiver.A) : Option I.ValidReceiver.R :=
  bif (decide (x.1.1 < 0)) == false then
    bif (decide (x.1.1 > 1000000000)) == false then
      bif (decide (x.1.2.1 < 0)) == false then
        bif (decide (x.1.2.1 > 1000000000)) == false then
          bif (decide (x.1.2.2.2.2.2.2.2.2.2.2.2.2.1 < 0)) == false then
            bif decide (x.1.2.2.2.2.2.2.2.2.2.2.2.2.1 > 1000000000) then
              some (false, (((), (), (), (), (), (), (), (), (), (), (), (), (), ()), ()))
            else
            bif !x.1.2.2.1 then
              bif (x.1.2.2.2.1 == 0) == true then
                bif (x.1.2.2.2.2.1 == 0) == true then
                  bif ((List.length x.1.2.2.2.2.2.1 : Int) == 0) == true then
                    bif ((List.length x.1.2.2.2.2.2.2.1 : Int) == 0) == true then
                      bif (!x.1.2.2.2.2.2.2.2.1) == true then
                        (I.ValidStream ((x.1.2.2.2.2.2.2.2.1, x.1.2.2.2.2.2.2.2.2.1, x.1.2.2.2.2.2.2.2.2.2.1, x.1.2.2.2.2.2.2.2.2.2.2.1, ()), ())).bind fun r1 =>
                        bif r1.1 == true then
                          some ((List.length x.1.2.2.2.2.2.2.2.2.2.2.2.1 : Int) == 0, (((), (), (), (), (), (), (), (), (), (), (), (), (), ()), ()))
                        else
                        some (false, (((), (), (), (), (), (), (), (), (), (), (), (), (), ()), ()))
                      else
                      some (false, (((), (), (), (), (), (), (), (), (), (), (), (), (), ()), ()))
                    else
                    some (false, (((), (), (), (), (), (), (), (), (), (), (), (), (), ()), ()))
                  else
                  some (false, (((), (), (), (), (), (), (), (), (), (), (), (), (), ()), ()))
                else
                some (false, (((), (), (), (), (), (), (), (), (), (), (), (), (), ()), ()))
              else
              some (false, (((), (), (), (), (), (), (), (), (), (), (), (), (), ()), ()))
            else
            bif (decide (x.1.1 < 1)) == false then
              bif (x.1.2.2.2.1 != x.1.1) == false then
                (I.ValidIn ((x.1.2.2.2.1, x.1.2.2.2.2.1, x.1.2.2.2.2.2.1, x.1.2.2.2.2.2.2.1, ()), ())).bind fun r2 =>
                bif (!r2.1) == false then
                  (I.ValidStream ((x.1.2.2.2.2.2.2.2.1, x.1.2.2.2.2.2.2.2.2.1, x.1.2.2.2.2.2.2.2.2.2.1, x.1.2.2.2.2.2.2.2.2.2.2.1, ()), ())).bind fun r3 =>
                  bif (!r3.1) == false then
                    bif decide ((List.length x.1.2.2.2.2.2.2.2.2.2.2.2.1 : Int) > 20) then
                      some (false, (((), (), (), (), (), (), (), (), (), (), (), (), (), ()), ()))
                    else
                    bif !x.1.2.2.2.2.2.2.2.1 then
                      some ((List.length x.1.2.2.2.2.2.2.2.2.2.2.2.1 : Int) == 0, (((), (), (), (), (), (), (), (), (), (), (), (), (), ()), ()))
                    else
                    (B.slices_ContainsFunc_Table_ValidReceiver_f1 (x.1.2.2.2.2.2.2.2.2.2.2.2.1, ((x.1.1, (x.1.2.1, (x.1.2.2.1, ((x.1.2.2.2.1, (x.1.2.2.2.2.1, (x.1.2.2.2.2.2.1, (x.1.2.2.2.2.2.2.1, ())))), ((x.1.2.2.2.2.2.2.2.1, (x.1.2.2.2.2.2.2.2.2.1, (x.1.2.2.2.2.2.2.2.2.2.1, (x.1.2.2.2.2.2.2.2.2.2.2.1, ())))), (x.1.2.2.2.2.2.2.2.2.2.2.2.1, (x.1.2.2.2.2.2.2.2.2.2.2.2.2.1, ()))))))), ()), ())).bind fun r4 =>
                    bif r4.1 then
                      some (false, (((), (), (), (), (), (), (), (), (), (), (), (), (), ()), ()))
                    else
                    let v5 : Int := wr .i64 (x.1.2.1 + (List.length x.1.2.2.2.2.2.2.2.2.2.2.2.1 : Int))
                    bif (decide (v5 ≥ x.1.2.2.2.2.2.2.2.2.2.1)) == true then
                      bif ((List.length x.1.2.2.2.2.2.2.2.2.2.2.2.1 : Int) == 0) == false then
                        some (v5 == x.1.2.2.2.2.2.2.2.2.2.1, (((), (), (), (), (), (), (), (), (), (), (), (), (), ()), ()))
                      else
                      some (true, (((), (), (), (), (), (), (), (), (), (), (), (), (), ()), ()))
                    else
                    some (false, (((), (), (), (), (), (), (), (), (), (), (), (), (), ()), ()))
                  else
                  some (false, (((), (), (), (), (), (), (), (), (), (), (), (), (), ()), ()))
                else
                some (false, (((), (), (), (), (), (), (), (), (), (), (), (), (), ()), ()))
              else
              some (false, (((), (), (), (), (), (), (), (), (), (), (), (), (), ()), ()))
            else
            some (false, (((), (), (), (), (), (), (), (), (), (), (), (), (), ()), ()))
          else
          some (false, (((), (), (), (), (), (), (), (), (), (), (), (), (), ()), ()))
        else
        some (false, (((), (), (), (), (), (), (), (), (), (), (), (), (), ()), ()))
      else
      some (false, (((), (), (), (), (), (), (), (), (), (), (), (), (), ()), ()))
    else
    some (false, (((), (), (), (), (), (), (), (), (), (), (), (), (), ()), ()))
  else
  some (false, (((), (), (), (), (), (), (), (), (), (), (), (), (), ()), ()))

def I.ValidReceiver.spec : Spec := ⟨I.ValidReceiver.fa, I.ValidReceiver.fr, I.ValidReceiver⟩

/-! loop.example/s01316/laws.eqPacket -/
def L.eqPacket.fa : Fm := (.cons (.agg (.cons (.int .i64) (.cons (.int .i64) (.cons (.int .i64) (.cons (.int .i64) (.cons .bool (.cons (.sl 5 (.int .u8)) .nil))))))) (.cons (.agg (.cons (.int .i64) (.cons (.int .i64) (.cons (.int .i64) (.cons (.int .i64) (.cons .bool (.cons (.sl 5 (.int .u8)) .nil))))))) .nil))
def L.eqPacket.fr : Fm := .bool
abbrev L.eqPacket.A := (Int × Int × Int × Int × Bool × (List Int) × Unit) × (Int × Int × Int × Int × Bool × (List Int) × Unit) × Unit
abbrev L.eqPacket.R := Bool × ((Unit × Unit × Unit × Unit × Unit × Unit × Unit) × (Unit × Unit × Unit × Unit × Unit × Unit × Unit) × Unit)
def L.eqPacket.o : Orc := [(91, L.eqByteS.spec)]
def L.eqPacket (x : L.eqPacket.A) : Option L.eqPacket.R :=
  bif x.1.1 != x.2.1.1 then
    some (false, (((), (), (), (), (), (), ()), ((), (), (), (), (), (), ()), ()))
  else
  bif x.1.2.1 != x.2.1.2.1 then
    some (false, (((), (), (), (), (), (), ()), ((), (), (), (), (), (), ()), ()))
  else
  bif x.1.2.2.1 != x.2.1.2.2.1 then
    some (false, (((), (), (), (), (), (), ()), ((), (), (), (), (), (), ()), ()))
  else
  bif x.1.2.2.2.1 != x.2.1.2.2.2.1 then
    some (false, (((), (), (), (), (), (), ()), ((), (), (), (), (), (), ()), ()))
  else
  bif !(x.1.2.2.2.2.1 == x.2.1.2.2.2.2.1) then
    some (false, (((), (), (), (), (), (), ()), ((), (), (), (), (), (), ()), ()))
  else
  (L.eqByteS (x.1.2.2.2.2.2.1, x.2.1.2.2.2.2.2.1, ())).bind fun r1 =>
  bif !r1.1 then
    some (false, (((), (), (), (), (), (), ()), ((), (), (), (), (), (), ()), ()))
  else
  some (true, (((), (), (), (), (), (), ()), ((), (), (), (), (), (), ()), ()))

def L.eqPacket.spec : Spec := ⟨L.eqPacket.fa, L.eqPacket.fr, L.eqPacket⟩

/-! loop.example/s01316/laws.eqPacketS -/
def L.eqPacketS.fa : Fm := (.cons (.sl 55 c55) (.cons (.sl 55 c55) .nil))
def L.eqPacketS.fr : Fm := .bool
abbrev L.eqPacketS.A := (List DPacket) × (List DPacket) × Unit
abbrev L.eqPacketS.R := Bool × (Unit × Unit × Unit)
def L.eqPacketS.o : Orc := [(42, L.eqPacket.spec)]
def L.eqPacketS.h4 : Fm := (.cons (.sl 55 c55) (.cons (.sl 55 c55) (.cons (.int .i64) .nil)))
def L.eqPacketS.e4 : Fm := .nil
abbrev L.eqPacketS.H4 := (List DPacket) × (List DPacket) × Int × Unit
abbrev L.eqPacketS.E4 := Unit
def L.eqPacketS.st4 (Rc : L.eqPacketS.H4 → Option L.eqPacketS.R) (X : Nat → L.eqPacketS.E4 → Option L.eqPacketS.R) (x : L.eqPacketS.H4) : Option L.eqPacketS.R :=
  bif decide (x.2.2.1 < (List.length x.1 : Int)) then
    ck (decide (0 ≤ x.2.2.1) && decide (x.2.2.1 < (List.length x.1 : Int))) <|
    ck (decide (0 ≤ x.2.2.1) && decide (x.2.2.1 < (List.length x.2.1 : Int))) <|
    (L.eqPacket (((x.1.getD (Int.toNat x.2.2.1) zPacket).1, (x.1.getD (Int.toNat x.2.2.1) zPacket).2.1, (x.1.getD (Int.toNat x.2.2.1) zPacket).2.2.1, (x.1.getD (Int.toNat x.2.2.1) zPacket).2.2.2.1, (x.1.getD (Int.toNat x.2.2.1) zPacket).2.2.2.2.1, (x.1.getD (Int.toNat x.2.2.1) zPacket).2.2.2.2.2.1, ()), ((x.2.1.getD (Int.toNat x.2.2.1) zPacket).1, (x.2.1.getD (Int.toNat x.2.2.1) zPacket).2.1, (x.2.1.getD (Int.toNat x.2.2.1) zPacket).2.2.1, (x.2.1.getD (Int.toNat x.2.2.1) zPacket).2.2.2.1, (x.2.1.getD (Int.toNat x.2.2.1) zPacket).2.2.2.2.1, (x.2.1.getD (Int.toNat x.2.2.1) zPacket).2.2.2.2.2.1, ()), ())).bind fun r1 =>
    bif !r1.1 then some (false, ((), (), ())) else
    Rc (x.1, x.2.1, (wr .i64 (x.2.2.1 + 1)), ())
  else
  X 0 ()

def L.eqPacketS.l4 (x : L.eqPacketS.H4) (X : Nat → L.eqPacketS.E4 → Option L.eqPacketS.R) : Option L.eqPacketS.R := rounds (L.eqPacketS.st4) big X x
def L.eqPacketS.lo4 : LoopO (DenF L.eqPacketS.fr × DenB L.eqPacketS.fa) := ⟨[0, 1, 5], L.eqPacketS.h4, [], L.eqPacketS.e4, L.eqPacketS.l4⟩
def L.eqPacketS.p (l4 : L.eqPacketS.H4 → (Nat → L.eqPacketS.E4 → Option L.eqPacketS.R) → Option L.eqPacketS.R) (x : L.eqPacketS.A) : Option L.eqPacketS.R :=
  bif (List.length x.1 : Int) != (List.length x.2.1 : Int) then some (false, ((), (), ())) else
  l4 (x.1, x.2.1, 0, ()) (fun i4 y4 =>
    bif Nat.beq i4 0 then some (true, ((), (), ())) else
    none)

def L.eqPacketS (x : L.eqPacketS.A) : Option L.eqPacketS.R := L.eqPacketS.p L.eqPacketS.l4 x
def L.eqPacketS.spec : Spec := ⟨L.eqPacketS.fa, L.eqPacketS.fr, L.eqPacketS⟩

/-! loop.example/s01316/laws.eqLinkIn -/
def L.eqLinkIn.fa : Fm := (.cons (.agg (.cons (.int .i64) (.cons (.int .i64) (.cons (.sl 55 c55) (.cons (.sl 5 (.int .u8)) .nil))))) (.cons (.agg (.cons (.int .i64) (.cons (.int .i64) (.cons (.sl 55 c55) (.cons (.sl 5 (.int .u8)) .nil))))) .nil))
def L.eqLinkIn.fr : Fm := .bool
abbrev L.eqLinkIn.A := (Int × Int × (List DPacket) × (List Int) × Unit) × (Int × Int × (List DPacket) × (List Int) × Unit) × Unit
abbrev L.eqLinkIn.R := Bool × ((Unit × Unit × Unit × Unit × Unit) × (Unit × Unit × Unit × Unit × Unit) × Unit)
def L.eqLinkIn.o : Orc := [(91, L.eqByteS.spec), (120, L.eqPacketS.spec)]
def L.eqLinkIn (x : L.eqLinkIn.A) : Option L.eqLinkIn.R :=
  bif x.1.1 != x.2.1.1 then
    some (false, (((), (), (), (), ()), ((), (), (), (), ()), ()))
  else
  bif x.1.2.1 != x.2.1.2.1 then
    some (false, (((), (), (), (), ()), ((), (), (), (), ()), ()))
  else
  (L.eqPacketS (x.1.2.2.1, x.2.1.2.2.1, ())).bind fun r1 =>
  bif !r1.1 then
    some (false, (((), (), (), (), ()), ((), (), (), (), ()), ()))
  else
  (L.eqByteS (x.1.2.2.2.1, x.2.1.2.2.2.1, ())).bind fun r2 =>
  bif !r2.1 then
    some (false, (((), (), (), (), ()), ((), (), (), (), ()), ()))
  else
  some (true, (((), (), (), (), ()), ((), (), (), (), ()), ()))

def L.eqLinkIn.spec : Spec := ⟨L.eqLinkIn.fa, L.eqLinkIn.fr, L.eqLinkIn⟩

/-! loop.example/s01316/laws.eqFieldS -/
def L.eqFieldS.fa : Fm := (.cons (.sl 32 c23) (.cons (.sl 32 c23) .nil))
def L.eqFieldS.fr : Fm := .bool
abbrev L.eqFieldS.A := (List DField) × (List DField) × Unit
abbrev L.eqFieldS.R := Bool × (Unit × Unit × Unit)
def L.eqFieldS.o : Orc := [(21, L.eqField.spec)]
def L.eqFieldS.h4 : Fm := (.cons (.sl 32 c23) (.cons (.sl 32 c23) (.cons (.int .i64) .nil)))
def L.eqFieldS.e4 : Fm := .nil
abbrev L.eqFieldS.H4 := (List DField) × (List DField) × Int × Unit
abbrev L.eqFieldS.E4 := Unit
def L.eqFieldS.st4 (Rc : L.eqFieldS.H4 → Option L.eqFieldS.R) (X : Nat → L.eqFieldS.E4 → Option L.eqFieldS.R) (x : L.eqFieldS.H4) : Option L.eqFieldS.R :=
  bif decide (x.2.2.1 < (List.length x.1 : Int)) then
    ck (decide (0 ≤ x.2.2.1) && decide (x.2.2.1 < (List.length x.1 : Int))) <|
    ck (decide (0 ≤ x.2.2.1) && decide (x.2.2.1 < (List.length x.2.1 : Int))) <|
    (L.eqField (((x.1.getD (Int.toNat x.2.2.1) zField).1, (x.1.getD (Int.toNat x.2.2.1) zField).2.1, (x.1.getD (Int.toNat x.2.2.1) zField).2.2.1, ()), ((x.2.1.getD (Int.toNat x.2.2.1) zField).1, (x.2.1.getD (Int.toNat x.2.2.1) zField).2.1, (x.2.1.getD (Int.toNat x.2.2.1) zField).2.2.1, ()), ())).bind fun r1 =>
    bif !r1.1 then some (false, ((), (), ())) else
    Rc (x.1, x.2.1, (wr .i64 (x.2.2.1 + 1)), ())
  else
  X 0 ()

def L.eqFieldS.l4 (x : L.eqFieldS.H4) (X : Nat → L.eqFieldS.E4 → Option L.eqFieldS.R) : Option L.eqFieldS.R := rounds (L.eqFieldS.st4) big X x
def L.eqFieldS.lo4 : LoopO (DenF L.eqFieldS.fr × DenB L.eqFieldS.fa) := ⟨[0, 1, 5], L.eqFieldS.h4, [], L.eqFieldS.e4, L.eqFieldS.l4⟩
def L.eqFieldS.p (l4 : L.eqFieldS.H4 → (Nat → L.eqFieldS.E4 → Option L.eqFieldS.R) → Option L.eqFieldS.R) (x : L.eqFieldS.A) : Option L.eqFieldS.R :=
  bif (List.length x.1 : Int) != (List.length x.2.1 : Int) then some (false, ((), (), ())) else
  l4 (x.1, x.2.1, 0, ()) (fun i4 y4 =>
    bif Nat.beq i4 0 then some (true, ((), (), ())) else
    none)

def L.eqFieldS (x : L.eqFieldS.A) : Option L.eqFieldS.R := L.eqFieldS.p L.eqFieldS.l4 x
def L.eqFieldS.spec : Spec := ⟨L.eqFieldS.fa, L.eqFieldS.fr, L.eqFieldS⟩

/-! loop.example/s01316/laws.eqByteSSS -/
def L.eqByteSSS.fa : Fm := (.cons (.sl 26 (.sl 22 (.sl 5 (.int .u8)))) (.cons (.sl 26 (.sl 22 (.sl 5 (.int .u8)))) .nil))
def L.eqByteSSS.fr : Fm := .bool
abbrev L.eqByteSSS.A := (List (List (List Int))) × (List (List (List Int))) × Unit
abbrev L.eqByteSSS.R := Bool × (Unit × Unit × Unit)
def L.eqByteSSS.o : Orc := [(20, L.eqByteSS.spec)]
def L.eqByteSSS.h4 : Fm := (.cons (.sl 26 (.sl 22 (.sl 5 (.int .u8)))) (.cons (.sl 26 (.sl 22 (.sl 5 (.int .u8)))) (.cons (.int .i64) .nil)))
def L.eqByteSSS.e4 : Fm := .nil
abbrev L.eqByteSSS.H4 := (List (List (List Int))) × (List (List (List Int))) × Int × Unit
abbrev L.eqByteSSS.E4 := Unit
def L.eqByteSSS.st4 (Rc : L.eqByteSSS.H4 → Option L.eqByteSSS.R) (X : Nat → L.eqByteSSS.E4 → Option L.eqByteSSS.R) (x : L.eqByteSSS.H4) : Option L.eqByteSSS.R :=
  bif decide (x.2.2.1 < (List.length x.1 : Int)) then
    ck (decide (0 ≤ x.2.2.1) && decide (x.2.2.1 < (List.length x.1 : Int))) <|
    ck (decide (0 ≤ x.2.2.1) && decide (x.2.2.1 < (List.length x.2.1 : Int))) <|
    (L.eqByteSS ((x.1.getD (Int.toNat x.2.2.1) []), (x.2.1.getD (Int.toNat x.2.2.1) []), ())).bind fun r1 =>
    bif !r1.1 then some (false, ((), (), ())) else
    Rc (x.1, x.2.1, (wr .i64 (x.2.2.1 + 1)), ())
  else
  X 0 ()

def L.eqByteSSS.l4 (x : L.eqByteSSS.H4) (X : Nat → L.eqByteSSS.E4 → Option L.eqByteSSS.R) : Option L.eqByteSSS.R := rounds (L.eqByteSSS.st4) big X x
def L.eqByteSSS.lo4 : LoopO (DenF L.eqByteSSS.fr × DenB L.eqByteSSS.fa) := ⟨[0, 1, 5], L.eqByteSSS.h4, [], L.eqByteSSS.e4, L.eqByteSSS.l4⟩
def L.eqByteSSS.p (l4 : L.eqByteSSS.H4 → (Nat → L.eqByteSSS.E4 → Option L.eqByteSSS.R) → Option L.eqByteSSS.R) (x : L.eqByteSSS.A) : Option L.eqByteSSS.R :=
  bif (List.length x.1 : Int) != (List.length x.2.1 : Int) then some (false, ((), (), ())) else
  l4 (x.1, x.2.1, 0, ()) (fun i4 y4 =>
    bif Nat.beq i4 0 then some (true, ((), (), ())) else
    none)

def L.eqByteSSS (x : L.eqByteSSS.A) : Option L.eqByteSSS.R := L.eqByteSSS.p L.eqByteSSS.l4 x
def L.eqByteSSS.spec : Spec := ⟨L.eqByteSSS.fa, L.eqByteSSS.fr, L.eqByteSSS⟩

/-! loop.example/s01316/laws.eqStream -/
def L.eqStream.fa : Fm := (.cons (.agg (.cons .bool (.cons (.sl 32 c23) (.cons (.int .i64) (.cons (.sl 26 (.sl 22 (.sl 5 (.int .u8)))) .nil))))) (.cons (.agg (.cons .bool (.cons (.sl 32 c23) (.cons (.int .i64) (.cons (.sl 26 (.sl 22 (.sl 5 (.int .u8)))) .nil))))) .nil))
def L.eqStream.fr : Fm := .bool
abbrev L.eqStream.A := (Bool × (List DField) × Int × (List (List (List Int))) × Unit) × (Bool × (List DField) × Int × (List (List (List Int))) × Unit) × Unit
abbrev L.eqStream.R := Bool × ((Unit × Unit × Unit × Unit × Unit) × (Unit × Unit × Unit × Unit × Unit) × Unit)
def L.eqStream.o : Orc := [(60, L.eqFieldS.spec), (194, L.eqByteSSS.spec)]
def L.eqStream (x : L.eqStream.A) : Option L.eqStream.R :=
  bif !(x.1.1 == x.2.1.1) then
    some (false, (((), (), (), (), ()), ((), (), (), (), ()), ()))
  else
  (L.eqFieldS (x.1.2.1, x.2.1.2.1, ())).bind fun r1 =>
  bif !r1.1 then
    some (false, (((), (), (), (), ()), ((), (), (), (), ()), ()))
  else
  bif x.1.2.2.1 != x.2.1.2.2.1 then
    some (false, (((), (), (), (), ()), ((), (), (), (), ()), ()))
  else
  (L.eqByteSSS (x.1.2.2.2.1, x.2.1.2.2.2.1, ())).bind fun r2 =>
  bif !r2.1 then
    some (false, (((), (), (), (), ()), ((), (), (), (), ()), ()))
  else
  some (true, (((), (), (), (), ()), ((), (), (), (), ()), ()))

def L.eqStream.spec : Spec := ⟨L.eqStream.fa, L.eqStream.fr, L.eqStream⟩

/-! loop.example/s01316/laws.eqTable -/
def L.eqTable.fa : Fm := (.cons (.agg (.cons (.int .i64) (.cons (.sl 137 c131) .nil))) (.cons (.agg (.cons (.int .i64) (.cons (.sl 137 c131) .nil))) .nil))
def L.eqTable.fr : Fm := .bool
abbrev L.eqTable.A := (Int × (List DCell) × Unit) × (Int × (List DCell) × Unit) × Unit
abbrev L.eqTable.R := Bool × ((Unit × Unit × Unit) × (Unit × Unit × Unit) × Unit)
def L.eqTable.o : Orc := [(22, L.eqCellS.spec)]
def L.eqTable (x : L.eqTable.A) : Option L.eqTable.R :=
  bif x.1.1 != x.2.1.1 then some (false, (((), (), ()), ((), (), ()), ())) else
  (L.eqCellS (x.1.2.1, x.2.1.2.1, ())).bind fun r1 =>
  bif !r1.1 then some (false, (((), (), ()), ((), (), ()), ())) else
  some (true, (((), (), ()), ((), (), ()), ()))

def L.eqTable.spec : Spec := ⟨L.eqTable.fa, L.eqTable.fr, L.eqTable⟩

/-! loop.example/s01316/laws.eqTableS -/
def L.eqTableS.fa : Fm := (.cons (.sl 186 c186) (.cons (.sl 186 c186) .nil))
def L.eqTableS.fr : Fm := .bool
abbrev L.eqTableS.A := (List DTable) × (List DTable) × Unit
abbrev L.eqTableS.R := Bool × (Unit × Unit × Unit)
def L.eqTableS.o : Orc := [(195, L.eqTable.spec)]
def L.eqTableS.h4 : Fm := (.cons (.sl 186 c186) (.cons (.sl 186 c186) (.cons (.int .i64) .nil)))
def L.eqTableS.e4 : Fm := .nil
abbrev L.eqTableS.H4 := (List DTable) × (List DTable) × Int × Unit
abbrev L.eqTableS.E4 := Unit
def L.eqTableS.st4 (Rc : L.eqTableS.H4 → Option L.eqTableS.R) (X : Nat → L.eqTableS.E4 → Option L.eqTableS.R) (x : L.eqTableS.H4) : Option L.eqTableS.R :=
  bif decide (x.2.2.1 < (List.length x.1 : Int)) then
    ck (decide (0 ≤ x.2.2.1) && decide (x.2.2.1 < (List.length x.1 : Int))) <|
    ck (decide (0 ≤ x.2.2.1) && decide (x.2.2.1 < (List.length x.2.1 : Int))) <|
    (L.eqTable (((x.1.getD (Int.toNat x.2.2.1) zTable).1, (x.1.getD (Int.toNat x.2.2.1) zTable).2.1, ()), ((x.2.1.getD (Int.toNat x.2.2.1) zTable).1, (x.2.1.getD (Int.toNat x.2.2.1) zTable).2.1, ()), ())).bind fun r1 =>
    bif !r1.1 then some (false, ((), (), ())) else
    Rc (x.1, x.2.1, (wr .i64 (x.2.2.1 + 1)), ())
  else
  X 0 ()

def L.eqTableS.l4 (x : L.eqTableS.H4) (X : Nat → L.eqTableS.E4 → Option L.eqTableS.R) : Option L.eqTableS.R := rounds (L.eqTableS.st4) big X x
def L.eqTableS.lo4 : LoopO (DenF L.eqTableS.fr × DenB L.eqTableS.fa) := ⟨[0, 1, 5], L.eqTableS.h4, [], L.eqTableS.e4, L.eqTableS.l4⟩
def L.eqTableS.p (l4 : L.eqTableS.H4 → (Nat → L.eqTableS.E4 → Option L.eqTableS.R) → Option L.eqTableS.R) (x : L.eqTableS.A) : Option L.eqTableS.R :=
  bif (List.length x.1 : Int) != (List.length x.2.1 : Int) then some (false, ((), (), ())) else
  l4 (x.1, x.2.1, 0, ()) (fun i4 y4 =>
    bif Nat.beq i4 0 then some (true, ((), (), ())) else
    none)

def L.eqTableS (x : L.eqTableS.A) : Option L.eqTableS.R := L.eqTableS.p L.eqTableS.l4 x
def L.eqTableS.spec : Spec := ⟨L.eqTableS.fa, L.eqTableS.fr, L.eqTableS⟩

/-! loop.example/s01316/laws.eqReceiver -/
def L.eqReceiver.fa : Fm := (.cons (.agg (.cons (.int .i64) (.cons (.int .i64) (.cons .bool (.cons (.int .i64) (.cons (.int .i64) (.cons (.sl 55 c55) (.cons (.sl 5 (.int .u8)) (.cons .bool (.cons (.sl 32 c23) (.cons (.int .i64) (.cons (.sl 26 (.sl 22 (.sl 5 (.int .u8)))) (.cons (.sl 186 c186) (.cons (.int .i64) .nil)))))))))))))) (.cons (.agg (.cons (.int .i64) (.cons (.int .i64) (.cons .bool (.cons (.int .i64) (.cons (.int .i64) (.cons (.sl 55 c55) (.cons (.sl 5 (.int .u8)) (.cons .bool (.cons (.sl 32 c23) (.cons (.int .i64) (.cons (.sl 26 (.sl 22 (.sl 5 (.int .u8)))) (.cons (.sl 186 c186) (.cons (.int .i64) .nil)))))))))))))) .nil))
def L.eqReceiver.fr : Fm := .bool
abbrev L.eqReceiver.A := (Int × Int × Bool × Int × Int × (List DPacket) × (List Int) × Bool × (List DField) × Int × (List (List (List Int))) × (List DTable) × Int × Unit) × (Int × Int × Bool × Int × Int × (List DPacket) × (List Int) × Bool × (List DField) × Int × (List (List (List Int))) × (List DTable) × Int × Unit) × Unit
abbrev L.eqReceiver.R := Bool × ((Unit × Unit × Unit × Unit × Unit × Unit × Unit × Unit × Unit × Unit × Unit × Unit × Unit × Unit) × (Unit × Unit × Unit × Unit × Unit × Unit × Unit × Unit × Unit × Unit × Unit × Unit × Unit × Unit) × Unit)
def L.eqReceiver.o : Orc := [(41, L.eqLinkIn.spec), (133, L.eqStream.spec), (134, L.eqTableS.spec)]
def L.eqReceiver (x : L.eqReceiver.A) : Option L.eqReceiver.R :=
  bif x.1.1 != x.2.1.1 then
    some (false, (((), (), (), (), (), (), (), (), (), (), (), (), (), ()), ((), (), (), (), (), (), (), (), (), (), (), (), (), ()), ()))
  else
  bif x.1.2.1 != x.2.1.2.1 then
    some (false, (((), (), (), (), (), (), (), (), (), (), (), (), (), ()), ((), (), (), (), (), (), (), (), (), (), (), (), (), ()), ()))
  else
  bif !(x.1.2.2.1 == x.2.1.2.2.1) then
    some (false, (((), (), (), (), (), (), (), (), (), (), (), (), (), ()), ((), (), (), (), (), (), (), (), (), (), (), (), (), ()), ()))
  else
  (L.eqLinkIn ((x.1.2.2.2.1, x.1.2.2.2.2.1, x.1.2.2.2.2.2.1, x.1.2.2.2.2.2.2.1, ()), (x.2.1.2.2.2.1, x.2.1.2.2.2.2.1, x.2.1.2.2.2.2.2.1, x.2.1.2.2.2.2.2.2.1, ()), ())).bind fun r1 =>
  bif !r1.1 then
    some (false, (((), (), (), (), (), (), (), (), (), (), (), (), (), ()), ((), (), (), (), (), (), (), (), (), (), (), (), (), ()), ()))
  else
  (L.eqStream ((x.1.2.2.2.2.2.2.2.1, x.1.2.2.2.2.2.2.2.2.1, x.1.2.2.2.2.2.2.2.2.2.1, x.1.2.2.2.2.2.2.2.2.2.2.1, ()), (x.2.1.2.2.2.2.2.2.2.1, x.2.1.2.2.2.2.2.2.2.2.1, x.2.1.2.2.2.2.2.2.2.2.2.1, x.2.1.2.2.2.2.2.2.2.2.2.2.1, ()), ())).bind fun r2 =>
  bif !r2.1 then
    some (false, (((), (), (), (), (), (), (), (), (), (), (), (), (), ()), ((), (), (), (), (), (), (), (), (), (), (), (), (), ()), ()))
  else
  (L.eqTableS (x.1.2.2.2.2.2.2.2.2.2.2.2.1, x.2.1.2.2.2.2.2.2.2.2.2.2.2.1, ())).bind fun r3 =>
  bif !r3.1 then
    some (false, (((), (), (), (), (), (), (), (), (), (), (), (), (), ()), ((), (), (), (), (), (), (), (), (), (), (), (), (), ()), ()))
  else
  bif x.1.2.2.2.2.2.2.2.2.2.2.2.2.1 != x.2.1.2.2.2.2.2.2.2.2.2.2.2.2.1 then
    some (false, (((), (), (), (), (), (), (), (), (), (), (), (), (), ()), ((), (), (), (), (), (), (), (), (), (), (), (), (), ()), ()))
  else
  some (true, (((), (), (), (), (), (), (), (), (), (), (), (), (), ()), ((), (), (), (), (), (), (), (), (), (), (), (), (), ()), ()))

def L.eqReceiver.spec : Spec := ⟨L.eqReceiver.fa, L.eqReceiver.fr, L.eqReceiver⟩

/-! loop.example/s01316/laws.FnExactValidReceiver -/
def L.FnExactValidReceiver.fa : Fm := (.cons (.agg (.cons (.int .i64) (.cons (.int .i64) (.cons .bool (.cons (.int .i64) (.cons (.int .i64) (.cons (.sl 67 c55) (.cons (.sl 5 (.int .u8)) (.cons .bool (.cons (.sl 24 c23) (.cons (.int .i64) (.cons (.sl 26 (.sl 22 (.sl 5 (.int .u8)))) (.cons (.sl 244 c244) (.cons (.int .i64) .nil)))))))))))))) .nil)
def L.FnExactValidReceiver.fr : Fm := .bool
abbrev L.FnExactValidReceiver.A := (Int × Int × Bool × Int × Int × (List DPacket) × (List Int) × Bool × (List DField) × Int × (List (List (List Int))) × (List DTable) × Int × Unit) × Unit
abbrev L.FnExactValidReceiver.R := Bool × ((Unit × Unit × Unit × Unit × Unit × Unit × Unit × Unit × Unit × Unit × Unit × Unit × Unit × Unit) × Unit)
def L.FnExactValidReceiver.o : Orc := [(46, L.szReceiver.spec), (47, S.ValidReceiver.spec), (48, L.toReceiver.spec), (49, I.ValidReceiver.spec), (50, L.eqReceiver.spec)]
def L.FnExactValidReceiver (x : L.FnExactValidReceiver.A) : Option L.FnExactValidReceiver.R :=
  (L.szReceiver ((x.1.1, x.1.2.1, x.1.2.2.1, x.1.2.2.2.1, x.1.2.2.2.2.1, x.1.2.2.2.2.2.1, x.1.2.2.2.2.2.2.1, x.1.2.2.2.2.2.2.2.1, x.1.2.2.2.2.2.2.2.2.1, x.1.2.2.2.2.2.2.2.2.2.1, x.1.2.2.2.2.2.2.2.2.2.2.1, x.1.2.2.2.2.2.2.2.2.2.2.2.1, x.1.2.2.2.2.2.2.2.2.2.2.2.2.1, ()), 1048576, ())).bind fun r1 =>
  bif decide (r1.1 < 0) then
    some (true, (((), (), (), (), (), (), (), (), (), (), (), (), (), ()), ()))
  else
  (L.toReceiver ((x.1.1, x.1.2.1, x.1.2.2.1, x.1.2.2.2.1, x.1.2.2.2.2.1, x.1.2.2.2.2.2.1, x.1.2.2.2.2.2.2.1, x.1.2.2.2.2.2.2.2.1, x.1.2.2.2.2.2.2.2.2.1, x.1.2.2.2.2.2.2.2.2.2.1, x.1.2.2.2.2.2.2.2.2.2.2.1, x.1.2.2.2.2.2.2.2.2.2.2.2.1, x.1.2.2.2.2.2.2.2.2.2.2.2.2.1, ()), ())).bind fun r2 =>
  (S.ValidReceiver ((r2.1.1, r2.1.2.1, r2.1.2.2.1, r2.1.2.2.2.1, r2.1.2.2.2.2.1, r2.1.2.2.2.2.2.1, r2.1.2.2.2.2.2.2.1, r2.1.2.2.2.2.2.2.2.1, r2.1.2.2.2.2.2.2.2.2.1, r2.1.2.2.2.2.2.2.2.2.2.1, r2.1.2.2.2.2.2.2.2.2.2.2.1, r2.1.2.2.2.2.2.2.2.2.2.2.2.1, r2.1.2.2.2.2.2.2.2.2.2.2.2.2.1, ()), ())).bind fun r3 =>
  (L.toReceiver ((x.1.1, x.1.2.1, x.1.2.2.1, x.1.2.2.2.1, x.1.2.2.2.2.1, x.1.2.2.2.2.2.1, x.1.2.2.2.2.2.2.1, x.1.2.2.2.2.2.2.2.1, x.1.2.2.2.2.2.2.2.2.1, x.1.2.2.2.2.2.2.2.2.2.1, x.1.2.2.2.2.2.2.2.2.2.2.1, x.1.2.2.2.2.2.2.2.2.2.2.2.1, x.1.2.2.2.2.2.2.2.2.2.2.2.2.1, ()), ())).bind fun r4 =>
  (I.ValidReceiver ((r4.1.1, r4.1.2.1, r4.1.2.2.1, r4.1.2.2.2.1, r4.1.2.2.2.2.1, r4.1.2.2.2.2.2.1, r4.1.2.2.2.2.2.2.1, r4.1.2.2.2.2.2.2.2.1, r4.1.2.2.2.2.2.2.2.2.1, r4.1.2.2.2.2.2.2.2.2.2.1, r4.1.2.2.2.2.2.2.2.2.2.2.1, r4.1.2.2.2.2.2.2.2.2.2.2.2.1, r4.1.2.2.2.2.2.2.2.2.2.2.2.2.1, ()), ())).bind fun r5 =>
  bif !(r5.1 == r3.1) then
    some (false, (((), (), (), (), (), (), (), (), (), (), (), (), (), ()), ()))
  else
  (L.toReceiver ((x.1.1, x.1.2.1, x.1.2.2.1, x.1.2.2.2.1, x.1.2.2.2.2.1, x.1.2.2.2.2.2.1, x.1.2.2.2.2.2.2.1, x.1.2.2.2.2.2.2.2.1, x.1.2.2.2.2.2.2.2.2.1, x.1.2.2.2.2.2.2.2.2.2.1, x.1.2.2.2.2.2.2.2.2.2.2.1, x.1.2.2.2.2.2.2.2.2.2.2.2.1, x.1.2.2.2.2.2.2.2.2.2.2.2.2.1, ()), ())).bind fun r6 =>
  (L.eqReceiver ((r4.1.1, r4.1.2.1, r4.1.2.2.1, r4.1.2.2.2.1, r4.1.2.2.2.2.1, r4.1.2.2.2.2.2.1, r4.1.2.2.2.2.2.2.1, r4.1.2.2.2.2.2.2.2.1, r4.1.2.2.2.2.2.2.2.2.1, r4.1.2.2.2.2.2.2.2.2.2.1, r4.1.2.2.2.2.2.2.2.2.2.2.1, r4.1.2.2.2.2.2.2.2.2.2.2.2.1, r4.1.2.2.2.2.2.2.2.2.2.2.2.2.1, ()), (r6.1.1, r6.1.2.1, r6.1.2.2.1, r6.1.2.2.2.1, r6.1.2.2.2.2.1, r6.1.2.2.2.2.2.1, r6.1.2.2.2.2.2.2.1, r6.1.2.2.2.2.2.2.2.1, r6.1.2.2.2.2.2.2.2.2.1, r6.1.2.2.2.2.2.2.2.2.2.1, r6.1.2.2.2.2.2.2.2.2.2.2.1, r6.1.2.2.2.2.2.2.2.2.2.2.2.1, r6.1.2.2.2.2.2.2.2.2.2.2.2.2.1, ()), ())).bind fun r7 =>
  bif !r7.1 then
    some (false, (((), (), (), (), (), (), (), (), (), (), (), (), (), ()), ()))
  else
  some (true, (((), (), (), (), (), (), (), (), (), (), (), (), (), ()), ()))

def L.FnExactValidReceiver.spec : Spec := ⟨L.FnExactValidReceiver.fa, L.FnExactValidReceiver.fr, L.FnExactValidReceiver⟩
end Go.Ev

