/- A text of the claim, printed by a program: functions that the law reaches, as Lean functions, and that they are so. -/
import Derived.Test.YtkkjheildoclgaaYTyp
set_option linter.all false
set_option linter.unusedVariables false
set_option linter.unusedSimpArgs false
set_option autoImplicit false
set_option maxRecDepth 100000
set_option linter.unusedVariables false
namespace Go.Ev
/-! loop.example/s01316/laws.szByteS -/
def L.szByteS.fa : Fm := (.cons (.sl 5 (.int .u8)) (.cons (.int .i64) .nil))
def L.szByteS.fr : Fm := (.int .i64)
abbrev L.szByteS.A := (List Int) × Int × Unit
abbrev L.szByteS.R := Int × (Unit × Unit × Unit)
def L.szByteS.o : Orc := []
def L.szByteS (x : L.szByteS.A) : Option L.szByteS.R :=
  let v1 : Int := wr .i64 (x.2.1 - (List.length x.1 : Int))
  bif decide (v1 < 0) then some (-1, ((), (), ())) else
  some (v1, ((), (), ()))

def L.szByteS.spec : Spec := ⟨L.szByteS.fa, L.szByteS.fr, L.szByteS⟩

/-! loop.example/s01316/laws.szField -/
def L.szField.fa : Fm := (.cons (.agg (.cons (.sl 5 (.int .u8)) (.cons (.int .i64) (.cons (.int .i64) .nil)))) (.cons (.int .i64) .nil))
def L.szField.fr : Fm := (.int .i64)
abbrev L.szField.A := ((List Int) × Int × Int × Unit) × Int × Unit
abbrev L.szField.R := Int × ((Unit × Unit × Unit × Unit) × Unit × Unit)
def L.szField.o : Orc := [(74, L.szByteS.spec)]
def L.szField (x : L.szField.A) : Option L.szField.R :=
  (L.szByteS (x.1.1, x.2.1, ())).bind fun r1 =>
  bif decide (r1.1 < 0) then some (-1, (((), (), (), ()), (), ())) else
  some (r1.1, (((), (), (), ()), (), ()))

def L.szField.spec : Spec := ⟨L.szField.fa, L.szField.fr, L.szField⟩

/-! loop.example/s01316/laws.szCell -/
def L.szCell.fa : Fm := (.cons (.agg (.cons .bool (.cons (.int .i64) (.cons (.sl 5 (.int .u8)) .nil)))) (.cons (.int .i64) .nil))
def L.szCell.fr : Fm := (.int .i64)
abbrev L.szCell.A := (Bool × Int × (List Int) × Unit) × Int × Unit
abbrev L.szCell.R := Int × ((Unit × Unit × Unit × Unit) × Unit × Unit)
def L.szCell.o : Orc := [(74, L.szByteS.spec)]
def L.szCell (x : L.szCell.A) : Option L.szCell.R :=
  (L.szByteS (x.1.2.2.1, x.2.1, ())).bind fun r1 =>
  bif decide (r1.1 < 0) then some (-1, (((), (), (), ()), (), ())) else
  some (r1.1, (((), (), (), ()), (), ()))

def L.szCell.spec : Spec := ⟨L.szCell.fa, L.szCell.fr, L.szCell⟩

/-! loop.example/s01316/laws.szCellS -/
def L.szCellS.fa : Fm := (.cons (.sl 131 c131) (.cons (.int .i64) .nil))
def L.szCellS.fr : Fm := (.int .i64)
abbrev L.szCellS.A := (List DCell) × Int × Unit
abbrev L.szCellS.R := Int × (Unit × Unit × Unit)
def L.szCellS.o : Orc := [(75, L.szCell.spec)]
def L.szCellS.h5 : Fm := (.cons (.sl 131 c131) (.cons (.int .i64) (.cons (.int .i64) .nil)))
def L.szCellS.e5 : Fm := (.cons (.int .i64) .nil)
abbrev L.szCellS.H5 := (List DCell) × Int × Int × Unit
abbrev L.szCellS.E5 := Int × Unit
def L.szCellS.st5 (Rc : L.szCellS.H5 → Option L.szCellS.R) (X : Nat → L.szCellS.E5 → Option L.szCellS.R) (x : L.szCellS.H5) : Option L.szCellS.R :=
  bif decide (x.2.2.1 < (List.length x.1 : Int)) then
    ck (decide (0 ≤ x.2.2.1) && decide (x.2.2.1 < (List.length x.1 : Int))) <|
    (L.szCell (((x.1.getD (Int.toNat x.2.2.1) zCell).1, (x.1.getD (Int.toNat x.2.2.1) zCell).2.1, (x.1.getD (Int.toNat x.2.2.1) zCell).2.2.1, ()), x.2.1, ())).bind fun r1 =>
    bif decide (r1.1 < 0) then some (-1, ((), (), ())) else
    Rc (x.1, r1.1, (wr .i64 (x.2.2.1 + 1)), ())
  else
  X 0 (x.2.1, ())

def L.szCellS.l5 (x : L.szCellS.H5) (X : Nat → L.szCellS.E5 → Option L.szCellS.R) : Option L.szCellS.R := rounds (L.szCellS.st5) big X x
def L.szCellS.lo5 : LoopO (DenF L.szCellS.fr × DenB L.szCellS.fa) := ⟨[0, 1, 5], L.szCellS.h5, [1], L.szCellS.e5, L.szCellS.l5⟩
def L.szCellS.p (l5 : L.szCellS.H5 → (Nat → L.szCellS.E5 → Option L.szCellS.R) → Option L.szCellS.R) (x : L.szCellS.A) : Option L.szCellS.R :=
  let v1 : Int := wr .i64 (x.2.1 - (List.length x.1 : Int))
  bif decide (v1 < 0) then some (-1, ((), (), ())) else
  l5 (x.1, v1, 0, ()) (fun i5 y5 =>
    bif Nat.beq i5 0 then some (y5.1, ((), (), ())) else
    none)

def L.szCellS (x : L.szCellS.A) : Option L.szCellS.R := L.szCellS.p L.szCellS.l5 x
def L.szCellS.spec : Spec := ⟨L.szCellS.fa, L.szCellS.fr, L.szCellS⟩

/-! loop.example/s01316/laws.szByteSS -/
def L.szByteSS.fa : Fm := (.cons (.sl 22 (.sl 5 (.int .u8))) (.cons (.int .i64) .nil))
def L.szByteSS.fr : Fm := (.int .i64)
abbrev L.szByteSS.A := (List (List Int)) × Int × Unit
abbrev L.szByteSS.R := Int × (Unit × Unit × Unit)
def L.szByteSS.o : Orc := [(74, L.szByteS.spec)]
def L.szByteSS.h5 : Fm := (.cons (.sl 22 (.sl 5 (.int .u8))) (.cons (.int .i64) (.cons (.int .i64) .nil)))
def L.szByteSS.e5 : Fm := (.cons (.int .i64) .nil)
abbrev L.szByteSS.H5 := (List (List Int)) × Int × Int × Unit
abbrev L.szByteSS.E5 := Int × Unit
def L.szByteSS.st5 (Rc : L.szByteSS.H5 → Option L.szByteSS.R) (X : Nat → L.szByteSS.E5 → Option L.szByteSS.R) (x : L.szByteSS.H5) : Option L.szByteSS.R :=
  bif decide (x.2.2.1 < (List.length x.1 : Int)) then
    ck (decide (0 ≤ x.2.2.1) && decide (x.2.2.1 < (List.length x.1 : Int))) <|
    (L.szByteS ((x.1.getD (Int.toNat x.2.2.1) []), x.2.1, ())).bind fun r1 =>
    bif decide (r1.1 < 0) then some (-1, ((), (), ())) else
    Rc (x.1, r1.1, (wr .i64 (x.2.2.1 + 1)), ())
  else
  X 0 (x.2.1, ())

def L.szByteSS.l5 (x : L.szByteSS.H5) (X : Nat → L.szByteSS.E5 → Option L.szByteSS.R) : Option L.szByteSS.R := rounds (L.szByteSS.st5) big X x
def L.szByteSS.lo5 : LoopO (DenF L.szByteSS.fr × DenB L.szByteSS.fa) := ⟨[0, 1, 5], L.szByteSS.h5, [1], L.szByteSS.e5, L.szByteSS.l5⟩
def L.szByteSS.p (l5 : L.szByteSS.H5 → (Nat → L.szByteSS.E5 → Option L.szByteSS.R) → Option L.szByteSS.R) (x : L.szByteSS.A) : Option L.szByteSS.R :=
  let v1 : Int := wr .i64 (x.2.1 - (List.length x.1 : Int))
  bif decide (v1 < 0) then some (-1, ((), (), ())) else
  l5 (x.1, v1, 0, ()) (fun i5 y5 =>
    bif Nat.beq i5 0 then some (y5.1, ((), (), ())) else
    none)

def L.szByteSS (x : L.szByteSS.A) : Option L.szByteSS.R := L.szByteSS.p L.szByteSS.l5 x
def L.szByteSS.spec : Spec := ⟨L.szByteSS.fa, L.szByteSS.fr, L.szByteSS⟩

/-! loop.example/s01316/laws.toByteS -/
def L.toByteS.fa : Fm := (.cons (.sl 5 (.int .u8)) .nil)
def L.toByteS.fr : Fm := (.own 5 (.int .u8) true)
abbrev L.toByteS.A := (List Int) × Unit
abbrev L.toByteS.R := (List Int) × (Unit × Unit)
def L.toByteS.o : Orc := []
def L.toByteS.h3 : Fm := (.cons (.sl 5 (.int .u8)) (.cons (.own 5 (.int .u8) true) (.cons (.int .i64) .nil)))
def L.toByteS.e3 : Fm := (.cons (.own 5 (.int .u8) true) .nil)
abbrev L.toByteS.H3 := (List Int) × (List Int) × Int × Unit
abbrev L.toByteS.E3 := (List Int) × Unit
def L.toByteS.st3 (Rc : L.toByteS.H3 → Option L.toByteS.R) (X : Nat → L.toByteS.E3 → Option L.toByteS.R) (x : L.toByteS.H3) : Option L.toByteS.R :=
  bif decide (x.2.2.1 < (List.length x.1 : Int)) then
    ck (decide (0 ≤ x.2.2.1) && decide (x.2.2.1 < (List.length x.1 : Int))) <|
    ck (decide (0 ≤ x.2.2.1) && decide (x.2.2.1 < (List.length x.2.1 : Int))) <|
    let v1 : List Int := x.2.1.set (Int.toNat x.2.2.1) (x.1.getD (Int.toNat x.2.2.1) 0)
    Rc (x.1, v1, (wr .i64 (x.2.2.1 + 1)), ())
  else
  X 0 (x.2.1, ())

def L.toByteS.l3 (x : L.toByteS.H3) (X : Nat → L.toByteS.E3 → Option L.toByteS.R) : Option L.toByteS.R := rounds (L.toByteS.st3) big X x
def L.toByteS.lo3 : LoopO (DenF L.toByteS.fr × DenB L.toByteS.fa) := ⟨[0, 3, 4], L.toByteS.h3, [3], L.toByteS.e3, L.toByteS.l3⟩
def L.toByteS.p (l3 : L.toByteS.H3 → (Nat → L.toByteS.E3 → Option L.toByteS.R) → Option L.toByteS.R) (x : L.toByteS.A) : Option L.toByteS.R :=
  ck ((decide (0 ≤ (List.length x.1 : Int)) && (decide ((List.length x.1 : Int) ≤ (List.length x.1 : Int)) && decide ((List.length x.1 : Int) * 1 ≤ 281474976710656))) && (Nat.blt 0 1 && Nat.blt 0 1)) <|
  l3 (x.1, (List.replicate (Int.toNat (List.length x.1 : Int)) 0 : List Int), 0, ()) (fun i3 y3 =>
    bif Nat.beq i3 0 then some (y3.1, ((), ())) else
    none)

def L.toByteS (x : L.toByteS.A) : Option L.toByteS.R := L.toByteS.p L.toByteS.l3 x
def L.toByteS.spec : Spec := ⟨L.toByteS.fa, L.toByteS.fr, L.toByteS⟩

/-! loop.example/s01316/laws.toField -/
def L.toField.fa : Fm := (.cons (.agg (.cons (.sl 5 (.int .u8)) (.cons (.int .i64) (.cons (.int .i64) .nil)))) .nil)
def L.toField.fr : Fm := (.agg (.cons (.own 5 (.int .u8) true) (.cons (.int .i64) (.cons (.int .i64) .nil))))
abbrev L.toField.A := ((List Int) × Int × Int × Unit) × Unit
abbrev L.toField.R := ((List Int) × Int × Int × Unit) × ((Unit × Unit × Unit × Unit) × Unit)
def L.toField.o : Orc := [(83, L.toByteS.spec)]
def L.toField (x : L.toField.A) : Option L.toField.R :=
  (L.toByteS (x.1.1, ())).bind fun r1 =>
  some ((r1.1, x.1.2.1, x.1.2.2.1, ()), (((), (), (), ()), ()))

def L.toField.spec : Spec := ⟨L.toField.fa, L.toField.fr, L.toField⟩

/-! loop.example/s01316/laws.toCell -/
def L.toCell.fa : Fm := (.cons (.agg (.cons .bool (.cons (.int .i64) (.cons (.sl 5 (.int .u8)) .nil)))) .nil)
def L.toCell.fr : Fm := (.agg (.cons .bool (.cons (.int .i64) (.cons (.own 5 (.int .u8) true) .nil))))
abbrev L.toCell.A := (Bool × Int × (List Int) × Unit) × Unit
abbrev L.toCell.R := (Bool × Int × (List Int) × Unit) × ((Unit × Unit × Unit × Unit) × Unit)
def L.toCell.o : Orc := [(83, L.toByteS.spec)]
def L.toCell (x : L.toCell.A) : Option L.toCell.R :=
  (L.toByteS (x.1.2.2.1, ())).bind fun r1 =>
  some ((x.1.1, x.1.2.1, r1.1, ()), (((), (), (), ()), ()))

def L.toCell.spec : Spec := ⟨L.toCell.fa, L.toCell.fr, L.toCell⟩

/-! loop.example/s01316/laws.toCellS -/
def L.toCellS.fa : Fm := (.cons (.sl 131 c131) .nil)
def L.toCellS.fr : Fm := (.own 137 c131 true)
abbrev L.toCellS.A := (List DCell) × Unit
abbrev L.toCellS.R := (List DCell) × (Unit × Unit)
def L.toCellS.o : Orc := [(84, L.toCell.spec)]
def L.toCellS.h3 : Fm := (.cons (.sl 131 c131) (.cons (.own 137 c131 true) (.cons (.int .i64) .nil)))
def L.toCellS.e3 : Fm := (.cons (.own 137 c131 true) .nil)
abbrev L.toCellS.H3 := (List DCell) × (List DCell) × Int × Unit
abbrev L.toCellS.E3 := (List DCell) × Unit
def L.toCellS.st3 (Rc : L.toCellS.H3 → Option L.toCellS.R) (X : Nat → L.toCellS.E3 → Option L.toCellS.R) (x : L.toCellS.H3) : Option L.toCellS.R :=
  bif decide (x.2.2.1 < (List.length x.1 : Int)) then
    ck (decide (0 ≤ x.2.2.1) && decide (x.2.2.1 < (List.length x.1 : Int))) <|
    (L.toCell (((x.1.getD (Int.toNat x.2.2.1) zCell).1, (x.1.getD (Int.toNat x.2.2.1) zCell).2.1, (x.1.getD (Int.toNat x.2.2.1) zCell).2.2.1, ()), ())).bind fun r1 =>
    ck (decide (0 ≤ x.2.2.1) && decide (x.2.2.1 < (List.length x.2.1 : Int))) <|
    let v2 : List DCell := x.2.1.set (Int.toNat x.2.2.1) (r1.1.1, (r1.1.2.1, (r1.1.2.2.1, (x.2.1.getD (Int.toNat x.2.2.1) zCell).2.2.2)))
    Rc (x.1, v2, (wr .i64 (x.2.2.1 + 1)), ())
  else
  X 0 (x.2.1, ())

def L.toCellS.l3 (x : L.toCellS.H3) (X : Nat → L.toCellS.E3 → Option L.toCellS.R) : Option L.toCellS.R := rounds (L.toCellS.st3) big X x
def L.toCellS.lo3 : LoopO (DenF L.toCellS.fr × DenB L.toCellS.fa) := ⟨[0, 3, 4], L.toCellS.h3, [3], L.toCellS.e3, L.toCellS.l3⟩
def L.toCellS.p (l3 : L.toCellS.H3 → (Nat → L.toCellS.E3 → Option L.toCellS.R) → Option L.toCellS.R) (x : L.toCellS.A) : Option L.toCellS.R :=
  ck ((decide (0 ≤ (List.length x.1 : Int)) && (decide ((List.length x.1 : Int) ≤ (List.length x.1 : Int)) && decide ((List.length x.1 : Int) * 40 ≤ 281474976710656))) && (Nat.blt 0 40 && Nat.blt 0 3)) <|
  l3 (x.1, (List.replicate (Int.toNat (List.length x.1 : Int)) zCell : List DCell), 0, ()) (fun i3 y3 =>
    bif Nat.beq i3 0 then some (y3.1, ((), ())) else
    none)

def L.toCellS (x : L.toCellS.A) : Option L.toCellS.R := L.toCellS.p L.toCellS.l3 x
def L.toCellS.spec : Spec := ⟨L.toCellS.fa, L.toCellS.fr, L.toCellS⟩

/-! loop.example/s01316/laws.toByteSS -/
def L.toByteSS.fa : Fm := (.cons (.sl 22 (.sl 5 (.int .u8))) .nil)
def L.toByteSS.fr : Fm := (.own 22 (.sl 5 (.int .u8)) true)
abbrev L.toByteSS.A := (List (List Int)) × Unit
abbrev L.toByteSS.R := (List (List Int)) × (Unit × Unit)
def L.toByteSS.o : Orc := [(83, L.toByteS.spec)]
def L.toByteSS.h3 : Fm := (.cons (.sl 22 (.sl 5 (.int .u8))) (.cons (.own 22 (.sl 5 (.int .u8)) true) (.cons (.int .i64) .nil)))
def L.toByteSS.e3 : Fm := (.cons (.own 22 (.sl 5 (.int .u8)) true) .nil)
abbrev L.toByteSS.H3 := (List (List Int)) × (List (List Int)) × Int × Unit
abbrev L.toByteSS.E3 := (List (List Int)) × Unit
def L.toByteSS.st3 (Rc : L.toByteSS.H3 → Option L.toByteSS.R) (X : Nat → L.toByteSS.E3 → Option L.toByteSS.R) (x : L.toByteSS.H3) : Option L.toByteSS.R :=
  bif decide (x.2.2.1 < (List.length x.1 : Int)) then
    ck (decide (0 ≤ x.2.2.1) && decide (x.2.2.1 < (List.length x.1 : Int))) <|
    (L.toByteS ((x.1.getD (Int.toNat x.2.2.1) []), ())).bind fun r1 =>
    ck (decide (0 ≤ x.2.2.1) && decide (x.2.2.1 < (List.length x.2.1 : Int))) <|
    let v2 : List (List Int) := x.2.1.set (Int.toNat x.2.2.1) r1.1
    Rc (x.1, v2, (wr .i64 (x.2.2.1 + 1)), ())
  else
  X 0 (x.2.1, ())

def L.toByteSS.l3 (x : L.toByteSS.H3) (X : Nat → L.toByteSS.E3 → Option L.toByteSS.R) : Option L.toByteSS.R := rounds (L.toByteSS.st3) big X x
def L.toByteSS.lo3 : LoopO (DenF L.toByteSS.fr × DenB L.toByteSS.fa) := ⟨[0, 3, 4], L.toByteSS.h3, [3], L.toByteSS.e3, L.toByteSS.l3⟩
def L.toByteSS.p (l3 : L.toByteSS.H3 → (Nat → L.toByteSS.E3 → Option L.toByteSS.R) → Option L.toByteSS.R) (x : L.toByteSS.A) : Option L.toByteSS.R :=
  ck ((decide (0 ≤ (List.length x.1 : Int)) && (decide ((List.length x.1 : Int) ≤ (List.length x.1 : Int)) && decide ((List.length x.1 : Int) * 24 ≤ 281474976710656))) && (Nat.blt 0 24 && Nat.blt 0 1)) <|
  l3 (x.1, (List.replicate (Int.toNat (List.length x.1 : Int)) [] : List (List Int)), 0, ()) (fun i3 y3 =>
    bif Nat.beq i3 0 then some (y3.1, ((), ())) else
    none)

def L.toByteSS (x : L.toByteSS.A) : Option L.toByteSS.R := L.toByteSS.p L.toByteSS.l3 x
def L.toByteSS.spec : Spec := ⟨L.toByteSS.fa, L.toByteSS.fr, L.toByteSS⟩

/-! loop.example/s01316/spec.l2nameOK -/
def S.l2nameOK.fa : Fm := (.cons (.sl 5 (.int .u8)) .nil)
def S.l2nameOK.fr : Fm := .bool
abbrev S.l2nameOK.A := (List Int) × Unit
abbrev S.l2nameOK.R := Bool × (Unit × Unit)
def S.l2nameOK.o : Orc := []
def S.l2nameOK.h4 : Fm := (.cons (.sl 5 (.int .u8)) (.cons (.int .i64) .nil))
def S.l2nameOK.e4 : Fm := .nil
abbrev S.l2nameOK.H4 := (List Int) × Int × Unit
abbrev S.l2nameOK.E4 := Unit
def S.l2nameOK.st4 (Rc : S.l2nameOK.H4 → Option S.l2nameOK.R) (X : Nat → S.l2nameOK.E4 → Option S.l2nameOK.R) (x : S.l2nameOK.H4) : Option S.l2nameOK.R :=
  bif decide (x.2.1 < (List.length x.1 : Int)) then
    ck (decide (0 ≤ x.2.1) && decide (x.2.1 < (List.length x.1 : Int))) <|
    bif (decide ((x.1.getD (Int.toNat x.2.1) 0) ≥ 97)) == true then
      bif (!(decide ((x.1.getD (Int.toNat x.2.1) 0) ≤ 122))) == true then
        bif (decide ((x.1.getD (Int.toNat x.2.1) 0) ≥ 65)) == true then
          bif (!(decide ((x.1.getD (Int.toNat x.2.1) 0) ≤ 90))) == true then
            bif (decide ((x.1.getD (Int.toNat x.2.1) 0) ≥ 48)) == true then
              bif (!(decide ((x.1.getD (Int.toNat x.2.1) 0) ≤ 57))) == true then
                bif (x.1.getD (Int.toNat x.2.1) 0) != 95 then some (false, ((), ())) else
                Rc (x.1, (wr .i64 (x.2.1 + 1)), ())
              else
              Rc (x.1, (wr .i64 (x.2.1 + 1)), ())
            else
            bif (x.1.getD (Int.toNat x.2.1) 0) != 95 then some (false, ((), ())) else
            Rc (x.1, (wr .i64 (x.2.1 + 1)), ())
          else
          Rc (x.1, (wr .i64 (x.2.1 + 1)), ())
        else
        bif (decide ((x.1.getD (Int.toNat x.2.1) 0) ≥ 48)) == true then
          bif (!(decide ((x.1.getD (Int.toNat x.2.1) 0) ≤ 57))) == true then
            bif (x.1.getD (Int.toNat x.2.1) 0) != 95 then some (false, ((), ())) else
            Rc (x.1, (wr .i64 (x.2.1 + 1)), ())
          else
          Rc (x.1, (wr .i64 (x.2.1 + 1)), ())
        else
        bif (x.1.getD (Int.toNat x.2.1) 0) != 95 then some (false, ((), ())) else
        Rc (x.1, (wr .i64 (x.2.1 + 1)), ())
      else
      Rc (x.1, (wr .i64 (x.2.1 + 1)), ())
    else
    bif (decide ((x.1.getD (Int.toNat x.2.1) 0) ≥ 65)) == true then
      bif (!(decide ((x.1.getD (Int.toNat x.2.1) 0) ≤ 90))) == true then
        bif (decide ((x.1.getD (Int.toNat x.2.1) 0) ≥ 48)) == true then
          bif (!(decide ((x.1.getD (Int.toNat x.2.1) 0) ≤ 57))) == true then
            bif (x.1.getD (Int.toNat x.2.1) 0) != 95 then some (false, ((), ())) else
            Rc (x.1, (wr .i64 (x.2.1 + 1)), ())
          else
          Rc (x.1, (wr .i64 (x.2.1 + 1)), ())
        else
        bif (x.1.getD (Int.toNat x.2.1) 0) != 95 then some (false, ((), ())) else
        Rc (x.1, (wr .i64 (x.2.1 + 1)), ())
      else
      Rc (x.1, (wr .i64 (x.2.1 + 1)), ())
    else
    bif (decide ((x.1.getD (Int.toNat x.2.1) 0) ≥ 48)) == true then
      bif (!(decide ((x.1.getD (Int.toNat x.2.1) 0) ≤ 57))) == true then
        bif (x.1.getD (Int.toNat x.2.1) 0) != 95 then some (false, ((), ())) else
        Rc (x.1, (wr .i64 (x.2.1 + 1)), ())
      else
      Rc (x.1, (wr .i64 (x.2.1 + 1)), ())
    else
    bif (x.1.getD (Int.toNat x.2.1) 0) != 95 then some (false, ((), ())) else
    Rc (x.1, (wr .i64 (x.2.1 + 1)), ())
  else
  X 0 ()

def S.l2nameOK.l4 (x : S.l2nameOK.H4) (X : Nat → S.l2nameOK.E4 → Option S.l2nameOK.R) : Option S.l2nameOK.R := rounds (S.l2nameOK.st4) big X x
def S.l2nameOK.lo4 : LoopO (DenF S.l2nameOK.fr × DenB S.l2nameOK.fa) := ⟨[0, 3], S.l2nameOK.h4, [], S.l2nameOK.e4, S.l2nameOK.l4⟩
def S.l2nameOK.p (l4 : S.l2nameOK.H4 → (Nat → S.l2nameOK.E4 → Option S.l2nameOK.R) → Option S.l2nameOK.R) (x : S.l2nameOK.A) : Option S.l2nameOK.R :=
  bif (decide ((List.length x.1 : Int) < 1)) == false then
    bif decide ((List.length x.1 : Int) > 20) then some (false, ((), ())) else
    l4 (x.1, 0, ()) (fun i4 y4 =>
      bif Nat.beq i4 0 then some (true, ((), ())) else
      none)
  else
  some (false, ((), ()))

def S.l2nameOK (x : S.l2nameOK.A) : Option S.l2nameOK.R := S.l2nameOK.p S.l2nameOK.l4 x
def S.l2nameOK.spec : Spec := ⟨S.l2nameOK.fa, S.l2nameOK.fr, S.l2nameOK⟩

/-! loop.example/s01316/spec.l1width -/
def S.l1width.fa : Fm := (.cons (.int .i64) .nil)
def S.l1width.fr : Fm := .bool
abbrev S.l1width.A := Int × Unit
abbrev S.l1width.R := Bool × (Unit × Unit)
def S.l1width.o : Orc := []
def S.l1width (x : S.l1width.A) : Option S.l1width.R :=
  bif (x.1 == 1) == false then
    bif (x.1 == 2) == false then
      bif (x.1 == 4) == false then some (x.1 == 8, ((), ())) else
      some (true, ((), ()))
    else
    some (true, ((), ()))
  else
  some (true, ((), ()))

def S.l1width.spec : Spec := ⟨S.l1width.fa, S.l1width.fr, S.l1width⟩

/-! loop.example/s01316/spec.l2fieldOK -/
def S.l2fieldOK.fa : Fm := (.cons (.agg (.cons (.sl 5 (.int .u8)) (.cons (.int .i64) (.cons (.int .i64) .nil)))) .nil)
def S.l2fieldOK.fr : Fm := .bool
abbrev S.l2fieldOK.A := ((List Int) × Int × Int × Unit) × Unit
abbrev S.l2fieldOK.R := Bool × ((Unit × Unit × Unit × Unit) × Unit)
def S.l2fieldOK.o : Orc := [(176, S.l1width.spec), (217, S.l2nameOK.spec)]
def S.l2fieldOK (x : S.l2fieldOK.A) : Option S.l2fieldOK.R :=
  (S.l2nameOK (x.1.1, ())).bind fun r1 =>
  bif (!r1.1) == false then
    bif (decide (x.1.2.1 < 0)) == false then
      bif decide (x.1.2.1 > 3) then some (false, (((), (), (), ()), ())) else
      bif x.1.2.1 == 1 then
        (S.l1width (x.1.2.2.1, ())).bind fun r2 =>
        some (r2.1, (((), (), (), ()), ()))
      else
      some (x.1.2.2.1 == 0, (((), (), (), ()), ()))
    else
    some (false, (((), (), (), ()), ()))
  else
  some (false, (((), (), (), ()), ()))

def S.l2fieldOK.spec : Spec := ⟨S.l2fieldOK.fa, S.l2fieldOK.fr, S.l2fieldOK⟩

/-! loop.example/s01316/spec.l1fits -/
def S.l1fits.fa : Fm := (.cons (.int .i64) (.cons (.int .i64) .nil))
def S.l1fits.fr : Fm := .bool
abbrev S.l1fits.A := Int × Int × Unit
abbrev S.l1fits.R := Bool × (Unit × Unit × Unit)
def S.l1fits.o : Orc := []
def S.l1fits (x : S.l1fits.A) : Option S.l1fits.R :=
  bif x.2.1 == 8 then some (true, ((), (), ())) else
  let v1 : Int := wr .i64 ((8 : Int) * x.2.1)
  ck (decide (0 ≤ (wr .u64 (wr .i64 (v1 - 1))))) <|
  let v2 : Int := ishl .i64 (1 : Int) (wr .u64 (wr .i64 (v1 - 1)))
  bif (decide (x.1 ≥ (wr .i64 (0 - v2)))) == true then some (decide (x.1 < v2), ((), (), ())) else
  some (false, ((), (), ()))

def S.l1fits.spec : Spec := ⟨S.l1fits.fa, S.l1fits.fr, S.l1fits⟩

/-! loop.example/s01316/spec.l2cellOK -/
def S.l2cellOK.fa : Fm := (.cons (.agg (.cons (.sl 5 (.int .u8)) (.cons (.int .i64) (.cons (.int .i64) .nil)))) (.cons (.agg (.cons .bool (.cons (.int .i64) (.cons (.sl 5 (.int .u8)) .nil)))) .nil))
def S.l2cellOK.fr : Fm := .bool
abbrev S.l2cellOK.A := ((List Int) × Int × Int × Unit) × (Bool × Int × (List Int) × Unit) × Unit
abbrev S.l2cellOK.R := Bool × ((Unit × Unit × Unit × Unit) × (Unit × Unit × Unit × Unit) × Unit)
def S.l2cellOK.o : Orc := [(177, S.l1fits.spec)]
def S.l2cellOK (x : S.l2cellOK.A) : Option S.l2cellOK.R :=
  bif x.2.1.1 then
    bif (x.2.1.2.1 == 0) == true then
      some ((List.length x.2.1.2.2.1 : Int) == 0, (((), (), (), ()), ((), (), (), ()), ()))
    else
    some (false, (((), (), (), ()), ((), (), (), ()), ()))
  else
  bif x.1.2.1 == 0 then
    bif (x.2.1.2.1 == 0) == false then
      bif (x.2.1.2.1 == 1) == true then
        some ((List.length x.2.1.2.2.1 : Int) == 0, (((), (), (), ()), ((), (), (), ()), ()))
      else
      some (false, (((), (), (), ()), ((), (), (), ()), ()))
    else
    some ((List.length x.2.1.2.2.1 : Int) == 0, (((), (), (), ()), ((), (), (), ()), ()))
  else
  bif x.1.2.1 == 1 then
    (S.l1fits (x.2.1.2.1, x.1.2.2.1, ())).bind fun r1 =>
    bif r1.1 == true then
      some ((List.length x.2.1.2.2.1 : Int) == 0, (((), (), (), ()), ((), (), (), ()), ()))
    else
    some (false, (((), (), (), ()), ((), (), (), ()), ()))
  else
  some (x.2.1.2.1 == 0, (((), (), (), ()), ((), (), (), ()), ()))

def S.l2cellOK.spec : Spec := ⟨S.l2cellOK.fa, S.l2cellOK.fr, S.l2cellOK⟩

/-! loop.example/s01316/spec.l2cellsOK -/
def S.l2cellsOK.fa : Fm := (.cons (.agg (.cons (.sl 5 (.int .u8)) (.cons (.int .i64) (.cons (.int .i64) .nil)))) (.cons (.sl 137 c131) .nil))
def S.l2cellsOK.fr : Fm := .bool
abbrev S.l2cellsOK.A := ((List Int) × Int × Int × Unit) × (List DCell) × Unit
abbrev S.l2cellsOK.R := Bool × ((Unit × Unit × Unit × Unit) × Unit × Unit)
def S.l2cellsOK.o : Orc := [(170, S.l2fieldOK.spec), (175, S.l2cellOK.spec)]
def S.l2cellsOK.h4 : Fm := (.cons (.sl 137 c131) (.cons (.box (.cons (.sl 5 (.int .u8)) (.cons (.int .i64) (.cons (.int .i64) .nil)))) (.cons (.int .i64) .nil)))
def S.l2cellsOK.e4 : Fm := .nil
abbrev S.l2cellsOK.H4 := (List DCell) × ((List Int) × Int × Int × Unit) × Int × Unit
abbrev S.l2cellsOK.E4 := Unit
def S.l2cellsOK.st4 (Rc : S.l2cellsOK.H4 → Option S.l2cellsOK.R) (X : Nat → S.l2cellsOK.E4 → Option S.l2cellsOK.R) (x : S.l2cellsOK.H4) : Option S.l2cellsOK.R :=
  bif decide (x.2.2.1 < (List.length x.1 : Int)) then
    ck (decide (0 ≤ x.2.2.1) && decide (x.2.2.1 < (List.length x.1 : Int))) <|
    (S.l2cellOK ((x.2.1.1, x.2.1.2.1, x.2.1.2.2.1, ()), ((x.1.getD (Int.toNat x.2.2.1) zCell).1, (x.1.getD (Int.toNat x.2.2.1) zCell).2.1, (x.1.getD (Int.toNat x.2.2.1) zCell).2.2.1, ()), ())).bind fun r1 =>
    bif !r1.1 then some (false, (((), (), (), ()), (), ())) else
    Rc (x.1, (x.2.1.1, x.2.1.2.1, x.2.1.2.2.1, ()), (wr .i64 (x.2.2.1 + 1)), ())
  else
  X 0 ()

def S.l2cellsOK.l4 (x : S.l2cellsOK.H4) (X : Nat → S.l2cellsOK.E4 → Option S.l2cellsOK.R) : Option S.l2cellsOK.R := rounds (S.l2cellsOK.st4) big X x
def S.l2cellsOK.lo4 : LoopO (DenF S.l2cellsOK.fr × DenB S.l2cellsOK.fa) := ⟨[1, 2, 5], S.l2cellsOK.h4, [], S.l2cellsOK.e4, S.l2cellsOK.l4⟩
def S.l2cellsOK.p (l4 : S.l2cellsOK.H4 → (Nat → S.l2cellsOK.E4 → Option S.l2cellsOK.R) → Option S.l2cellsOK.R) (x : S.l2cellsOK.A) : Option S.l2cellsOK.R :=
  (S.l2fieldOK ((x.1.1, x.1.2.1, x.1.2.2.1, ()), ())).bind fun r1 =>
  bif (!r1.1) == false then
    bif decide ((List.length x.2.1 : Int) > 100) then some (false, (((), (), (), ()), (), ())) else
    l4 (x.2.1, (x.1.1, x.1.2.1, x.1.2.2.1, ()), 0, ()) (fun i4 y4 =>
      bif Nat.beq i4 0 then some (true, (((), (), (), ()), (), ())) else
      none)
  else
  some (false, (((), (), (), ()), (), ()))

def S.l2cellsOK (x : S.l2cellsOK.A) : Option S.l2cellsOK.R := S.l2cellsOK.p S.l2cellsOK.l4 x
def S.l2cellsOK.spec : Spec := ⟨S.l2cellsOK.fa, S.l2cellsOK.fr, S.l2cellsOK⟩

/-! loop.example/s01316/spec.l1same -/
def S.l1same.fa : Fm := (.cons (.sl 5 (.int .u8)) (.cons (.sl 5 (.int .u8)) .nil))
def S.l1same.fr : Fm := .bool
abbrev S.l1same.A := (List Int) × (List Int) × Unit
abbrev S.l1same.R := Bool × (Unit × Unit × Unit)
def S.l1same.o : Orc := []
def S.l1same (x : S.l1same.A) : Option S.l1same.R :=
  some (ByteArray.toList (strOf x.1) == ByteArray.toList (strOf x.2.1), ((), (), ()))

def S.l1same.spec : Spec := ⟨S.l1same.fa, S.l1same.fr, S.l1same⟩

/-! loop.example/s01316/spec.l2place -/
def S.l2place.fa : Fm := (.cons (.sl 22 (.sl 5 (.int .u8))) (.cons (.sl 5 (.int .u8)) .nil))
def S.l2place.fr : Fm := (.int .i64)
abbrev S.l2place.A := (List (List Int)) × (List Int) × Unit
abbrev S.l2place.R := Int × (Unit × Unit × Unit)
def S.l2place.o : Orc := [(174, S.l1same.spec)]
def S.l2place.h2 : Fm := (.cons (.sl 22 (.sl 5 (.int .u8))) (.cons (.sl 5 (.int .u8)) (.cons (.int .i64) .nil)))
def S.l2place.e2 : Fm := .nil
abbrev S.l2place.H2 := (List (List Int)) × (List Int) × Int × Unit
abbrev S.l2place.E2 := Unit
def S.l2place.st2 (Rc : S.l2place.H2 → Option S.l2place.R) (X : Nat → S.l2place.E2 → Option S.l2place.R) (x : S.l2place.H2) : Option S.l2place.R :=
  bif decide (x.2.2.1 < (List.length x.1 : Int)) then
    ck (decide (0 ≤ x.2.2.1) && decide (x.2.2.1 < (List.length x.1 : Int))) <|
    (S.l1same ((x.1.getD (Int.toNat x.2.2.1) []), x.2.1, ())).bind fun r1 =>
    bif r1.1 then some (x.2.2.1, ((), (), ())) else
    Rc (x.1, x.2.1, (wr .i64 (x.2.2.1 + 1)), ())
  else
  X 0 ()

def S.l2place.l2 (x : S.l2place.H2) (X : Nat → S.l2place.E2 → Option S.l2place.R) : Option S.l2place.R := rounds (S.l2place.st2) big X x
def S.l2place.lo2 : LoopO (DenF S.l2place.fr × DenB S.l2place.fa) := ⟨[0, 1, 5], S.l2place.h2, [], S.l2place.e2, S.l2place.l2⟩
def S.l2place.p (l2 : S.l2place.H2 → (Nat → S.l2place.E2 → Option S.l2place.R) → Option S.l2place.R) (x : S.l2place.A) : Option S.l2place.R :=
  l2 (x.1, x.2.1, 0, ()) (fun i2 y2 =>
    bif Nat.beq i2 0 then some (-1, ((), (), ())) else
    none)

def S.l2place (x : S.l2place.A) : Option S.l2place.R := S.l2place.p S.l2place.l2 x
def S.l2place.spec : Spec := ⟨S.l2place.fa, S.l2place.fr, S.l2place⟩

/-! loop.example/s01316/spec.ValidDict -/
def S.ValidDict.fa : Fm := (.cons (.sl 22 (.sl 5 (.int .u8))) .nil)
def S.ValidDict.fr : Fm := .bool
abbrev S.ValidDict.A := (List (List Int)) × Unit
abbrev S.ValidDict.R := Bool × (Unit × Unit)
def S.ValidDict.o : Orc := [(79, S.l2place.spec)]
def S.ValidDict.h5 : Fm := (.cons (.sl 22 (.sl 5 (.int .u8))) (.cons (.int .i64) (.cons (.int .i64) .nil)))
def S.ValidDict.e5 : Fm := .nil
abbrev S.ValidDict.H5 := (List (List Int)) × Int × Int × Unit
abbrev S.ValidDict.E5 := Unit
def S.ValidDict.st5 (Rc : S.ValidDict.H5 → Option S.ValidDict.R) (X : Nat → S.ValidDict.E5 → Option S.ValidDict.R) (x : S.ValidDict.H5) : Option S.ValidDict.R :=
  bif decide (x.2.2.1 < (List.length x.1 : Int)) then
    ck (decide (0 ≤ x.2.2.1) && decide (x.2.2.1 < (List.length x.1 : Int))) <|
    let v1 : Int := wr .i64 (x.2.1 + (List.length (x.1.getD (Int.toNat x.2.2.1) []) : Int))
    bif (decide (v1 > 4000)) == false then
      ck (decide (0 ≤ (0 : Int)) && (decide ((0 : Int) ≤ x.2.2.1) && decide (x.2.2.1 ≤ (List.length x.1 : Int)))) <|
      let v2 : List (List Int) := (x.1.take (Int.toNat x.2.2.1)).drop (Int.toNat (0 : Int))
      ck (decide (0 ≤ x.2.2.1) && decide (x.2.2.1 < (List.length x.1 : Int))) <|
      (S.l2place (v2, (x.1.getD (Int.toNat x.2.2.1) []), ())).bind fun r3 =>
      bif decide (r3.1 ≥ 0) then some (false, ((), ())) else
      Rc (x.1, v1, (wr .i64 (x.2.2.1 + 1)), ())
    else
    some (false, ((), ()))
  else
  X 0 ()

def S.ValidDict.l5 (x : S.ValidDict.H5) (X : Nat → S.ValidDict.E5 → Option S.ValidDict.R) : Option S.ValidDict.R := rounds (S.ValidDict.st5) big X x
def S.ValidDict.lo5 : LoopO (DenF S.ValidDict.fr × DenB S.ValidDict.fa) := ⟨[0, 3, 4], S.ValidDict.h5, [], S.ValidDict.e5, S.ValidDict.l5⟩
def S.ValidDict.p (l5 : S.ValidDict.H5 → (Nat → S.ValidDict.E5 → Option S.ValidDict.R) → Option S.ValidDict.R) (x : S.ValidDict.A) : Option S.ValidDict.R :=
  bif decide ((List.length x.1 : Int) > 40) then some (false, ((), ())) else
  l5 (x.1, 0, 0, ()) (fun i5 y5 =>
    bif Nat.beq i5 0 then some (true, ((), ())) else
    none)

def S.ValidDict (x : S.ValidDict.A) : Option S.ValidDict.R := S.ValidDict.p S.ValidDict.l5 x
def S.ValidDict.spec : Spec := ⟨S.ValidDict.fa, S.ValidDict.fr, S.ValidDict⟩

/-! loop.example/s01316/spec.PackBits -/
def S.PackBits.fa : Fm := (.cons (.sl 4 .bool) .nil)
def S.PackBits.fr : Fm := (.own 5 (.int .u8) true)
abbrev S.PackBits.A := (List Bool) × Unit
abbrev S.PackBits.R := (List Int) × (Unit × Unit)
def S.PackBits.o : Orc := []
def S.PackBits.h7 : Fm := (.cons (.sl 4 .bool) (.cons (.own 5 (.int .u8) true) (.cons (.int .i64) (.cons (.int .i64) (.cons (.int .i64) .nil)))))
def S.PackBits.e7 : Fm := (.cons (.sl 4 .bool) (.cons (.own 5 (.int .u8) true) (.cons (.int .i64) (.cons (.int .i64) .nil))))
abbrev S.PackBits.H7 := (List Bool) × (List Int) × Int × Int × Int × Unit
abbrev S.PackBits.E7 := (List Bool) × (List Int) × Int × Int × Unit
def S.PackBits.st7 (Rc : S.PackBits.H7 → Option S.PackBits.R) (X : Nat → S.PackBits.E7 → Option S.PackBits.R) (x : S.PackBits.H7) : Option S.PackBits.R :=
  bif decide (x.2.2.2.2.1 ≥ 0) then
    let v1 : Int := wr .i64 (x.2.2.1 + x.2.2.2.2.1)
    bif (decide (v1 < (List.length x.1 : Int))) == true then
      let v2 : Int := wr .i64 (x.2.2.1 + x.2.2.2.2.1)
      ck (decide (0 ≤ v2) && decide (v2 < (List.length x.1 : Int))) <|
      bif x.1.getD (Int.toNat v2) false then
        let v3 : Int := wr .i64 ((wr .i64 (x.2.2.2.1 * 2)) + 1)
        Rc (x.1, x.2.1, x.2.2.1, v3, (wr .i64 (x.2.2.2.2.1 - 1)), ())
      else
      Rc (x.1, x.2.1, x.2.2.1, (wr .i64 (x.2.2.2.1 * 2)), (wr .i64 (x.2.2.2.2.1 - 1)), ())
    else
    Rc (x.1, x.2.1, x.2.2.1, (wr .i64 (x.2.2.2.1 * 2)), (wr .i64 (x.2.2.2.2.1 - 1)), ())
  else
  X 2 (x.1, x.2.1, x.2.2.1, x.2.2.2.1, ())

def S.PackBits.l7 (x : S.PackBits.H7) (X : Nat → S.PackBits.E7 → Option S.PackBits.R) : Option S.PackBits.R := rounds (S.PackBits.st7) big X x
def S.PackBits.lo7 : LoopO (DenF S.PackBits.fr × DenB S.PackBits.fa) := ⟨[0, 3, 4, 5, 6], S.PackBits.h7, [0, 3, 4, 5], S.PackBits.e7, S.PackBits.l7⟩
def S.PackBits.h3 : Fm := (.cons (.sl 4 .bool) (.cons (.own 5 (.int .u8) true) (.cons (.int .i64) .nil)))
def S.PackBits.e3 : Fm := (.cons (.own 5 (.int .u8) true) .nil)
abbrev S.PackBits.H3 := (List Bool) × (List Int) × Int × Unit
abbrev S.PackBits.E3 := (List Int) × Unit
def S.PackBits.st3 (l7 : S.PackBits.H7 → (Nat → S.PackBits.E7 → Option S.PackBits.R) → Option S.PackBits.R) (Rc : S.PackBits.H3 → Option S.PackBits.R) (X : Nat → S.PackBits.E3 → Option S.PackBits.R) (x : S.PackBits.H3) : Option S.PackBits.R :=
  bif decide (x.2.2.1 < (List.length x.1 : Int)) then
    l7 (x.1, x.2.1, x.2.2.1, 0, 7, ()) (fun i7 y7 =>
      bif Nat.beq i7 2 then
        ck (Nat.ble ((List.length y7.2.1 + List.length [wr .u8 y7.2.2.2.1]) * 1) 140737488355328) <|
        let v1 : List Int := y7.2.1 ++ [wr .u8 y7.2.2.2.1]
        Rc (y7.1, v1, (wr .i64 (y7.2.2.1 + 8)), ())
      else
      bif Nat.beq i7 1 then Rc (y7.1, y7.2.1, (wr .i64 (y7.2.2.1 + 8)), ()) else
      X i7 (y7.2.1, ()))
  else
  X 0 (x.2.1, ())

def S.PackBits.l3 (x : S.PackBits.H3) (X : Nat → S.PackBits.E3 → Option S.PackBits.R) : Option S.PackBits.R := rounds (S.PackBits.st3 S.PackBits.l7) big X x
def S.PackBits.lo3 : LoopO (DenF S.PackBits.fr × DenB S.PackBits.fa) := ⟨[0, 3, 4], S.PackBits.h3, [3], S.PackBits.e3, S.PackBits.l3⟩
def S.PackBits.p (l3 : S.PackBits.H3 → (Nat → S.PackBits.E3 → Option S.PackBits.R) → Option S.PackBits.R) (x : S.PackBits.A) : Option S.PackBits.R :=
  l3 (x.1, [], 0, ()) (fun i3 y3 =>
    bif Nat.beq i3 0 then some (y3.1, ((), ())) else
    none)

def S.PackBits (x : S.PackBits.A) : Option S.PackBits.R := S.PackBits.p S.PackBits.l3 x
def S.PackBits.spec : Spec := ⟨S.PackBits.fa, S.PackBits.fr, S.PackBits⟩

/-! loop.example/s01316/spec.l2validity -/
def S.l2validity.fa : Fm := (.cons (.sl 137 c131) .nil)
def S.l2validity.fr : Fm := (.own 5 (.int .u8) true)
abbrev S.l2validity.A := (List DCell) × Unit
abbrev S.l2validity.R := (List Int) × (Unit × Unit)
def S.l2validity.o : Orc := [(80, S.PackBits.spec)]
def S.l2validity.h4 : Fm := (.cons (.sl 137 c131) (.cons (.own 4 .bool true) (.cons .bool (.cons (.int .i64) .nil))))
def S.l2validity.e4 : Fm := (.cons (.own 4 .bool true) (.cons .bool .nil))
abbrev S.l2validity.H4 := (List DCell) × (List Bool) × Bool × Int × Unit
abbrev S.l2validity.E4 := (List Bool) × Bool × Unit
def S.l2validity.st4 (Rc : S.l2validity.H4 → Option S.l2validity.R) (X : Nat → S.l2validity.E4 → Option S.l2validity.R) (x : S.l2validity.H4) : Option S.l2validity.R :=
  bif decide (x.2.2.2.1 < (List.length x.1 : Int)) then
    ck (decide (0 ≤ x.2.2.2.1) && decide (x.2.2.2.1 < (List.length x.1 : Int))) <|
    ck (Nat.ble ((List.length x.2.1 + List.length [!(x.1.getD (Int.toNat x.2.2.2.1) zCell).1]) * 1) 140737488355328) <|
    let v1 : List Bool := x.2.1 ++ [!(x.1.getD (Int.toNat x.2.2.2.1) zCell).1]
    bif x.2.2.1 == true then
      ck (decide (0 ≤ x.2.2.2.1) && decide (x.2.2.2.1 < (List.length x.1 : Int))) <|
      Rc (x.1, v1, (!(x.1.getD (Int.toNat x.2.2.2.1) zCell).1), (wr .i64 (x.2.2.2.1 + 1)), ())
    else
    Rc (x.1, v1, false, (wr .i64 (x.2.2.2.1 + 1)), ())
  else
  X 0 (x.2.1, x.2.2.1, ())

def S.l2validity.l4 (x : S.l2validity.H4) (X : Nat → S.l2validity.E4 → Option S.l2validity.R) : Option S.l2validity.R := rounds (S.l2validity.st4) big X x
def S.l2validity.lo4 : LoopO (DenF S.l2validity.fr × DenB S.l2validity.fa) := ⟨[0, 3, 4, 5], S.l2validity.h4, [3, 4], S.l2validity.e4, S.l2validity.l4⟩
def S.l2validity.p (l4 : S.l2validity.H4 → (Nat → S.l2validity.E4 → Option S.l2validity.R) → Option S.l2validity.R) (x : S.l2validity.A) : Option S.l2validity.R :=
  l4 (x.1, [], true, 0, ()) (fun i4 y4 =>
    bif Nat.beq i4 0 then
      bif y4.2.1 then some ([], ((), ())) else
      (S.PackBits (y4.1, ())).bind fun r1 =>
      some (r1.1, ((), ()))
    else
    none)

def S.l2validity (x : S.l2validity.A) : Option S.l2validity.R := S.l2validity.p S.l2validity.l4 x
def S.l2validity.spec : Spec := ⟨S.l2validity.fa, S.l2validity.fr, S.l2validity⟩

/-! loop.example/s01316/spec.l1little -/
def S.l1little.fa : Fm := (.cons (.int .i64) (.cons (.int .i64) .nil))
def S.l1little.fr : Fm := (.own 5 (.int .u8) true)
abbrev S.l1little.A := Int × Int × Unit
abbrev S.l1little.R := (List Int) × (Unit × Unit × Unit)
def S.l1little.o : Orc := []
def S.l1little.h4 : Fm := (.cons (.int .i64) (.cons (.int .u64) (.cons (.own 5 (.int .u8) true) (.cons (.int .i64) .nil))))
def S.l1little.e4 : Fm := (.cons (.own 5 (.int .u8) true) .nil)
abbrev S.l1little.H4 := Int × Int × (List Int) × Int × Unit
abbrev S.l1little.E4 := (List Int) × Unit
def S.l1little.st4 (Rc : S.l1little.H4 → Option S.l1little.R) (X : Nat → S.l1little.E4 → Option S.l1little.R) (x : S.l1little.H4) : Option S.l1little.R :=
  bif decide (x.2.2.2.1 < x.1) then
    ck (Nat.ble ((List.length x.2.2.1 + List.length [wr .u8 (Int.tmod x.2.1 256)]) * 1) 140737488355328) <|
    let v1 : List Int := x.2.2.1 ++ [wr .u8 (Int.tmod x.2.1 256)]
    let v2 : Int := wr .u64 (Int.tdiv x.2.1 256)
    Rc (x.1, v2, v1, (wr .i64 (x.2.2.2.1 + 1)), ())
  else
  X 0 (x.2.2.1, ())

def S.l1little.l4 (x : S.l1little.H4) (X : Nat → S.l1little.E4 → Option S.l1little.R) : Option S.l1little.R := rounds (S.l1little.st4) big X x
def S.l1little.lo4 : LoopO (DenF S.l1little.fr × DenB S.l1little.fa) := ⟨[1, 5, 6, 7], S.l1little.h4, [6], S.l1little.e4, S.l1little.l4⟩
def S.l1little.p (l4 : S.l1little.H4 → (Nat → S.l1little.E4 → Option S.l1little.R) → Option S.l1little.R) (x : S.l1little.A) : Option S.l1little.R :=
  l4 (x.2.1, (wr .u64 x.1), [], 0, ()) (fun i4 y4 =>
    bif Nat.beq i4 0 then some (y4.1, ((), (), ())) else
    none)

def S.l1little (x : S.l1little.A) : Option S.l1little.R := S.l1little.p S.l1little.l4 x
def S.l1little.spec : Spec := ⟨S.l1little.fa, S.l1little.fr, S.l1little⟩

/-! loop.example/s01316/spec.PackInts -/
def S.PackInts.fa : Fm := (.cons (.sl 3 (.int .i64)) (.cons (.int .i64) .nil))
def S.PackInts.fr : Fm := (.tup (.cons (.own 5 (.int .u8) true) (.cons (.int .i64) .nil)))
abbrev S.PackInts.A := (List Int) × Int × Unit
abbrev S.PackInts.R := ((List Int) × Int × Unit) × (Unit × Unit × Unit)
def S.PackInts.o : Orc := [(176, S.l1width.spec), (177, S.l1fits.spec), (178, S.l1little.spec)]
def S.PackInts.h5 : Fm := (.cons (.sl 3 (.int .i64)) (.cons (.int .i64) (.cons (.own 5 (.int .u8) true) (.cons (.int .i64) .nil))))
def S.PackInts.e5 : Fm := (.cons (.own 5 (.int .u8) true) .nil)
abbrev S.PackInts.H5 := (List Int) × Int × (List Int) × Int × Unit
abbrev S.PackInts.E5 := (List Int) × Unit
def S.PackInts.st5 (Rc : S.PackInts.H5 → Option S.PackInts.R) (X : Nat → S.PackInts.E5 → Option S.PackInts.R) (x : S.PackInts.H5) : Option S.PackInts.R :=
  bif decide (x.2.2.2.1 < (List.length x.1 : Int)) then
    ck (decide (0 ≤ x.2.2.2.1) && decide (x.2.2.2.1 < (List.length x.1 : Int))) <|
    (S.l1fits ((x.1.getD (Int.toNat x.2.2.2.1) 0), x.2.1, ())).bind fun r1 =>
    bif !r1.1 then some (([], 1, ()), ((), (), ())) else
    ck (decide (0 ≤ x.2.2.2.1) && decide (x.2.2.2.1 < (List.length x.1 : Int))) <|
    (S.l1little ((x.1.getD (Int.toNat x.2.2.2.1) 0), x.2.1, ())).bind fun r2 =>
    ck (Nat.ble ((List.length x.2.2.1 + List.length r2.1) * 1) 140737488355328) <|
    Rc (x.1, x.2.1, (x.2.2.1 ++ r2.1), (wr .i64 (x.2.2.2.1 + 1)), ())
  else
  X 0 (x.2.2.1, ())

def S.PackInts.l5 (x : S.PackInts.H5) (X : Nat → S.PackInts.E5 → Option S.PackInts.R) : Option S.PackInts.R := rounds (S.PackInts.st5) big X x
def S.PackInts.lo5 : LoopO (DenF S.PackInts.fr × DenB S.PackInts.fa) := ⟨[0, 1, 6, 7], S.PackInts.h5, [6], S.PackInts.e5, S.PackInts.l5⟩
def S.PackInts.p (l5 : S.PackInts.H5 → (Nat → S.PackInts.E5 → Option S.PackInts.R) → Option S.PackInts.R) (x : S.PackInts.A) : Option S.PackInts.R :=
  (S.l1width (x.2.1, ())).bind fun r1 =>
  bif !r1.1 then some (([], 1, ()), ((), (), ())) else
  l5 (x.1, x.2.1, [], 0, ()) (fun i5 y5 =>
    bif Nat.beq i5 0 then some ((y5.1, 0, ()), ((), (), ())) else
    none)

def S.PackInts (x : S.PackInts.A) : Option S.PackInts.R := S.PackInts.p S.PackInts.l5 x
def S.PackInts.spec : Spec := ⟨S.PackInts.fa, S.PackInts.fr, S.PackInts⟩

/-! loop.example/s01316/spec.l2textBuffers -/
def S.l2textBuffers.fa : Fm := (.cons (.sl 22 (.sl 5 (.int .u8))) .nil)
def S.l2textBuffers.fr : Fm := (.own 22 (.sl 5 (.int .u8)) true)
abbrev S.l2textBuffers.A := (List (List Int)) × Unit
abbrev S.l2textBuffers.R := (List (List Int)) × (Unit × Unit)
def S.l2textBuffers.o : Orc := [(82, S.PackInts.spec)]
def S.l2textBuffers.h4 : Fm := (.cons (.sl 22 (.sl 5 (.int .u8))) (.cons (.own 3 (.int .i64) true) (.cons (.own 5 (.int .u8) true) (.cons (.int .i64) .nil))))
def S.l2textBuffers.e4 : Fm := (.cons (.own 3 (.int .i64) true) (.cons (.own 5 (.int .u8) true) .nil))
abbrev S.l2textBuffers.H4 := (List (List Int)) × (List Int) × (List Int) × Int × Unit
abbrev S.l2textBuffers.E4 := (List Int) × (List Int) × Unit
def S.l2textBuffers.st4 (Rc : S.l2textBuffers.H4 → Option S.l2textBuffers.R) (X : Nat → S.l2textBuffers.E4 → Option S.l2textBuffers.R) (x : S.l2textBuffers.H4) : Option S.l2textBuffers.R :=
  bif decide (x.2.2.2.1 < (List.length x.1 : Int)) then
    ck (decide (0 ≤ x.2.2.2.1) && decide (x.2.2.2.1 < (List.length x.1 : Int))) <|
    ck (Nat.ble ((List.length x.2.2.1 + List.length (x.1.getD (Int.toNat x.2.2.2.1) [])) * 1) 140737488355328) <|
    let v1 : List Int := x.2.2.1 ++ (x.1.getD (Int.toNat x.2.2.2.1) [])
    ck (Nat.ble ((List.length x.2.1 + List.length [(List.length v1 : Int)]) * 8) 140737488355328) <|
    let v2 : List Int := x.2.1 ++ [(List.length v1 : Int)]
    Rc (x.1, v2, v1, (wr .i64 (x.2.2.2.1 + 1)), ())
  else
  X 0 (x.2.1, x.2.2.1, ())

def S.l2textBuffers.l4 (x : S.l2textBuffers.H4) (X : Nat → S.l2textBuffers.E4 → Option S.l2textBuffers.R) : Option S.l2textBuffers.R := rounds (S.l2textBuffers.st4) big X x
def S.l2textBuffers.lo4 : LoopO (DenF S.l2textBuffers.fr × DenB S.l2textBuffers.fa) := ⟨[0, 3, 4, 5], S.l2textBuffers.h4, [3, 4], S.l2textBuffers.e4, S.l2textBuffers.l4⟩
def S.l2textBuffers.p (l4 : S.l2textBuffers.H4 → (Nat → S.l2textBuffers.E4 → Option S.l2textBuffers.R) → Option S.l2textBuffers.R) (x : S.l2textBuffers.A) : Option S.l2textBuffers.R :=
  l4 (x.1, [0], [], 0, ()) (fun i4 y4 =>
    bif Nat.beq i4 0 then
      (S.PackInts (y4.1, 4, ())).bind fun r1 =>
      some ([r1.1.1, y4.2.1], ((), ()))
    else
    none)

def S.l2textBuffers (x : S.l2textBuffers.A) : Option S.l2textBuffers.R := S.l2textBuffers.p S.l2textBuffers.l4 x
def S.l2textBuffers.spec : Spec := ⟨S.l2textBuffers.fa, S.l2textBuffers.fr, S.l2textBuffers⟩

/-! loop.example/s01316/spec.BuildColumn -/
def S.BuildColumn.fa : Fm := (.cons (.agg (.cons (.sl 5 (.int .u8)) (.cons (.int .i64) (.cons (.int .i64) .nil)))) (.cons (.sl 137 c131) (.cons (.sl 22 (.sl 5 (.int .u8))) .nil)))
def S.BuildColumn.fr : Fm := (.tup (.cons (.own 22 (.sl 5 (.int .u8)) true) (.cons (.int .i64) .nil)))
abbrev S.BuildColumn.A := ((List Int) × Int × Int × Unit) × (List DCell) × (List (List Int)) × Unit
abbrev S.BuildColumn.R := ((List (List Int)) × Int × Unit) × ((Unit × Unit × Unit × Unit) × Unit × Unit × Unit)
def S.BuildColumn.o : Orc := [(76, S.l2cellsOK.spec), (77, S.ValidDict.spec), (78, S.l2validity.spec), (79, S.l2place.spec), (80, S.PackBits.spec), (81, S.l2textBuffers.spec), (82, S.PackInts.spec)]
def S.BuildColumn.h8 : Fm := (.cons (.sl 137 c131) (.cons (.sl 22 (.sl 5 (.int .u8))) (.cons (.box (.cons (.sl 5 (.int .u8)) (.cons (.int .i64) (.cons (.int .i64) .nil)))) (.cons (.own 22 (.sl 5 (.int .u8)) true) (.cons (.own 4 .bool true) (.cons (.own 3 (.int .i64) true) (.cons (.own 22 (.sl 5 (.int .u8)) false) (.cons (.int .i64) .nil))))))))
def S.BuildColumn.e8 : Fm := (.cons (.box (.cons (.sl 5 (.int .u8)) (.cons (.int .i64) (.cons (.int .i64) .nil)))) (.cons (.own 22 (.sl 5 (.int .u8)) true) (.cons (.own 4 .bool true) (.cons (.own 3 (.int .i64) true) (.cons (.own 22 (.sl 5 (.int .u8)) false) .nil)))))
abbrev S.BuildColumn.H8 := (List DCell) × (List (List Int)) × ((List Int) × Int × Int × Unit) × (List (List Int)) × (List Bool) × (List Int) × (List (List Int)) × Int × Unit
abbrev S.BuildColumn.E8 := ((List Int) × Int × Int × Unit) × (List (List Int)) × (List Bool) × (List Int) × (List (List Int)) × Unit
def S.BuildColumn.st8 (Rc : S.BuildColumn.H8 → Option S.BuildColumn.R) (X : Nat → S.BuildColumn.E8 → Option S.BuildColumn.R) (x : S.BuildColumn.H8) : Option S.BuildColumn.R :=
  bif decide (x.2.2.2.2.2.2.2.1 < (List.length x.1 : Int)) then
    ck (decide (0 ≤ x.2.2.2.2.2.2.2.1) && decide (x.2.2.2.2.2.2.2.1 < (List.length x.1 : Int))) <|
    ck (Nat.ble ((List.length x.2.2.2.2.1 + List.length [(x.1.getD (Int.toNat x.2.2.2.2.2.2.2.1) zCell).2.1 == 1]) * 1) 140737488355328) <|
    let v1 : List Bool := x.2.2.2.2.1 ++ [(x.1.getD (Int.toNat x.2.2.2.2.2.2.2.1) zCell).2.1 == 1]
    ck (Nat.ble ((List.length x.2.2.2.2.2.2.1 + List.length [(x.1.getD (Int.toNat x.2.2.2.2.2.2.2.1) zCell).2.2.1]) * 24) 140737488355328) <|
    let v2 : List (List Int) := x.2.2.2.2.2.2.1 ++ [(x.1.getD (Int.toNat x.2.2.2.2.2.2.2.1) zCell).2.2.1]
    bif x.2.2.1.2.1 != 3 then
      ck (Nat.ble ((List.length x.2.2.2.2.2.1 + List.length [(x.1.getD (Int.toNat x.2.2.2.2.2.2.2.1) zCell).2.1]) * 8) 140737488355328) <|
      let v3 : List Int := x.2.2.2.2.2.1 ++ [(x.1.getD (Int.toNat x.2.2.2.2.2.2.2.1) zCell).2.1]
      let v4 : Int := wr .i64 (x.2.2.2.2.2.2.2.1 + 1)
      Rc (x.1, x.2.1, (x.2.2.1.1, x.2.2.1.2.1, x.2.2.1.2.2.1, ()), x.2.2.2.1, v1, v3, v2, v4, ())
    else
    bif (x.1.getD (Int.toNat x.2.2.2.2.2.2.2.1) zCell).1 then
      ck (Nat.ble ((List.length x.2.2.2.2.2.1 + List.length [0]) * 8) 140737488355328) <|
      let v5 : Int := wr .i64 (x.2.2.2.2.2.2.2.1 + 1)
      Rc (x.1, x.2.1, (x.2.2.1.1, x.2.2.1.2.1, x.2.2.1.2.2.1, ()), x.2.2.2.1, v1, (x.2.2.2.2.2.1 ++ [0]), v2, v5, ())
    else
    (S.l2place (x.2.1, (x.1.getD (Int.toNat x.2.2.2.2.2.2.2.1) zCell).2.2.1, ())).bind fun r6 =>
    bif decide (r6.1 < 0) then some (([], 1, ()), (((), (), (), ()), (), (), ())) else
    ck (Nat.ble ((List.length x.2.2.2.2.2.1 + List.length [r6.1]) * 8) 140737488355328) <|
    let v7 : Int := wr .i64 (x.2.2.2.2.2.2.2.1 + 1)
    Rc (x.1, x.2.1, (x.2.2.1.1, x.2.2.1.2.1, x.2.2.1.2.2.1, ()), x.2.2.2.1, v1, (x.2.2.2.2.2.1 ++ [r6.1]), v2, v7, ())
  else
  X 0 ((x.2.2.1.1, x.2.2.1.2.1, x.2.2.1.2.2.1, ()), x.2.2.2.1, x.2.2.2.2.1, x.2.2.2.2.2.1, x.2.2.2.2.2.2.1, ())

def S.BuildColumn.l8 (x : S.BuildColumn.H8) (X : Nat → S.BuildColumn.E8 → Option S.BuildColumn.R) : Option S.BuildColumn.R := rounds (S.BuildColumn.st8) big X x
def S.BuildColumn.lo8 : LoopO (DenF S.BuildColumn.fr × DenB S.BuildColumn.fa) := ⟨[1, 2, 3, 8, 9, 10, 11, 12], S.BuildColumn.h8, [3, 8, 9, 10, 11], S.BuildColumn.e8, S.BuildColumn.l8⟩
def S.BuildColumn.p (l8 : S.BuildColumn.H8 → (Nat → S.BuildColumn.E8 → Option S.BuildColumn.R) → Option S.BuildColumn.R) (x : S.BuildColumn.A) : Option S.BuildColumn.R :=
  (S.l2cellsOK ((x.1.1, x.1.2.1, x.1.2.2.1, ()), x.2.1, ())).bind fun r1 =>
  bif (!r1.1) == false then
    (S.ValidDict (x.2.2.1, ())).bind fun r2 =>
    bif !r2.1 then some (([], 1, ()), (((), (), (), ()), (), (), ())) else
    (S.l2validity (x.2.1, ())).bind fun r3 =>
    l8 (x.2.1, x.2.2.1, (x.1.1, x.1.2.1, x.1.2.2.1, ()), [r3.1], [], [], [], 0, ()) (fun i8 y8 =>
      bif Nat.beq i8 0 then
        bif y8.1.2.1 == 0 then
          (S.PackBits (y8.2.2.1, ())).bind fun r4 =>
          ck (Nat.ble ((List.length y8.2.1 + List.length [r4.1]) * 24) 140737488355328) <|
          some (((y8.2.1 ++ [r4.1]), 0, ()), (((), (), (), ()), (), (), ()))
        else
        bif y8.1.2.1 == 2 then
          (S.l2textBuffers (y8.2.2.2.2.1, ())).bind fun r5 =>
          ck (Nat.ble ((List.length y8.2.1 + List.length r5.1) * 24) 140737488355328) <|
          some (((y8.2.1 ++ r5.1), 0, ()), (((), (), (), ()), (), (), ()))
        else
        bif y8.1.2.1 == 3 then
          (S.PackInts (y8.2.2.2.1, 1, ())).bind fun r6 =>
          ck (Nat.ble ((List.length y8.2.1 + List.length [r6.1.1]) * 24) 140737488355328) <|
          some (((y8.2.1 ++ [r6.1.1]), 0, ()), (((), (), (), ()), (), (), ()))
        else
        (S.PackInts (y8.2.2.2.1, y8.1.2.2.1, ())).bind fun r7 =>
        ck (Nat.ble ((List.length y8.2.1 + List.length [r7.1.1]) * 24) 140737488355328) <|
        some (((y8.2.1 ++ [r7.1.1]), 0, ()), (((), (), (), ()), (), (), ()))
      else
      none)
  else
  some (([], 1, ()), (((), (), (), ()), (), (), ()))

def S.BuildColumn (x : S.BuildColumn.A) : Option S.BuildColumn.R := S.BuildColumn.p S.BuildColumn.l8 x
def S.BuildColumn.spec : Spec := ⟨S.BuildColumn.fa, S.BuildColumn.fr, S.BuildColumn⟩

/-! loop.example/s01316/impl.nameOk -/
def I.nameOk.fa : Fm := (.cons (.sl 5 (.int .u8)) .nil)
def I.nameOk.fr : Fm := .bool
abbrev I.nameOk.A := (List Int) × Unit
abbrev I.nameOk.R := Bool × (Unit × Unit)
def I.nameOk.o : Orc := []
def I.nameOk.h4 : Fm := (.cons (.sl 5 (.int .u8)) (.cons (.int .i64) (.cons (.int .i64) .nil)))
def I.nameOk.e4 : Fm := .nil
abbrev I.nameOk.H4 := (List Int) × Int × Int × Unit
abbrev I.nameOk.E4 := Unit
def I.nameOk.st4 (Rc : I.nameOk.H4 → Option I.nameOk.R) (X : Nat → I.nameOk.E4 → Option I.nameOk.R) (x : I.nameOk.H4) : Option I.nameOk.R :=
  bif decide (x.2.2.1 < x.2.1) then
    ck (decide (0 ≤ x.2.2.1) && decide (x.2.2.1 < (List.length x.1 : Int))) <|
    bif (decide ((x.1.getD (Int.toNat x.2.2.1) 0) ≥ 97)) == true then
      bif (decide ((x.1.getD (Int.toNat x.2.2.1) 0) ≤ 122)) == false then
        bif (decide ((x.1.getD (Int.toNat x.2.2.1) 0) ≥ 65)) == true then
          bif (decide ((x.1.getD (Int.toNat x.2.2.1) 0) ≤ 90)) == false then
            bif (decide ((x.1.getD (Int.toNat x.2.2.1) 0) ≥ 48)) == true then
              bif (decide ((x.1.getD (Int.toNat x.2.2.1) 0) ≤ 57)) == false then
                bif !((x.1.getD (Int.toNat x.2.2.1) 0) == 95) then some (false, ((), ())) else
                Rc (x.1, x.2.1, (wr .i64 (x.2.2.1 + 1)), ())
              else
              Rc (x.1, x.2.1, (wr .i64 (x.2.2.1 + 1)), ())
            else
            bif !((x.1.getD (Int.toNat x.2.2.1) 0) == 95) then some (false, ((), ())) else
            Rc (x.1, x.2.1, (wr .i64 (x.2.2.1 + 1)), ())
          else
          Rc (x.1, x.2.1, (wr .i64 (x.2.2.1 + 1)), ())
        else
        bif (decide ((x.1.getD (Int.toNat x.2.2.1) 0) ≥ 48)) == true then
          bif (decide ((x.1.getD (Int.toNat x.2.2.1) 0) ≤ 57)) == false then
            bif !((x.1.getD (Int.toNat x.2.2.1) 0) == 95) then some (false, ((), ())) else
            Rc (x.1, x.2.1, (wr .i64 (x.2.2.1 + 1)), ())
          else
          Rc (x.1, x.2.1, (wr .i64 (x.2.2.1 + 1)), ())
        else
        bif !((x.1.getD (Int.toNat x.2.2.1) 0) == 95) then some (false, ((), ())) else
        Rc (x.1, x.2.1, (wr .i64 (x.2.2.1 + 1)), ())
      else
      Rc (x.1, x.2.1, (wr .i64 (x.2.2.1 + 1)), ())
    else
    bif (decide ((x.1.getD (Int.toNat x.2.2.1) 0) ≥ 65)) == true then
      bif (decide ((x.1.getD (Int.toNat x.2.2.1) 0) ≤ 90)) == false then
        bif (decide ((x.1.getD (Int.toNat x.2.2.1) 0) ≥ 48)) == true then
          bif (decide ((x.1.getD (Int.toNat x.2.2.1) 0) ≤ 57)) == false then
            bif !((x.1.getD (Int.toNat x.2.2.1) 0) == 95) then some (false, ((), ())) else
            Rc (x.1, x.2.1, (wr .i64 (x.2.2.1 + 1)), ())
          else
          Rc (x.1, x.2.1, (wr .i64 (x.2.2.1 + 1)), ())
        else
        bif !((x.1.getD (Int.toNat x.2.2.1) 0) == 95) then some (false, ((), ())) else
        Rc (x.1, x.2.1, (wr .i64 (x.2.2.1 + 1)), ())
      else
      Rc (x.1, x.2.1, (wr .i64 (x.2.2.1 + 1)), ())
    else
    bif (decide ((x.1.getD (Int.toNat x.2.2.1) 0) ≥ 48)) == true then
      bif (decide ((x.1.getD (Int.toNat x.2.2.1) 0) ≤ 57)) == false then
        bif !((x.1.getD (Int.toNat x.2.2.1) 0) == 95) then some (false, ((), ())) else
        Rc (x.1, x.2.1, (wr .i64 (x.2.2.1 + 1)), ())
      else
      Rc (x.1, x.2.1, (wr .i64 (x.2.2.1 + 1)), ())
    else
    bif !((x.1.getD (Int.toNat x.2.2.1) 0) == 95) then some (false, ((), ())) else
    Rc (x.1, x.2.1, (wr .i64 (x.2.2.1 + 1)), ())
  else
  X 0 ()

def I.nameOk.l4 (x : I.nameOk.H4) (X : Nat → I.nameOk.E4 → Option I.nameOk.R) : Option I.nameOk.R := rounds (I.nameOk.st4) big X x
def I.nameOk.lo4 : LoopO (DenF I.nameOk.fr × DenB I.nameOk.fa) := ⟨[13, 14, 15], I.nameOk.h4, [], I.nameOk.e4, I.nameOk.l4⟩
def I.nameOk.p (l4 : I.nameOk.H4 → (Nat → I.nameOk.E4 → Option I.nameOk.R) → Option I.nameOk.R) (x : I.nameOk.A) : Option I.nameOk.R :=
  bif (decide ((List.length x.1 : Int) < 1)) == false then
    bif decide ((List.length x.1 : Int) > 20) then some (false, ((), ())) else
    l4 (x.1, (List.length x.1 : Int), 0, ()) (fun i4 y4 =>
      bif Nat.beq i4 0 then some (true, ((), ())) else
      none)
  else
  some (false, ((), ()))

def I.nameOk (x : I.nameOk.A) : Option I.nameOk.R := I.nameOk.p I.nameOk.l4 x
def I.nameOk.spec : Spec := ⟨I.nameOk.fa, I.nameOk.fr, I.nameOk⟩

/-! loop.example/s01316/impl.fieldOk -/
def I.fieldOk.fa : Fm := (.cons (.agg (.cons (.sl 5 (.int .u8)) (.cons (.int .i64) (.cons (.int .i64) .nil)))) .nil)
def I.fieldOk.fr : Fm := .bool
abbrev I.fieldOk.A := ((List Int) × Int × Int × Unit) × Unit
abbrev I.fieldOk.R := Bool × ((Unit × Unit × Unit × Unit) × Unit)
def I.fieldOk.o : Orc := [(179, I.nameOk.spec)]
def I.fieldOk (x : I.fieldOk.A) : Option I.fieldOk.R :=
  (I.nameOk (x.1.1, ())).bind fun r1 =>
  bif !r1.1 then some (false, (((), (), (), ()), ())) else
  bif x.1.2.1 == 1 then
    bif (x.1.2.2.1 == 1) == false then
      bif (x.1.2.2.1 == 2) == false then
        bif (x.1.2.2.1 == 4) == false then some (x.1.2.2.1 == 8, (((), (), (), ()), ())) else
        some (true, (((), (), (), ()), ()))
      else
      some (true, (((), (), (), ()), ()))
    else
    some (true, (((), (), (), ()), ()))
  else
  bif x.1.2.1 == 0 then
    bif x.1.2.1 == 0 then some (x.1.2.2.1 == 0, (((), (), (), ()), ())) else
    some (false, (((), (), (), ()), ()))
  else
  bif x.1.2.1 == 2 then
    bif x.1.2.1 == 2 then some (x.1.2.2.1 == 0, (((), (), (), ()), ())) else
    some (false, (((), (), (), ()), ()))
  else
  bif x.1.2.1 == 3 then some (x.1.2.2.1 == 0, (((), (), (), ()), ())) else
  some (false, (((), (), (), ()), ()))

def I.fieldOk.spec : Spec := ⟨I.fieldOk.fa, I.fieldOk.fr, I.fieldOk⟩

/-! loop.example/s01316/impl.ValidDict -/
def I.ValidDict.fa : Fm := (.cons (.sl 22 (.sl 5 (.int .u8))) .nil)
def I.ValidDict.fr : Fm := .bool
abbrev I.ValidDict.A := (List (List Int)) × Unit
abbrev I.ValidDict.R := Bool × (Unit × Unit)
def I.ValidDict.o : Orc := []
def I.ValidDict.h5 : Fm := (.cons .mp (.cons (.int .i64) (.cons (.sl 22 (.sl 5 (.int .u8))) (.cons (.int .i64) (.cons (.int .i64) .nil)))))
def I.ValidDict.e5 : Fm := (.cons (.int .i64) .nil)
abbrev I.ValidDict.H5 := (List (ByteArray × Int)) × Int × (List (List Int)) × Int × Int × Unit
abbrev I.ValidDict.E5 := Int × Unit
def I.ValidDict.st5 (Rc : I.ValidDict.H5 → Option I.ValidDict.R) (X : Nat → I.ValidDict.E5 → Option I.ValidDict.R) (x : I.ValidDict.H5) : Option I.ValidDict.R :=
  bif decide (x.2.2.2.2.1 < x.2.2.2.1) then
    ck (decide (0 ≤ x.2.2.2.2.1) && decide (x.2.2.2.2.1 < (List.length x.2.2.1 : Int))) <|
    bif mhas (strOf (x.2.2.1.getD (Int.toNat x.2.2.2.2.1) [])) x.1 then some (false, ((), ())) else
    let v1 : List (ByteArray × Int) := mput (strOf (x.2.2.1.getD (Int.toNat x.2.2.2.2.1) [])) x.2.2.2.2.1 x.1
    let v2 : Int := wr .i64 (x.2.1 + (List.length (x.2.2.1.getD (Int.toNat x.2.2.2.2.1) []) : Int))
    Rc (v1, v2, x.2.2.1, x.2.2.2.1, (wr .i64 (x.2.2.2.2.1 + 1)), ())
  else
  X 0 (x.2.1, ())

def I.ValidDict.l5 (x : I.ValidDict.H5) (X : Nat → I.ValidDict.E5 → Option I.ValidDict.R) : Option I.ValidDict.R := rounds (I.ValidDict.st5) big X x
def I.ValidDict.lo5 : LoopO (DenF I.ValidDict.fr × DenB I.ValidDict.fa) := ⟨[3, 4, 13, 14, 15], I.ValidDict.h5, [4], I.ValidDict.e5, I.ValidDict.l5⟩
def I.ValidDict.p (l5 : I.ValidDict.H5 → (Nat → I.ValidDict.E5 → Option I.ValidDict.R) → Option I.ValidDict.R) (x : I.ValidDict.A) : Option I.ValidDict.R :=
  bif decide ((List.length x.1 : Int) > 40) then some (false, ((), ())) else
  l5 (([] : List (ByteArray × Int)), 0, x.1, (List.length x.1 : Int), 0, ()) (fun i5 y5 =>
    bif Nat.beq i5 0 then some (decide (y5.1 ≤ 4000), ((), ())) else
    none)

def I.ValidDict (x : I.ValidDict.A) : Option I.ValidDict.R := I.ValidDict.p I.ValidDict.l5 x
def I.ValidDict.spec : Spec := ⟨I.ValidDict.fa, I.ValidDict.fr, I.ValidDict⟩

/-! loop.example/s01316/impl.packed[int8] -/
def I.packed_int8.fa : Fm := (.cons (.sl 3 (.int .i64)) (.cons (.int .i64) .nil))
def I.packed_int8.fr : Fm := (.tup (.cons (.own 5 (.int .u8) true) (.cons (.int .i64) .nil)))
abbrev I.packed_int8.A := (List Int) × Int × Unit
abbrev I.packed_int8.R := ((List Int) × Int × Unit) × (Unit × Unit × Unit)
def I.packed_int8.o : Orc := []
def I.packed_int8.h9 : Fm := (.cons (.int .i64) (.cons (.own 5 (.int .u8) true) (.cons (.int .i64) (.cons (.sl 3 (.int .i64)) (.cons (.int .i64) (.cons (.int .i64) (.cons (.int .i64) (.cons (.int .i64) .nil))))))))
def I.packed_int8.e9 : Fm := (.cons (.int .i64) (.cons (.own 5 (.int .u8) true) (.cons (.sl 3 (.int .i64)) (.cons (.int .i64) (.cons (.int .i64) .nil)))))
abbrev I.packed_int8.H9 := Int × (List Int) × Int × (List Int) × Int × Int × Int × Int × Unit
abbrev I.packed_int8.E9 := Int × (List Int) × (List Int) × Int × Int × Unit
def I.packed_int8.st9 (Rc : I.packed_int8.H9 → Option I.packed_int8.R) (X : Nat → I.packed_int8.E9 → Option I.packed_int8.R) (x : I.packed_int8.H9) : Option I.packed_int8.R :=
  bif decide (x.2.2.2.2.2.2.2.1 < x.2.2.2.2.2.2.1) then
    ck (Nat.ble ((List.length x.2.1 + List.length [wr .u8 x.2.2.1]) * 1) 140737488355328) <|
    let v1 : Int := wr .i64 (x.2.2.2.2.2.2.2.1 + 1)
    Rc (x.1, (x.2.1 ++ [wr .u8 x.2.2.1]), (ishr .i64 x.2.2.1 8), x.2.2.2.1, x.2.2.2.2.1, x.2.2.2.2.2.1, x.2.2.2.2.2.2.1, v1, ())
  else
  X 2 (x.1, x.2.1, x.2.2.2.1, x.2.2.2.2.1, x.2.2.2.2.2.1, ())

def I.packed_int8.l9 (x : I.packed_int8.H9) (X : Nat → I.packed_int8.E9 → Option I.packed_int8.R) : Option I.packed_int8.R := rounds (I.packed_int8.st9) big X x
def I.packed_int8.lo9 : LoopO (DenF I.packed_int8.fr × DenB I.packed_int8.fa) := ⟨[1, 6, 8, 15, 16, 17, 27, 28], I.packed_int8.h9, [1, 6, 15, 16, 17], I.packed_int8.e9, I.packed_int8.l9⟩
def I.packed_int8.h3 : Fm := (.cons (.int .i64) (.cons (.own 5 (.int .u8) true) (.cons (.sl 3 (.int .i64)) (.cons (.int .i64) (.cons (.int .i64) .nil)))))
def I.packed_int8.e3 : Fm := (.cons (.own 5 (.int .u8) true) .nil)
abbrev I.packed_int8.H3 := Int × (List Int) × (List Int) × Int × Int × Unit
abbrev I.packed_int8.E3 := (List Int) × Unit
def I.packed_int8.st3 (l9 : I.packed_int8.H9 → (Nat → I.packed_int8.E9 → Option I.packed_int8.R) → Option I.packed_int8.R) (Rc : I.packed_int8.H3 → Option I.packed_int8.R) (X : Nat → I.packed_int8.E3 → Option I.packed_int8.R) (x : I.packed_int8.H3) : Option I.packed_int8.R :=
  bif decide (x.2.2.2.2.1 < x.2.2.2.1) then
    ck (decide (0 ≤ x.2.2.2.2.1) && decide (x.2.2.2.2.1 < (List.length x.2.2.1 : Int))) <|
    bif (wr .i64 (wr .i8 (x.2.2.1.getD (Int.toNat x.2.2.2.2.1) 0))) != (x.2.2.1.getD (Int.toNat x.2.2.2.2.1) 0) then some (([], 1, ()), ((), (), ())) else
    l9 (x.1, x.2.1, (x.2.2.1.getD (Int.toNat x.2.2.2.2.1) 0), x.2.2.1, x.2.2.2.1, x.2.2.2.2.1, x.1, 0, ()) (fun i9 y9 =>
      bif Nat.beq i9 2 then
        let v1 : Int := wr .i64 (y9.2.2.2.2.1 + 1)
        Rc (y9.1, y9.2.1, y9.2.2.1, y9.2.2.2.1, v1, ())
      else
      bif Nat.beq i9 1 then
        let v2 : Int := wr .i64 (y9.2.2.2.2.1 + 1)
        Rc (y9.1, y9.2.1, y9.2.2.1, y9.2.2.2.1, v2, ())
      else
      X i9 (y9.2.1, ()))
  else
  X 0 (x.2.1, ())

def I.packed_int8.l3 (x : I.packed_int8.H3) (X : Nat → I.packed_int8.E3 → Option I.packed_int8.R) : Option I.packed_int8.R := rounds (I.packed_int8.st3 I.packed_int8.l9) big X x
def I.packed_int8.lo3 : LoopO (DenF I.packed_int8.fr × DenB I.packed_int8.fa) := ⟨[1, 6, 15, 16, 17], I.packed_int8.h3, [6], I.packed_int8.e3, I.packed_int8.l3⟩
def I.packed_int8.p (l3 : I.packed_int8.H3 → (Nat → I.packed_int8.E3 → Option I.packed_int8.R) → Option I.packed_int8.R) (x : I.packed_int8.A) : Option I.packed_int8.R :=
  let v1 : Int := wr .i64 ((List.length x.1 : Int) * x.2.1)
  ck ((decide (0 ≤ (0 : Int)) && (decide ((0 : Int) ≤ v1) && decide (v1 * 1 ≤ 281474976710656))) && (Nat.blt 0 1 && Nat.blt 0 1)) <|
  l3 (x.2.1, (List.replicate (Int.toNat 0) 0 : List Int), x.1, (List.length x.1 : Int), 0, ()) (fun i3 y3 =>
    bif Nat.beq i3 0 then some ((y3.1, 0, ()), ((), (), ())) else
    none)

def I.packed_int8 (x : I.packed_int8.A) : Option I.packed_int8.R := I.packed_int8.p I.packed_int8.l3 x
def I.packed_int8.spec : Spec := ⟨I.packed_int8.fa, I.packed_int8.fr, I.packed_int8⟩

/-! loop.example/s01316/impl.packed[int16] -/
def I.packed_int16.fa : Fm := (.cons (.sl 3 (.int .i64)) (.cons (.int .i64) .nil))
def I.packed_int16.fr : Fm := (.tup (.cons (.own 5 (.int .u8) true) (.cons (.int .i64) .nil)))
abbrev I.packed_int16.A := (List Int) × Int × Unit
abbrev I.packed_int16.R := ((List Int) × Int × Unit) × (Unit × Unit × Unit)
def I.packed_int16.o : Orc := []
def I.packed_int16.h9 : Fm := (.cons (.int .i64) (.cons (.own 5 (.int .u8) true) (.cons (.int .i64) (.cons (.sl 3 (.int .i64)) (.cons (.int .i64) (.cons (.int .i64) (.cons (.int .i64) (.cons (.int .i64) .nil))))))))
def I.packed_int16.e9 : Fm := (.cons (.int .i64) (.cons (.own 5 (.int .u8) true) (.cons (.sl 3 (.int .i64)) (.cons (.int .i64) (.cons (.int .i64) .nil)))))
abbrev I.packed_int16.H9 := Int × (List Int) × Int × (List Int) × Int × Int × Int × Int × Unit
abbrev I.packed_int16.E9 := Int × (List Int) × (List Int) × Int × Int × Unit
def I.packed_int16.st9 (Rc : I.packed_int16.H9 → Option I.packed_int16.R) (X : Nat → I.packed_int16.E9 → Option I.packed_int16.R) (x : I.packed_int16.H9) : Option I.packed_int16.R :=
  bif decide (x.2.2.2.2.2.2.2.1 < x.2.2.2.2.2.2.1) then
    ck (Nat.ble ((List.length x.2.1 + List.length [wr .u8 x.2.2.1]) * 1) 140737488355328) <|
    let v1 : Int := wr .i64 (x.2.2.2.2.2.2.2.1 + 1)
    Rc (x.1, (x.2.1 ++ [wr .u8 x.2.2.1]), (ishr .i64 x.2.2.1 8), x.2.2.2.1, x.2.2.2.2.1, x.2.2.2.2.2.1, x.2.2.2.2.2.2.1, v1, ())
  else
  X 2 (x.1, x.2.1, x.2.2.2.1, x.2.2.2.2.1, x.2.2.2.2.2.1, ())

def I.packed_int16.l9 (x : I.packed_int16.H9) (X : Nat → I.packed_int16.E9 → Option I.packed_int16.R) : Option I.packed_int16.R := rounds (I.packed_int16.st9) big X x
def I.packed_int16.lo9 : LoopO (DenF I.packed_int16.fr × DenB I.packed_int16.fa) := ⟨[1, 6, 8, 15, 16, 17, 27, 28], I.packed_int16.h9, [1, 6, 15, 16, 17], I.packed_int16.e9, I.packed_int16.l9⟩
def I.packed_int16.h3 : Fm := (.cons (.int .i64) (.cons (.own 5 (.int .u8) true) (.cons (.sl 3 (.int .i64)) (.cons (.int .i64) (.cons (.int .i64) .nil)))))
def I.packed_int16.e3 : Fm := (.cons (.own 5 (.int .u8) true) .nil)
abbrev I.packed_int16.H3 := Int × (List Int) × (List Int) × Int × Int × Unit
abbrev I.packed_int16.E3 := (List Int) × Unit
def I.packed_int16.st3 (l9 : I.packed_int16.H9 → (Nat → I.packed_int16.E9 → Option I.packed_int16.R) → Option I.packed_int16.R) (Rc : I.packed_int16.H3 → Option I.packed_int16.R) (X : Nat → I.packed_int16.E3 → Option I.packed_int16.R) (x : I.packed_int16.H3) : Option I.packed_int16.R :=
  bif decide (x.2.2.2.2.1 < x.2.2.2.1) then
    ck (decide (0 ≤ x.2.2.2.2.1) && decide (x.2.2.2.2.1 < (List.length x.2.2.1 : Int))) <|
    bif (wr .i64 (wr .i16 (x.2.2.1.getD (Int.toNat x.2.2.2.2.1) 0))) != (x.2.2.1.getD (Int.toNat x.2.2.2.2.1) 0) then some (([], 1, ()), ((), (), ())) else
    l9 (x.1, x.2.1, (x.2.2.1.getD (Int.toNat x.2.2.2.2.1) 0), x.2.2.1, x.2.2.2.1, x.2.2.2.2.1, x.1, 0, ()) (fun i9 y9 =>
      bif Nat.beq i9 2 then
        let v1 : Int := wr .i64 (y9.2.2.2.2.1 + 1)
        Rc (y9.1, y9.2.1, y9.2.2.1, y9.2.2.2.1, v1, ())
      else
      bif Nat.beq i9 1 then
        let v2 : Int := wr .i64 (y9.2.2.2.2.1 + 1)
        Rc (y9.1, y9.2.1, y9.2.2.1, y9.2.2.2.1, v2, ())
      else
      X i9 (y9.2.1, ()))
  else
  X 0 (x.2.1, ())

def I.packed_int16.l3 (x : I.packed_int16.H3) (X : Nat → I.packed_int16.E3 → Option I.packed_int16.R) : Option I.packed_int16.R := rounds (I.packed_int16.st3 I.packed_int16.l9) big X x
def I.packed_int16.lo3 : LoopO (DenF I.packed_int16.fr × DenB I.packed_int16.fa) := ⟨[1, 6, 15, 16, 17], I.packed_int16.h3, [6], I.packed_int16.e3, I.packed_int16.l3⟩
def I.packed_int16.p (l3 : I.packed_int16.H3 → (Nat → I.packed_int16.E3 → Option I.packed_int16.R) → Option I.packed_int16.R) (x : I.packed_int16.A) : Option I.packed_int16.R :=
  let v1 : Int := wr .i64 ((List.length x.1 : Int) * x.2.1)
  ck ((decide (0 ≤ (0 : Int)) && (decide ((0 : Int) ≤ v1) && decide (v1 * 1 ≤ 281474976710656))) && (Nat.blt 0 1 && Nat.blt 0 1)) <|
  l3 (x.2.1, (List.replicate (Int.toNat 0) 0 : List Int), x.1, (List.length x.1 : Int), 0, ()) (fun i3 y3 =>
    bif Nat.beq i3 0 then some ((y3.1, 0, ()), ((), (), ())) else
    none)

def I.packed_int16 (x : I.packed_int16.A) : Option I.packed_int16.R := I.packed_int16.p I.packed_int16.l3 x
def I.packed_int16.spec : Spec := ⟨I.packed_int16.fa, I.packed_int16.fr, I.packed_int16⟩

/-! loop.example/s01316/impl.packed[int32] -/
def I.packed_int32.fa : Fm := (.cons (.sl 3 (.int .i64)) (.cons (.int .i64) .nil))
def I.packed_int32.fr : Fm := (.tup (.cons (.own 5 (.int .u8) true) (.cons (.int .i64) .nil)))
abbrev I.packed_int32.A := (List Int) × Int × Unit
abbrev I.packed_int32.R := ((List Int) × Int × Unit) × (Unit × Unit × Unit)
def I.packed_int32.o : Orc := []
def I.packed_int32.h9 : Fm := (.cons (.int .i64) (.cons (.own 5 (.int .u8) true) (.cons (.int .i64) (.cons (.sl 3 (.int .i64)) (.cons (.int .i64) (.cons (.int .i64) (.cons (.int .i64) (.cons (.int .i64) .nil))))))))
def I.packed_int32.e9 : Fm := (.cons (.int .i64) (.cons (.own 5 (.int .u8) true) (.cons (.sl 3 (.int .i64)) (.cons (.int .i64) (.cons (.int .i64) .nil)))))
abbrev I.packed_int32.H9 := Int × (List Int) × Int × (List Int) × Int × Int × Int × Int × Unit
abbrev I.packed_int32.E9 := Int × (List Int) × (List Int) × Int × Int × Unit
def I.packed_int32.st9 (Rc : I.packed_int32.H9 → Option I.packed_int32.R) (X : Nat → I.packed_int32.E9 → Option I.packed_int32.R) (x : I.packed_int32.H9) : Option I.packed_int32.R :=
  bif decide (x.2.2.2.2.2.2.2.1 < x.2.2.2.2.2.2.1) then
    ck (Nat.ble ((List.length x.2.1 + List.length [wr .u8 x.2.2.1]) * 1) 140737488355328) <|
    let v1 : Int := wr .i64 (x.2.2.2.2.2.2.2.1 + 1)
    Rc (x.1, (x.2.1 ++ [wr .u8 x.2.2.1]), (ishr .i64 x.2.2.1 8), x.2.2.2.1, x.2.2.2.2.1, x.2.2.2.2.2.1, x.2.2.2.2.2.2.1, v1, ())
  else
  X 2 (x.1, x.2.1, x.2.2.2.1, x.2.2.2.2.1, x.2.2.2.2.2.1, ())

def I.packed_int32.l9 (x : I.packed_int32.H9) (X : Nat → I.packed_int32.E9 → Option I.packed_int32.R) : Option I.packed_int32.R := rounds (I.packed_int32.st9) big X x
def I.packed_int32.lo9 : LoopO (DenF I.packed_int32.fr × DenB I.packed_int32.fa) := ⟨[1, 6, 8, 15, 16, 17, 27, 28], I.packed_int32.h9, [1, 6, 15, 16, 17], I.packed_int32.e9, I.packed_int32.l9⟩
def I.packed_int32.h3 : Fm := (.cons (.int .i64) (.cons (.own 5 (.int .u8) true) (.cons (.sl 3 (.int .i64)) (.cons (.int .i64) (.cons (.int .i64) .nil)))))
def I.packed_int32.e3 : Fm := (.cons (.own 5 (.int .u8) true) .nil)
abbrev I.packed_int32.H3 := Int × (List Int) × (List Int) × Int × Int × Unit
abbrev I.packed_int32.E3 := (List Int) × Unit
def I.packed_int32.st3 (l9 : I.packed_int32.H9 → (Nat → I.packed_int32.E9 → Option I.packed_int32.R) → Option I.packed_int32.R) (Rc : I.packed_int32.H3 → Option I.packed_int32.R) (X : Nat → I.packed_int32.E3 → Option I.packed_int32.R) (x : I.packed_int32.H3) : Option I.packed_int32.R :=
  bif decide (x.2.2.2.2.1 < x.2.2.2.1) then
    ck (decide (0 ≤ x.2.2.2.2.1) && decide (x.2.2.2.2.1 < (List.length x.2.2.1 : Int))) <|
    bif (wr .i64 (wr .i32 (x.2.2.1.getD (Int.toNat x.2.2.2.2.1) 0))) != (x.2.2.1.getD (Int.toNat x.2.2.2.2.1) 0) then some (([], 1, ()), ((), (), ())) else
    l9 (x.1, x.2.1, (x.2.2.1.getD (Int.toNat x.2.2.2.2.1) 0), x.2.2.1, x.2.2.2.1, x.2.2.2.2.1, x.1, 0, ()) (fun i9 y9 =>
      bif Nat.beq i9 2 then
        let v1 : Int := wr .i64 (y9.2.2.2.2.1 + 1)
        Rc (y9.1, y9.2.1, y9.2.2.1, y9.2.2.2.1, v1, ())
      else
      bif Nat.beq i9 1 then
        let v2 : Int := wr .i64 (y9.2.2.2.2.1 + 1)
        Rc (y9.1, y9.2.1, y9.2.2.1, y9.2.2.2.1, v2, ())
      else
      X i9 (y9.2.1, ()))
  else
  X 0 (x.2.1, ())

def I.packed_int32.l3 (x : I.packed_int32.H3) (X : Nat → I.packed_int32.E3 → Option I.packed_int32.R) : Option I.packed_int32.R := rounds (I.packed_int32.st3 I.packed_int32.l9) big X x
def I.packed_int32.lo3 : LoopO (DenF I.packed_int32.fr × DenB I.packed_int32.fa) := ⟨[1, 6, 15, 16, 17], I.packed_int32.h3, [6], I.packed_int32.e3, I.packed_int32.l3⟩
def I.packed_int32.p (l3 : I.packed_int32.H3 → (Nat → I.packed_int32.E3 → Option I.packed_int32.R) → Option I.packed_int32.R) (x : I.packed_int32.A) : Option I.packed_int32.R :=
  let v1 : Int := wr .i64 ((List.length x.1 : Int) * x.2.1)
  ck ((decide (0 ≤ (0 : Int)) && (decide ((0 : Int) ≤ v1) && decide (v1 * 1 ≤ 281474976710656))) && (Nat.blt 0 1 && Nat.blt 0 1)) <|
  l3 (x.2.1, (List.replicate (Int.toNat 0) 0 : List Int), x.1, (List.length x.1 : Int), 0, ()) (fun i3 y3 =>
    bif Nat.beq i3 0 then some ((y3.1, 0, ()), ((), (), ())) else
    none)

def I.packed_int32 (x : I.packed_int32.A) : Option I.packed_int32.R := I.packed_int32.p I.packed_int32.l3 x
def I.packed_int32.spec : Spec := ⟨I.packed_int32.fa, I.packed_int32.fr, I.packed_int32⟩

/-! loop.example/s01316/impl.packed[int64] -/
def I.packed_int64.fa : Fm := (.cons (.sl 3 (.int .i64)) (.cons (.int .i64) .nil))
def I.packed_int64.fr : Fm := (.tup (.cons (.own 5 (.int .u8) true) (.cons (.int .i64) .nil)))
abbrev I.packed_int64.A := (List Int) × Int × Unit
abbrev I.packed_int64.R := ((List Int) × Int × Unit) × (Unit × Unit × Unit)
def I.packed_int64.o : Orc := []
def I.packed_int64.h9 : Fm := (.cons (.int .i64) (.cons (.own 5 (.int .u8) true) (.cons (.int .i64) (.cons (.sl 3 (.int .i64)) (.cons (.int .i64) (.cons (.int .i64) (.cons (.int .i64) (.cons (.int .i64) .nil))))))))
def I.packed_int64.e9 : Fm := (.cons (.int .i64) (.cons (.own 5 (.int .u8) true) (.cons (.sl 3 (.int .i64)) (.cons (.int .i64) (.cons (.int .i64) .nil)))))
abbrev I.packed_int64.H9 := Int × (List Int) × Int × (List Int) × Int × Int × Int × Int × Unit
abbrev I.packed_int64.E9 := Int × (List Int) × (List Int) × Int × Int × Unit
def I.packed_int64.st9 (Rc : I.packed_int64.H9 → Option I.packed_int64.R) (X : Nat → I.packed_int64.E9 → Option I.packed_int64.R) (x : I.packed_int64.H9) : Option I.packed_int64.R :=
  bif decide (x.2.2.2.2.2.2.2.1 < x.2.2.2.2.2.2.1) then
    ck (Nat.ble ((List.length x.2.1 + List.length [wr .u8 x.2.2.1]) * 1) 140737488355328) <|
    let v1 : Int := wr .i64 (x.2.2.2.2.2.2.2.1 + 1)
    Rc (x.1, (x.2.1 ++ [wr .u8 x.2.2.1]), (ishr .i64 x.2.2.1 8), x.2.2.2.1, x.2.2.2.2.1, x.2.2.2.2.2.1, x.2.2.2.2.2.2.1, v1, ())
  else
  X 2 (x.1, x.2.1, x.2.2.2.1, x.2.2.2.2.1, x.2.2.2.2.2.1, ())

def I.packed_int64.l9 (x : I.packed_int64.H9) (X : Nat → I.packed_int64.E9 → Option I.packed_int64.R) : Option I.packed_int64.R := rounds (I.packed_int64.st9) big X x
def I.packed_int64.lo9 : LoopO (DenF I.packed_int64.fr × DenB I.packed_int64.fa) := ⟨[1, 6, 8, 15, 16, 17, 25, 26], I.packed_int64.h9, [1, 6, 15, 16, 17], I.packed_int64.e9, I.packed_int64.l9⟩
def I.packed_int64.h3 : Fm := (.cons (.int .i64) (.cons (.own 5 (.int .u8) true) (.cons (.sl 3 (.int .i64)) (.cons (.int .i64) (.cons (.int .i64) .nil)))))
def I.packed_int64.e3 : Fm := (.cons (.own 5 (.int .u8) true) .nil)
abbrev I.packed_int64.H3 := Int × (List Int) × (List Int) × Int × Int × Unit
abbrev I.packed_int64.E3 := (List Int) × Unit
def I.packed_int64.st3 (l9 : I.packed_int64.H9 → (Nat → I.packed_int64.E9 → Option I.packed_int64.R) → Option I.packed_int64.R) (Rc : I.packed_int64.H3 → Option I.packed_int64.R) (X : Nat → I.packed_int64.E3 → Option I.packed_int64.R) (x : I.packed_int64.H3) : Option I.packed_int64.R :=
  bif decide (x.2.2.2.2.1 < x.2.2.2.1) then
    ck (decide (0 ≤ x.2.2.2.2.1) && decide (x.2.2.2.2.1 < (List.length x.2.2.1 : Int))) <|
    bif (x.2.2.1.getD (Int.toNat x.2.2.2.2.1) 0) != (x.2.2.1.getD (Int.toNat x.2.2.2.2.1) 0) then some (([], 1, ()), ((), (), ())) else
    l9 (x.1, x.2.1, (x.2.2.1.getD (Int.toNat x.2.2.2.2.1) 0), x.2.2.1, x.2.2.2.1, x.2.2.2.2.1, x.1, 0, ()) (fun i9 y9 =>
      bif Nat.beq i9 2 then
        let v1 : Int := wr .i64 (y9.2.2.2.2.1 + 1)
        Rc (y9.1, y9.2.1, y9.2.2.1, y9.2.2.2.1, v1, ())
      else
      bif Nat.beq i9 1 then
        let v2 : Int := wr .i64 (y9.2.2.2.2.1 + 1)
        Rc (y9.1, y9.2.1, y9.2.2.1, y9.2.2.2.1, v2, ())
      else
      X i9 (y9.2.1, ()))
  else
  X 0 (x.2.1, ())

def I.packed_int64.l3 (x : I.packed_int64.H3) (X : Nat → I.packed_int64.E3 → Option I.packed_int64.R) : Option I.packed_int64.R := rounds (I.packed_int64.st3 I.packed_int64.l9) big X x
def I.packed_int64.lo3 : LoopO (DenF I.packed_int64.fr × DenB I.packed_int64.fa) := ⟨[1, 6, 15, 16, 17], I.packed_int64.h3, [6], I.packed_int64.e3, I.packed_int64.l3⟩
def I.packed_int64.p (l3 : I.packed_int64.H3 → (Nat → I.packed_int64.E3 → Option I.packed_int64.R) → Option I.packed_int64.R) (x : I.packed_int64.A) : Option I.packed_int64.R :=
  let v1 : Int := wr .i64 ((List.length x.1 : Int) * x.2.1)
  ck ((decide (0 ≤ (0 : Int)) && (decide ((0 : Int) ≤ v1) && decide (v1 * 1 ≤ 281474976710656))) && (Nat.blt 0 1 && Nat.blt 0 1)) <|
  l3 (x.2.1, (List.replicate (Int.toNat 0) 0 : List Int), x.1, (List.length x.1 : Int), 0, ()) (fun i3 y3 =>
    bif Nat.beq i3 0 then some ((y3.1, 0, ()), ((), (), ())) else
    none)

def I.packed_int64 (x : I.packed_int64.A) : Option I.packed_int64.R := I.packed_int64.p I.packed_int64.l3 x
def I.packed_int64.spec : Spec := ⟨I.packed_int64.fa, I.packed_int64.fr, I.packed_int64⟩

/-! loop.example/s01316/impl.PackInts -/
def I.PackInts.fa : Fm := (.cons (.sl 3 (.int .i64)) (.cons (.int .i64) .nil))
def I.PackInts.fr : Fm := (.tup (.cons (.own 5 (.int .u8) true) (.cons (.int .i64) .nil)))
abbrev I.PackInts.A := (List Int) × Int × Unit
abbrev I.PackInts.R := ((List Int) × Int × Unit) × (Unit × Unit × Unit)
def I.PackInts.o : Orc := [(219, I.packed_int8.spec), (220, I.packed_int16.spec), (221, I.packed_int32.spec), (222, I.packed_int64.spec)]
def I.PackInts (x : I.PackInts.A) : Option I.PackInts.R :=
  bif x.2.1 == 1 then
    (I.packed_int8 (x.1, 1, ())).bind fun r1 =>
    some ((r1.1.1, r1.1.2.1, ()), ((), (), ()))
  else
  bif x.2.1 == 2 then
    (I.packed_int16 (x.1, 2, ())).bind fun r2 =>
    some ((r2.1.1, r2.1.2.1, ()), ((), (), ()))
  else
  bif x.2.1 == 4 then
    (I.packed_int32 (x.1, 4, ())).bind fun r3 =>
    some ((r3.1.1, r3.1.2.1, ()), ((), (), ()))
  else
  bif x.2.1 == 8 then
    (I.packed_int64 (x.1, 8, ())).bind fun r4 =>
    some ((r4.1.1, r4.1.2.1, ()), ((), (), ()))
  else
  some (([], 1, ()), ((), (), ()))

def I.PackInts.spec : Spec := ⟨I.PackInts.fa, I.PackInts.fr, I.PackInts⟩

/-! loop.example/s01316/impl.cellOk -/
def I.cellOk.fa : Fm := (.cons (.agg (.cons (.sl 5 (.int .u8)) (.cons (.int .i64) (.cons (.int .i64) .nil)))) (.cons (.agg (.cons .bool (.cons (.int .i64) (.cons (.sl 5 (.int .u8)) .nil)))) .nil))
def I.cellOk.fr : Fm := .bool
abbrev I.cellOk.A := ((List Int) × Int × Int × Unit) × (Bool × Int × (List Int) × Unit) × Unit
abbrev I.cellOk.R := Bool × ((Unit × Unit × Unit × Unit) × (Unit × Unit × Unit × Unit) × Unit)
def I.cellOk.o : Orc := [(180, I.PackInts.spec)]
def I.cellOk (x : I.cellOk.A) : Option I.cellOk.R :=
  bif x.2.1.1 then
    bif (x.2.1.2.1 == 0) == true then
      some ((List.length x.2.1.2.2.1 : Int) == 0, (((), (), (), ()), ((), (), (), ()), ()))
    else
    some (false, (((), (), (), ()), ((), (), (), ()), ()))
  else
  bif x.1.2.1 == 0 then
    bif (x.2.1.2.1 == 0) == false then
      bif (x.2.1.2.1 == 1) == true then
        some ((List.length x.2.1.2.2.1 : Int) == 0, (((), (), (), ()), ((), (), (), ()), ()))
      else
      some (false, (((), (), (), ()), ((), (), (), ()), ()))
    else
    some ((List.length x.2.1.2.2.1 : Int) == 0, (((), (), (), ()), ((), (), (), ()), ()))
  else
  bif x.1.2.1 == 1 then
    (I.PackInts ([x.2.1.2.1], x.1.2.2.1, ())).bind fun r1 =>
    bif (r1.1.2.1 == 0) == true then
      some ((List.length x.2.1.2.2.1 : Int) == 0, (((), (), (), ()), ((), (), (), ()), ()))
    else
    some (false, (((), (), (), ()), ((), (), (), ()), ()))
  else
  some (x.2.1.2.1 == 0, (((), (), (), ()), ((), (), (), ()), ()))

def I.cellOk.spec : Spec := ⟨I.cellOk.fa, I.cellOk.fr, I.cellOk⟩

/-! slices.Index[[]bool,bool] -/
def B.slices_Index_bool.fa : Fm := (.cons (.sl 4 .bool) (.cons .bool .nil))
def B.slices_Index_bool.fr : Fm := (.int .i64)
abbrev B.slices_Index_bool.A := (List Bool) × Bool × Unit
abbrev B.slices_Index_bool.R := Int × (Unit × Unit × Unit)
def B.slices_Index_bool.o : Orc := []
def B.slices_Index_bool.h2 : Fm := (.cons (.sl 4 .bool) (.cons .bool (.cons (.int .i64) (.cons (.int .i64) .nil))))
def B.slices_Index_bool.e2 : Fm := .nil
abbrev B.slices_Index_bool.H2 := (List Bool) × Bool × Int × Int × Unit
abbrev B.slices_Index_bool.E2 := Unit
def B.slices_Index_bool.st2 (Rc : B.slices_Index_bool.H2 → Option B.slices_Index_bool.R) (X : Nat → B.slices_Index_bool.E2 → Option B.slices_Index_bool.R) (x : B.slices_Index_bool.H2) : Option B.slices_Index_bool.R :=
  bif decide (x.2.2.2.1 < x.2.2.1) then
    ck (decide (0 ≤ x.2.2.2.1) && decide (x.2.2.2.1 < (List.length x.1 : Int))) <|
    bif x.2.1 == (x.1.getD (Int.toNat x.2.2.2.1) false) then some (x.2.2.2.1, ((), (), ())) else
    Rc (x.1, x.2.1, x.2.2.1, (wr .i64 (x.2.2.2.1 + 1)), ())
  else
  X 0 ()

def B.slices_Index_bool.l2 (x : B.slices_Index_bool.H2) (X : Nat → B.slices_Index_bool.E2 → Option B.slices_Index_bool.R) : Option B.slices_Index_bool.R := rounds (B.slices_Index_bool.st2) big X x
def B.slices_Index_bool.lo2 : LoopO (DenF B.slices_Index_bool.fr × DenB B.slices_Index_bool.fa) := ⟨[0, 1, 7, 8], B.slices_Index_bool.h2, [], B.slices_Index_bool.e2, B.slices_Index_bool.l2⟩
def B.slices_Index_bool.p (l2 : B.slices_Index_bool.H2 → (Nat → B.slices_Index_bool.E2 → Option B.slices_Index_bool.R) → Option B.slices_Index_bool.R) (x : B.slices_Index_bool.A) : Option B.slices_Index_bool.R :=
  l2 (x.1, x.2.1, (List.length x.1 : Int), 0, ()) (fun i2 y2 =>
    bif Nat.beq i2 0 then some (-1, ((), (), ())) else
    none)

def B.slices_Index_bool (x : B.slices_Index_bool.A) : Option B.slices_Index_bool.R := B.slices_Index_bool.p B.slices_Index_bool.l2 x
def B.slices_Index_bool.spec : Spec := ⟨B.slices_Index_bool.fa, B.slices_Index_bool.fr, B.slices_Index_bool⟩

/-! slices.Contains[[]bool,bool] -/
def B.slices_Contains_bool.fa : Fm := (.cons (.sl 4 .bool) (.cons .bool .nil))
def B.slices_Contains_bool.fr : Fm := .bool
abbrev B.slices_Contains_bool.A := (List Bool) × Bool × Unit
abbrev B.slices_Contains_bool.R := Bool × (Unit × Unit × Unit)
def B.slices_Contains_bool.o : Orc := [(181, B.slices_Index_bool.spec)]
def B.slices_Contains_bool (x : B.slices_Contains_bool.A) : Option B.slices_Contains_bool.R :=
  (B.slices_Index_bool (x.1, x.2.1, ())).bind fun r1 =>
  some (decide (r1.1 ≥ 0), ((), (), ()))

def B.slices_Contains_bool.spec : Spec := ⟨B.slices_Contains_bool.fa, B.slices_Contains_bool.fr, B.slices_Contains_bool⟩

/-! loop.example/s01316/impl.PackBits -/
def I.PackBits.fa : Fm := (.cons (.sl 4 .bool) .nil)
def I.PackBits.fr : Fm := (.own 5 (.int .u8) true)
abbrev I.PackBits.A := (List Bool) × Unit
abbrev I.PackBits.R := (List Int) × (Unit × Unit)
def I.PackBits.o : Orc := []
def I.PackBits.h3 : Fm := (.cons (.own 5 (.int .u8) true) (.cons (.sl 4 .bool) (.cons (.int .i64) (.cons (.int .i64) .nil))))
def I.PackBits.e3 : Fm := (.cons (.own 5 (.int .u8) true) .nil)
abbrev I.PackBits.H3 := (List Int) × (List Bool) × Int × Int × Unit
abbrev I.PackBits.E3 := (List Int) × Unit
def I.PackBits.st3 (Rc : I.PackBits.H3 → Option I.PackBits.R) (X : Nat → I.PackBits.E3 → Option I.PackBits.R) (x : I.PackBits.H3) : Option I.PackBits.R :=
  bif decide (x.2.2.2.1 < x.2.2.1) then
    ck (decide (0 ≤ x.2.2.2.1) && decide (x.2.2.2.1 < (List.length x.2.1 : Int))) <|
    bif x.2.1.getD (Int.toNat x.2.2.2.1) false then
      let v1 : Int := wr .i64 (Int.tdiv x.2.2.2.1 8)
      ck (decide (0 ≤ v1) && decide (v1 < (List.length x.1 : Int))) <|
      ck (decide (0 ≤ (Int.tmod x.2.2.2.1 8))) <|
      let v2 : Int := ishl .u8 (1 : Int) (Int.tmod x.2.2.2.1 8)
      let v3 : Int := ior .u8 (x.1.getD (Int.toNat v1) 0) v2
      ck (decide (0 ≤ v1) && decide (v1 < (List.length x.1 : Int))) <|
      Rc ((x.1.set (Int.toNat v1) v3), x.2.1, x.2.2.1, (wr .i64 (x.2.2.2.1 + 1)), ())
    else
    Rc (x.1, x.2.1, x.2.2.1, (wr .i64 (x.2.2.2.1 + 1)), ())
  else
  X 0 (x.1, ())

def I.PackBits.l3 (x : I.PackBits.H3) (X : Nat → I.PackBits.E3 → Option I.PackBits.R) : Option I.PackBits.R := rounds (I.PackBits.st3) big X x
def I.PackBits.lo3 : LoopO (DenF I.PackBits.fr × DenB I.PackBits.fa) := ⟨[3, 11, 12, 13], I.PackBits.h3, [3], I.PackBits.e3, I.PackBits.l3⟩
def I.PackBits.p (l3 : I.PackBits.H3 → (Nat → I.PackBits.E3 → Option I.PackBits.R) → Option I.PackBits.R) (x : I.PackBits.A) : Option I.PackBits.R :=
  let v1 : Int := wr .i64 ((List.length x.1 : Int) + 7)
  ck ((decide (0 ≤ (wr .i64 (Int.tdiv v1 8))) && (decide ((wr .i64 (Int.tdiv v1 8)) ≤ (wr .i64 (Int.tdiv v1 8))) && decide ((wr .i64 (Int.tdiv v1 8)) * 1 ≤ 281474976710656))) && (Nat.blt 0 1 && Nat.blt 0 1)) <|
  l3 ((List.replicate (Int.toNat (wr .i64 (Int.tdiv v1 8))) 0 : List Int), x.1, (List.length x.1 : Int), 0, ()) (fun i3 y3 =>
    bif Nat.beq i3 0 then some (y3.1, ((), ())) else
    none)

def I.PackBits (x : I.PackBits.A) : Option I.PackBits.R := I.PackBits.p I.PackBits.l3 x
def I.PackBits.spec : Spec := ⟨I.PackBits.fa, I.PackBits.fr, I.PackBits⟩

/-! loop.example/s01316/impl.builderOf -/
def I.builderOf.fa : Fm := (.cons (.agg (.cons (.sl 5 (.int .u8)) (.cons (.int .i64) (.cons (.int .i64) .nil)))) (.cons (.sl 22 (.sl 5 (.int .u8))) .nil))
def I.builderOf.fr : Fm := (.alt (.ifc 229 .nil) (.alt (.ifc 231 (.cons (.int .i64) .nil)) (.alt (.ifc 234 .nil) (.ifc 236 (.cons (.sl 22 (.sl 5 (.int .u8))) .nil)))))
abbrev I.builderOf.A := ((List Int) × Int × Int × Unit) × (List (List Int)) × Unit
abbrev I.builderOf.R := (Unit ⊕ ((Int × Unit) ⊕ (Unit ⊕ ((List (List Int)) × Unit)))) × ((Unit × Unit × Unit × Unit) × Unit × Unit)
def I.builderOf.o : Orc := []
def I.builderOf (x : I.builderOf.A) : Option I.builderOf.R :=
  bif x.1.2.1 == 0 then some (.inl (), (((), (), (), ()), (), ())) else
  bif x.1.2.1 == 1 then
    some (.inr (.inl (x.1.2.2.1, ())), (((), (), (), ()), (), ()))
  else
  bif x.1.2.1 == 2 then some (.inr (.inr (.inl ())), (((), (), (), ()), (), ())) else
  some (.inr (.inr (.inr (x.2.1, ()))), (((), (), (), ()), (), ()))

def I.builderOf.spec : Spec := ⟨I.builderOf.fa, I.builderOf.fr, I.builderOf⟩

/-! (loop.example/s01316/impl.bools).build -/
def I.bools_build.fa : Fm := (.cons (.agg .nil) (.cons (.sl 137 c131) .nil))
def I.bools_build.fr : Fm := (.tup (.cons (.own 22 (.sl 5 (.int .u8)) true) (.cons (.int .i64) .nil)))
abbrev I.bools_build.A := Unit × (List DCell) × Unit
abbrev I.bools_build.R := ((List (List Int)) × Int × Unit) × (Unit × Unit × Unit)
def I.bools_build.o : Orc := [(89, I.PackBits.spec)]
def I.bools_build.h3 : Fm := (.cons (.own 4 .bool true) (.cons (.sl 137 c131) (.cons (.int .i64) (.cons (.int .i64) .nil))))
def I.bools_build.e3 : Fm := (.cons (.own 4 .bool true) .nil)
abbrev I.bools_build.H3 := (List Bool) × (List DCell) × Int × Int × Unit
abbrev I.bools_build.E3 := (List Bool) × Unit
def I.bools_build.st3 (Rc : I.bools_build.H3 → Option I.bools_build.R) (X : Nat → I.bools_build.E3 → Option I.bools_build.R) (x : I.bools_build.H3) : Option I.bools_build.R :=
  bif decide (x.2.2.2.1 < x.2.2.1) then
    ck (decide (0 ≤ x.2.2.2.1) && decide (x.2.2.2.1 < (List.length x.2.1 : Int))) <|
    ck (Nat.ble ((List.length x.1 + List.length [(x.2.1.getD (Int.toNat x.2.2.2.1) zCell).2.1 == 1]) * 1) 140737488355328) <|
    let v1 : List Bool := x.1 ++ [(x.2.1.getD (Int.toNat x.2.2.2.1) zCell).2.1 == 1]
    Rc (v1, x.2.1, x.2.2.1, (wr .i64 (x.2.2.2.1 + 1)), ())
  else
  X 0 (x.1, ())

def I.bools_build.l3 (x : I.bools_build.H3) (X : Nat → I.bools_build.E3 → Option I.bools_build.R) : Option I.bools_build.R := rounds (I.bools_build.st3) big X x
def I.bools_build.lo3 : LoopO (DenF I.bools_build.fr × DenB I.bools_build.fa) := ⟨[6, 10, 11, 12], I.bools_build.h3, [6], I.bools_build.e3, I.bools_build.l3⟩
def I.bools_build.p (l3 : I.bools_build.H3 → (Nat → I.bools_build.E3 → Option I.bools_build.R) → Option I.bools_build.R) (x : I.bools_build.A) : Option I.bools_build.R :=
  l3 (([] : List Bool), x.2.1, (List.length x.2.1 : Int), 0, ()) (fun i3 y3 =>
    bif Nat.beq i3 0 then
      (I.PackBits (y3.1, ())).bind fun r1 =>
      some (([r1.1], 0, ()), ((()), (), ()))
    else
    none)

def I.bools_build (x : I.bools_build.A) : Option I.bools_build.R := I.bools_build.p I.bools_build.l3 x
def I.bools_build.spec : Spec := ⟨I.bools_build.fa, I.bools_build.fr, I.bools_build⟩

/-! (loop.example/s01316/impl.numbers).build -/
def I.numbers_build.fa : Fm := (.cons (.agg (.cons (.int .i64) .nil)) (.cons (.sl 137 c131) .nil))
def I.numbers_build.fr : Fm := (.tup (.cons (.own 22 (.sl 5 (.int .u8)) true) (.cons (.int .i64) .nil)))
abbrev I.numbers_build.A := (Int × Unit) × (List DCell) × Unit
abbrev I.numbers_build.R := ((List (List Int)) × Int × Unit) × ((Unit × Unit) × Unit × Unit)
def I.numbers_build.o : Orc := [(180, I.PackInts.spec)]
def I.numbers_build.h3 : Fm := (.cons (.box (.cons (.int .i64) .nil)) (.cons (.own 3 (.int .i64) true) (.cons (.sl 137 c131) (.cons (.int .i64) (.cons (.int .i64) .nil)))))
def I.numbers_build.e3 : Fm := (.cons (.box (.cons (.int .i64) .nil)) (.cons (.own 3 (.int .i64) true) .nil))
abbrev I.numbers_build.H3 := (Int × Unit) × (List Int) × (List DCell) × Int × Int × Unit
abbrev I.numbers_build.E3 := (Int × Unit) × (List Int) × Unit
def I.numbers_build.st3 (Rc : I.numbers_build.H3 → Option I.numbers_build.R) (X : Nat → I.numbers_build.E3 → Option I.numbers_build.R) (x : I.numbers_build.H3) : Option I.numbers_build.R :=
  bif decide (x.2.2.2.2.1 < x.2.2.2.1) then
    ck (decide (0 ≤ x.2.2.2.2.1) && decide (x.2.2.2.2.1 < (List.length x.2.2.1 : Int))) <|
    ck (Nat.ble ((List.length x.2.1 + List.length [(x.2.2.1.getD (Int.toNat x.2.2.2.2.1) zCell).2.1]) * 8) 140737488355328) <|
    let v1 : List Int := x.2.1 ++ [(x.2.2.1.getD (Int.toNat x.2.2.2.2.1) zCell).2.1]
    Rc ((x.1.1, ()), v1, x.2.2.1, x.2.2.2.1, (wr .i64 (x.2.2.2.2.1 + 1)), ())
  else
  X 0 ((x.1.1, ()), x.2.1, ())

def I.numbers_build.l3 (x : I.numbers_build.H3) (X : Nat → I.numbers_build.E3 → Option I.numbers_build.R) : Option I.numbers_build.R := rounds (I.numbers_build.st3) big X x
def I.numbers_build.lo3 : LoopO (DenF I.numbers_build.fr × DenB I.numbers_build.fa) := ⟨[2, 6, 12, 13, 14], I.numbers_build.h3, [2, 6], I.numbers_build.e3, I.numbers_build.l3⟩
def I.numbers_build.p (l3 : I.numbers_build.H3 → (Nat → I.numbers_build.E3 → Option I.numbers_build.R) → Option I.numbers_build.R) (x : I.numbers_build.A) : Option I.numbers_build.R :=
  l3 ((x.1.1, ()), ([] : List Int), x.2.1, (List.length x.2.1 : Int), 0, ()) (fun i3 y3 =>
    bif Nat.beq i3 0 then
      (I.PackInts (y3.2.1, y3.1.1, ())).bind fun r1 =>
      some (([r1.1.1], r1.1.2.1, ()), (((), ()), (), ()))
    else
    none)

def I.numbers_build (x : I.numbers_build.A) : Option I.numbers_build.R := I.numbers_build.p I.numbers_build.l3 x
def I.numbers_build.spec : Spec := ⟨I.numbers_build.fa, I.numbers_build.fr, I.numbers_build⟩

/-! (loop.example/s01316/impl.offsets).ends -/
def I.offsets_ends.fa : Fm := (.cons (.agg .nil) (.cons (.sl 137 c131) .nil))
def I.offsets_ends.fr : Fm := (.tup (.cons (.own 5 (.int .u8) true) (.cons (.int .i64) .nil)))
abbrev I.offsets_ends.A := Unit × (List DCell) × Unit
abbrev I.offsets_ends.R := ((List Int) × Int × Unit) × (Unit × Unit × Unit)
def I.offsets_ends.o : Orc := [(180, I.PackInts.spec)]
def I.offsets_ends.h3 : Fm := (.cons (.own 3 (.int .i64) true) (.cons (.sl 137 c131) (.cons (.int .i64) (.cons (.int .i64) .nil))))
def I.offsets_ends.e3 : Fm := (.cons (.own 3 (.int .i64) true) .nil)
abbrev I.offsets_ends.H3 := (List Int) × (List DCell) × Int × Int × Unit
abbrev I.offsets_ends.E3 := (List Int) × Unit
def I.offsets_ends.st3 (Rc : I.offsets_ends.H3 → Option I.offsets_ends.R) (X : Nat → I.offsets_ends.E3 → Option I.offsets_ends.R) (x : I.offsets_ends.H3) : Option I.offsets_ends.R :=
  bif decide (x.2.2.2.1 < x.2.2.1) then
    ck (decide (0 ≤ x.2.2.2.1) && decide (x.2.2.2.1 < (List.length x.2.1 : Int))) <|
    ck (decide (0 ≤ x.2.2.2.1) && decide (x.2.2.2.1 < (List.length x.1 : Int))) <|
    let v1 : Int := wr .i64 ((x.1.getD (Int.toNat x.2.2.2.1) 0) + (List.length (x.2.1.getD (Int.toNat x.2.2.2.1) zCell).2.2.1 : Int))
    ck (Nat.ble ((List.length x.1 + List.length [v1]) * 8) 140737488355328) <|
    Rc ((x.1 ++ [v1]), x.2.1, x.2.2.1, (wr .i64 (x.2.2.2.1 + 1)), ())
  else
  X 0 (x.1, ())

def I.offsets_ends.l3 (x : I.offsets_ends.H3) (X : Nat → I.offsets_ends.E3 → Option I.offsets_ends.R) : Option I.offsets_ends.R := rounds (I.offsets_ends.st3) big X x
def I.offsets_ends.lo3 : LoopO (DenF I.offsets_ends.fr × DenB I.offsets_ends.fa) := ⟨[6, 10, 11, 12], I.offsets_ends.h3, [6], I.offsets_ends.e3, I.offsets_ends.l3⟩
def I.offsets_ends.p (l3 : I.offsets_ends.H3 → (Nat → I.offsets_ends.E3 → Option I.offsets_ends.R) → Option I.offsets_ends.R) (x : I.offsets_ends.A) : Option I.offsets_ends.R :=
  l3 ([0], x.2.1, (List.length x.2.1 : Int), 0, ()) (fun i3 y3 =>
    bif Nat.beq i3 0 then
      (I.PackInts (y3.1, 4, ())).bind fun r1 =>
      some ((r1.1.1, r1.1.2.1, ()), ((()), (), ()))
    else
    none)

def I.offsets_ends (x : I.offsets_ends.A) : Option I.offsets_ends.R := I.offsets_ends.p I.offsets_ends.l3 x
def I.offsets_ends.spec : Spec := ⟨I.offsets_ends.fa, I.offsets_ends.fr, I.offsets_ends⟩

/-! (loop.example/s01316/impl.texts).build -/
def I.texts_build.fa : Fm := (.cons (.agg .nil) (.cons (.sl 137 c131) .nil))
def I.texts_build.fr : Fm := (.tup (.cons (.own 22 (.sl 5 (.int .u8)) true) (.cons (.int .i64) .nil)))
abbrev I.texts_build.A := Unit × (List DCell) × Unit
abbrev I.texts_build.R := ((List (List Int)) × Int × Unit) × (Unit × Unit × Unit)
def I.texts_build.o : Orc := [(284, I.offsets_ends.spec)]
def I.texts_build.h4 : Fm := (.cons (.own 5 (.int .u8) true) (.cons (.int .i64) (.cons (.own 5 (.int .u8) true) (.cons (.sl 137 c131) (.cons (.int .i64) (.cons (.int .i64) .nil))))))
def I.texts_build.e4 : Fm := (.cons (.own 5 (.int .u8) true) (.cons (.int .i64) (.cons (.own 5 (.int .u8) true) .nil)))
abbrev I.texts_build.H4 := (List Int) × Int × (List Int) × (List DCell) × Int × Int × Unit
abbrev I.texts_build.E4 := (List Int) × Int × (List Int) × Unit
def I.texts_build.st4 (Rc : I.texts_build.H4 → Option I.texts_build.R) (X : Nat → I.texts_build.E4 → Option I.texts_build.R) (x : I.texts_build.H4) : Option I.texts_build.R :=
  bif decide (x.2.2.2.2.2.1 < x.2.2.2.2.1) then
    ck (decide (0 ≤ x.2.2.2.2.2.1) && decide (x.2.2.2.2.2.1 < (List.length x.2.2.2.1 : Int))) <|
    ck (Nat.ble ((List.length x.2.2.1 + List.length (x.2.2.2.1.getD (Int.toNat x.2.2.2.2.2.1) zCell).2.2.1) * 1) 140737488355328) <|
    let v1 : List Int := x.2.2.1 ++ (x.2.2.2.1.getD (Int.toNat x.2.2.2.2.2.1) zCell).2.2.1
    let v2 : Int := wr .i64 (x.2.2.2.2.2.1 + 1)
    Rc (x.1, x.2.1, v1, x.2.2.2.1, x.2.2.2.2.1, v2, ())
  else
  X 0 (x.1, x.2.1, x.2.2.1, ())

def I.texts_build.l4 (x : I.texts_build.H4) (X : Nat → I.texts_build.E4 → Option I.texts_build.R) : Option I.texts_build.R := rounds (I.texts_build.st4) big X x
def I.texts_build.lo4 : LoopO (DenF I.texts_build.fr × DenB I.texts_build.fa) := ⟨[6, 7, 8, 19, 20, 21], I.texts_build.h4, [6, 7, 8], I.texts_build.e4, I.texts_build.l4⟩
def I.texts_build.p (l4 : I.texts_build.H4 → (Nat → I.texts_build.E4 → Option I.texts_build.R) → Option I.texts_build.R) (x : I.texts_build.A) : Option I.texts_build.R :=
  (I.offsets_ends ((), x.2.1, ())).bind fun r1 =>
  l4 (r1.1.1, r1.1.2.1, ([] : List Int), x.2.1, (List.length x.2.1 : Int), 0, ()) (fun i4 y4 =>
    bif Nat.beq i4 0 then some (([y4.1, y4.2.2.1], y4.2.1, ()), ((()), (), ())) else
    none)

def I.texts_build (x : I.texts_build.A) : Option I.texts_build.R := I.texts_build.p I.texts_build.l4 x
def I.texts_build.spec : Spec := ⟨I.texts_build.fa, I.texts_build.fr, I.texts_build⟩

/-! bytes.Equal -/
def B.bytes_Equal.fa : Fm := (.cons (.sl 5 (.int .u8)) (.cons (.sl 5 (.int .u8)) .nil))
def B.bytes_Equal.fr : Fm := .bool
abbrev B.bytes_Equal.A := (List Int) × (List Int) × Unit
abbrev B.bytes_Equal.R := Bool × (Unit × Unit × Unit)
def B.bytes_Equal.o : Orc := []
def B.bytes_Equal (x : B.bytes_Equal.A) : Option B.bytes_Equal.R :=
  some (ByteArray.toList (strOf x.1) == ByteArray.toList (strOf x.2.1), ((), (), ()))

def B.bytes_Equal.spec : Spec := ⟨B.bytes_Equal.fa, B.bytes_Equal.fr, B.bytes_Equal⟩

/-! loop.example/s01316/impl.placeOf$1 -/
def I.placeOf_f1.fa : Fm := (.cons (.sl 5 (.int .u8)) (.cons (.ptr (.sl 5 (.int .u8))) .nil))
def I.placeOf_f1.fr : Fm := .bool
abbrev I.placeOf_f1.A := (List Int) × (List Int) × Unit
abbrev I.placeOf_f1.R := Bool × (Unit × Unit × Unit)
def I.placeOf_f1.o : Orc := [(102, B.bytes_Equal.spec)]
def I.placeOf_f1 (x : I.placeOf_f1.A) : Option I.placeOf_f1.R :=
  (B.bytes_Equal (x.1, x.2.1, ())).bind fun r1 =>
  some (r1.1, ((), (), ()))

def I.placeOf_f1.spec : Spec := ⟨I.placeOf_f1.fa, I.placeOf_f1.fr, I.placeOf_f1⟩

/-! slices.IndexFunc[[][]byte,[]byte] -/
def B.slices_IndexFunc_byte_placeOf_f1.fa : Fm := (.cons (.sl 22 (.sl 5 (.int .u8))) (.cons (.clo 294 (.cons (.ptr (.sl 5 (.int .u8))) .nil)) .nil))
def B.slices_IndexFunc_byte_placeOf_f1.fr : Fm := (.int .i64)
abbrev B.slices_IndexFunc_byte_placeOf_f1.A := (List (List Int)) × ((List Int) × Unit) × Unit
abbrev B.slices_IndexFunc_byte_placeOf_f1.R := Int × (Unit × Unit × Unit)
def B.slices_IndexFunc_byte_placeOf_f1.o : Orc := [(294, I.placeOf_f1.spec)]
def B.slices_IndexFunc_byte_placeOf_f1.h2 : Fm := (.cons (.sl 22 (.sl 5 (.int .u8))) (.cons (.clo 294 (.cons (.ptr (.sl 5 (.int .u8))) .nil)) (.cons (.int .i64) (.cons (.int .i64) .nil))))
def B.slices_IndexFunc_byte_placeOf_f1.e2 : Fm := .nil
abbrev B.slices_IndexFunc_byte_placeOf_f1.H2 := (List (List Int)) × ((List Int) × Unit) × Int × Int × Unit
abbrev B.slices_IndexFunc_byte_placeOf_f1.E2 := Unit
def B.slices_IndexFunc_byte_placeOf_f1.st2 (Rc : B.slices_IndexFunc_byte_placeOf_f1.H2 → Option B.slices_IndexFunc_byte_placeOf_f1.R) (X : Nat → B.slices_IndexFunc_byte_placeOf_f1.E2 → Option B.slices_IndexFunc_byte_placeOf_f1.R) (x : B.slices_IndexFunc_byte_placeOf_f1.H2) : Option B.slices_IndexFunc_byte_placeOf_f1.R :=
  bif decide (x.2.2.2.1 < x.2.2.1) then
    ck (decide (0 ≤ x.2.2.2.1) && decide (x.2.2.2.1 < (List.length x.1 : Int))) <|
    (I.placeOf_f1 ((x.1.getD (Int.toNat x.2.2.2.1) []), x.2.1.1, ())).bind fun r1 =>
    bif r1.1 then some (x.2.2.2.1, ((), (), ())) else
    Rc (x.1, (x.2.1.1, ()), x.2.2.1, (wr .i64 (x.2.2.2.1 + 1)), ())
  else
  X 0 ()

def B.slices_IndexFunc_byte_placeOf_f1.l2 (x : B.slices_IndexFunc_byte_placeOf_f1.H2) (X : Nat → B.slices_IndexFunc_byte_placeOf_f1.E2 → Option B.slices_IndexFunc_byte_placeOf_f1.R) : Option B.slices_IndexFunc_byte_placeOf_f1.R := rounds (B.slices_IndexFunc_byte_placeOf_f1.st2) big X x
def B.slices_IndexFunc_byte_placeOf_f1.lo2 : LoopO (DenF B.slices_IndexFunc_byte_placeOf_f1.fr × DenB B.slices_IndexFunc_byte_placeOf_f1.fa) := ⟨[0, 1, 7, 8], B.slices_IndexFunc_byte_placeOf_f1.h2, [], B.slices_IndexFunc_byte_placeOf_f1.e2, B.slices_IndexFunc_byte_placeOf_f1.l2⟩
def B.slices_IndexFunc_byte_placeOf_f1.p (l2 : B.slices_IndexFunc_byte_placeOf_f1.H2 → (Nat → B.slices_IndexFunc_byte_placeOf_f1.E2 → Option B.slices_IndexFunc_byte_placeOf_f1.R) → Option B.slices_IndexFunc_byte_placeOf_f1.R) (x : B.slices_IndexFunc_byte_placeOf_f1.A) : Option B.slices_IndexFunc_byte_placeOf_f1.R :=
  l2 (x.1, (x.2.1.1, ()), (List.length x.1 : Int), 0, ()) (fun i2 y2 =>
    bif Nat.beq i2 0 then some (-1, ((), (), ())) else
    none)

def B.slices_IndexFunc_byte_placeOf_f1 (x : B.slices_IndexFunc_byte_placeOf_f1.A) : Option B.slices_IndexFunc_byte_placeOf_f1.R := B.slices_IndexFunc_byte_placeOf_f1.p B.slices_IndexFunc_byte_placeOf_f1.l2 x
def B.slices_IndexFunc_byte_placeOf_f1.spec : Spec := ⟨B.slices_IndexFunc_byte_placeOf_f1.fa, B.slices_IndexFunc_byte_placeOf_f1.fr, B.slices_IndexFunc_byte_placeOf_f1⟩

/-! loop.example/s01316/impl.placeOf -/
def I.placeOf.fa : Fm := (.cons (.sl 22 (.sl 5 (.int .u8))) (.cons (.sl 5 (.int .u8)) .nil))
def I.placeOf.fr : Fm := (.int .i64)
abbrev I.placeOf.A := (List (List Int)) × (List Int) × Unit
abbrev I.placeOf.R := Int × (Unit × Unit × Unit)
def I.placeOf.o : Orc := [(293, B.slices_IndexFunc_byte_placeOf_f1.spec)]
def I.placeOf (x : I.placeOf.A) : Option I.placeOf.R :=
  (B.slices_IndexFunc_byte_placeOf_f1 (x.1, (x.2.1, ()), ())).bind fun r1 =>
  some (r1.1, ((), (), ()))

def I.placeOf.spec : Spec := ⟨I.placeOf.fa, I.placeOf.fr, I.placeOf⟩

/-! (loop.example/s01316/impl.places).build -/
def I.places_build.fa : Fm := (.cons (.agg (.cons (.sl 22 (.sl 5 (.int .u8))) .nil)) (.cons (.sl 137 c131) .nil))
def I.places_build.fr : Fm := (.tup (.cons (.own 22 (.sl 5 (.int .u8)) true) (.cons (.int .i64) .nil)))
abbrev I.places_build.A := ((List (List Int)) × Unit) × (List DCell) × Unit
abbrev I.places_build.R := ((List (List Int)) × Int × Unit) × ((Unit × Unit) × Unit × Unit)
def I.places_build.o : Orc := [(180, I.PackInts.spec), (292, I.placeOf.spec)]
def I.places_build.h3 : Fm := (.cons (.box (.cons (.sl 22 (.sl 5 (.int .u8))) .nil)) (.cons (.own 3 (.int .i64) true) (.cons (.sl 137 c131) (.cons (.int .i64) (.cons (.int .i64) .nil)))))
def I.places_build.e3 : Fm := (.cons (.own 3 (.int .i64) true) .nil)
abbrev I.places_build.H3 := ((List (List Int)) × Unit) × (List Int) × (List DCell) × Int × Int × Unit
abbrev I.places_build.E3 := (List Int) × Unit
def I.places_build.st3 (Rc : I.places_build.H3 → Option I.places_build.R) (X : Nat → I.places_build.E3 → Option I.places_build.R) (x : I.places_build.H3) : Option I.places_build.R :=
  bif decide (x.2.2.2.2.1 < x.2.2.2.1) then
    ck (decide (0 ≤ x.2.2.2.2.1) && decide (x.2.2.2.2.1 < (List.length x.2.2.1 : Int))) <|
    bif !(x.2.2.1.getD (Int.toNat x.2.2.2.2.1) zCell).1 then
      (I.placeOf (x.1.1, (x.2.2.1.getD (Int.toNat x.2.2.2.2.1) zCell).2.2.1, ())).bind fun r1 =>
      bif decide (r1.1 < 0) then some (([], 1, ()), (((), ()), (), ())) else
      ck (Nat.ble ((List.length x.2.1 + List.length [r1.1]) * 8) 140737488355328) <|
      Rc ((x.1.1, ()), (x.2.1 ++ [r1.1]), x.2.2.1, x.2.2.2.1, (wr .i64 (x.2.2.2.2.1 + 1)), ())
    else
    ck (Nat.ble ((List.length x.2.1 + List.length [0]) * 8) 140737488355328) <|
    Rc ((x.1.1, ()), (x.2.1 ++ [0]), x.2.2.1, x.2.2.2.1, (wr .i64 (x.2.2.2.2.1 + 1)), ())
  else
  X 0 (x.2.1, ())

def I.places_build.l3 (x : I.places_build.H3) (X : Nat → I.places_build.E3 → Option I.places_build.R) : Option I.places_build.R := rounds (I.places_build.st3) big X x
def I.places_build.lo3 : LoopO (DenF I.places_build.fr × DenB I.places_build.fa) := ⟨[2, 6, 13, 14, 15], I.places_build.h3, [6], I.places_build.e3, I.places_build.l3⟩
def I.places_build.p (l3 : I.places_build.H3 → (Nat → I.places_build.E3 → Option I.places_build.R) → Option I.places_build.R) (x : I.places_build.A) : Option I.places_build.R :=
  l3 ((x.1.1, ()), ([] : List Int), x.2.1, (List.length x.2.1 : Int), 0, ()) (fun i3 y3 =>
    bif Nat.beq i3 0 then
      (I.PackInts (y3.1, 1, ())).bind fun r1 =>
      some (([r1.1.1], r1.1.2.1, ()), (((), ()), (), ()))
    else
    none)

def I.places_build (x : I.places_build.A) : Option I.places_build.R := I.places_build.p I.places_build.l3 x
def I.places_build.spec : Spec := ⟨I.places_build.fa, I.places_build.fr, I.places_build⟩

/-! loop.example/s01316/impl.BuildColumn -/
def I.BuildColumn.fa : Fm := (.cons (.agg (.cons (.sl 5 (.int .u8)) (.cons (.int .i64) (.cons (.int .i64) .nil)))) (.cons (.sl 137 c131) (.cons (.sl 22 (.sl 5 (.int .u8))) .nil)))
def I.BuildColumn.fr : Fm := (.tup (.cons (.own 22 (.sl 5 (.int .u8)) true) (.cons (.int .i64) .nil)))
abbrev I.BuildColumn.A := ((List Int) × Int × Int × Unit) × (List DCell) × (List (List Int)) × Unit
abbrev I.BuildColumn.R := ((List (List Int)) × Int × Unit) × ((Unit × Unit × Unit × Unit) × Unit × Unit × Unit)
def I.BuildColumn.o : Orc := [(85, I.fieldOk.spec), (86, I.ValidDict.spec), (87, I.cellOk.spec), (88, B.slices_Contains_bool.spec), (89, I.PackBits.spec), (90, I.builderOf.spec), (273, I.bools_build.spec), (276, I.numbers_build.spec), (285, I.texts_build.spec), (289, I.places_build.spec)]
def I.BuildColumn.h5 : Fm := (.cons (.sl 137 c131) (.cons (.sl 22 (.sl 5 (.int .u8))) (.cons (.box (.cons (.sl 5 (.int .u8)) (.cons (.int .i64) (.cons (.int .i64) .nil)))) (.cons (.own 4 .bool true) (.cons (.sl 137 c131) (.cons (.int .i64) (.cons (.int .i64) .nil)))))))
def I.BuildColumn.e5 : Fm := (.cons (.sl 137 c131) (.cons (.sl 22 (.sl 5 (.int .u8))) (.cons (.box (.cons (.sl 5 (.int .u8)) (.cons (.int .i64) (.cons (.int .i64) .nil)))) (.cons (.own 4 .bool true) .nil))))
abbrev I.BuildColumn.H5 := (List DCell) × (List (List Int)) × ((List Int) × Int × Int × Unit) × (List Bool) × (List DCell) × Int × Int × Unit
abbrev I.BuildColumn.E5 := (List DCell) × (List (List Int)) × ((List Int) × Int × Int × Unit) × (List Bool) × Unit
def I.BuildColumn.st5 (Rc : I.BuildColumn.H5 → Option I.BuildColumn.R) (X : Nat → I.BuildColumn.E5 → Option I.BuildColumn.R) (x : I.BuildColumn.H5) : Option I.BuildColumn.R :=
  bif decide (x.2.2.2.2.2.2.1 < x.2.2.2.2.2.1) then
    ck (decide (0 ≤ x.2.2.2.2.2.2.1) && decide (x.2.2.2.2.2.2.1 < (List.length x.2.2.2.2.1 : Int))) <|
    (I.cellOk ((x.2.2.1.1, x.2.2.1.2.1, x.2.2.1.2.2.1, ()), ((x.2.2.2.2.1.getD (Int.toNat x.2.2.2.2.2.2.1) zCell).1, (x.2.2.2.2.1.getD (Int.toNat x.2.2.2.2.2.2.1) zCell).2.1, (x.2.2.2.2.1.getD (Int.toNat x.2.2.2.2.2.2.1) zCell).2.2.1, ()), ())).bind fun r1 =>
    bif !r1.1 then some (([], 1, ()), (((), (), (), ()), (), (), ())) else
    ck (Nat.ble ((List.length x.2.2.2.1 + List.length [!(x.2.2.2.2.1.getD (Int.toNat x.2.2.2.2.2.2.1) zCell).1]) * 1) 140737488355328) <|
    let v2 : List Bool := x.2.2.2.1 ++ [!(x.2.2.2.2.1.getD (Int.toNat x.2.2.2.2.2.2.1) zCell).1]
    let v3 : Int := wr .i64 (x.2.2.2.2.2.2.1 + 1)
    Rc (x.1, x.2.1, (x.2.2.1.1, x.2.2.1.2.1, x.2.2.1.2.2.1, ()), v2, x.2.2.2.2.1, x.2.2.2.2.2.1, v3, ())
  else
  X 0 (x.1, x.2.1, (x.2.2.1.1, x.2.2.1.2.1, x.2.2.1.2.2.1, ()), x.2.2.2.1, ())

def I.BuildColumn.l5 (x : I.BuildColumn.H5) (X : Nat → I.BuildColumn.E5 → Option I.BuildColumn.R) : Option I.BuildColumn.R := rounds (I.BuildColumn.st5) big X x
def I.BuildColumn.lo5 : LoopO (DenF I.BuildColumn.fr × DenB I.BuildColumn.fa) := ⟨[1, 2, 3, 8, 28, 29, 30], I.BuildColumn.h5, [1, 2, 3, 8], I.BuildColumn.e5, I.BuildColumn.l5⟩
def I.BuildColumn.p (l5 : I.BuildColumn.H5 → (Nat → I.BuildColumn.E5 → Option I.BuildColumn.R) → Option I.BuildColumn.R) (x : I.BuildColumn.A) : Option I.BuildColumn.R :=
  (I.fieldOk ((x.1.1, x.1.2.1, x.1.2.2.1, ()), ())).bind fun r1 =>
  bif (!r1.1) == false then
    (I.ValidDict (x.2.2.1, ())).bind fun r2 =>
    bif (!r2.1) == false then
      bif decide ((List.length x.2.1 : Int) > 100) then some (([], 1, ()), (((), (), (), ()), (), (), ())) else
      l5 (x.2.1, x.2.2.1, (x.1.1, x.1.2.1, x.1.2.2.1, ()), ([] : List Bool), x.2.1, (List.length x.2.1 : Int), 0, ()) (fun i5 y5 =>
        bif Nat.beq i5 0 then
          (B.slices_Contains_bool (y5.2.2.2.1, false, ())).bind fun r3 =>
          bif r3.1 then
            (I.PackBits (y5.2.2.2.1, ())).bind fun r4 =>
            (I.builderOf ((y5.2.2.1.1, y5.2.2.1.2.1, y5.2.2.1.2.2.1, ()), y5.2.1, ())).bind fun r5 =>
            match r5.1 with
            | .inl y6 =>
              (I.bools_build ((), y5.1, ())).bind fun r7 =>
              bif r7.1.2.1 != 0 then some (([], 1, ()), (((), (), (), ()), (), (), ())) else
              ck (Nat.ble ((List.length [r4.1] + List.length r7.1.1) * 24) 140737488355328) <|
              some ((([r4.1] ++ r7.1.1), 0, ()), (((), (), (), ()), (), (), ()))
            | .inr y6 =>
              match y6 with
              | .inl y8 =>
                (I.numbers_build ((y8.1, ()), y5.1, ())).bind fun r9 =>
                bif r9.1.2.1 != 0 then some (([], 1, ()), (((), (), (), ()), (), (), ())) else
                ck (Nat.ble ((List.length [r4.1] + List.length r9.1.1) * 24) 140737488355328) <|
                some ((([r4.1] ++ r9.1.1), 0, ()), (((), (), (), ()), (), (), ()))
              | .inr y8 =>
                match y8 with
                | .inl y10 =>
                  (I.texts_build ((), y5.1, ())).bind fun r11 =>
                  bif r11.1.2.1 != 0 then some (([], 1, ()), (((), (), (), ()), (), (), ())) else
                  ck (Nat.ble ((List.length [r4.1] + List.length r11.1.1) * 24) 140737488355328) <|
                  some ((([r4.1] ++ r11.1.1), 0, ()), (((), (), (), ()), (), (), ()))
                | .inr y10 =>
                  (I.places_build ((y10.1, ()), y5.1, ())).bind fun r12 =>
                  bif r12.1.2.1 != 0 then some (([], 1, ()), (((), (), (), ()), (), (), ())) else
                  ck (Nat.ble ((List.length [r4.1] + List.length r12.1.1) * 24) 140737488355328) <|
                  some ((([r4.1] ++ r12.1.1), 0, ()), (((), (), (), ()), (), (), ()))
          else
          (I.builderOf ((y5.2.2.1.1, y5.2.2.1.2.1, y5.2.2.1.2.2.1, ()), y5.2.1, ())).bind fun r13 =>
          match r13.1 with
          | .inl y14 =>
            (I.bools_build ((), y5.1, ())).bind fun r15 =>
            bif r15.1.2.1 != 0 then some (([], 1, ()), (((), (), (), ()), (), (), ())) else
            ck (Nat.ble ((List.length [([] : List Int)] + List.length r15.1.1) * 24) 140737488355328) <|
            let v16 : List (List Int) := [([] : List Int)] ++ r15.1.1
            some ((v16, 0, ()), (((), (), (), ()), (), (), ()))
          | .inr y14 =>
            match y14 with
            | .inl y17 =>
              (I.numbers_build ((y17.1, ()), y5.1, ())).bind fun r18 =>
              bif r18.1.2.1 != 0 then some (([], 1, ()), (((), (), (), ()), (), (), ())) else
              ck (Nat.ble ((List.length [([] : List Int)] + List.length r18.1.1) * 24) 140737488355328) <|
              let v19 : List (List Int) := [([] : List Int)] ++ r18.1.1
              some ((v19, 0, ()), (((), (), (), ()), (), (), ()))
            | .inr y17 =>
              match y17 with
              | .inl y20 =>
                (I.texts_build ((), y5.1, ())).bind fun r21 =>
                bif r21.1.2.1 != 0 then some (([], 1, ()), (((), (), (), ()), (), (), ())) else
                ck (Nat.ble ((List.length [([] : List Int)] + List.length r21.1.1) * 24) 140737488355328) <|
                let v22 : List (List Int) := [([] : List Int)] ++ r21.1.1
                some ((v22, 0, ()), (((), (), (), ()), (), (), ()))
              | .inr y20 =>
                (I.places_build ((y20.1, ()), y5.1, ())).bind fun r23 =>
                bif r23.1.2.1 != 0 then some (([], 1, ()), (((), (), (), ()), (), (), ())) else
                ck (Nat.ble ((List.length [([] : List Int)] + List.length r23.1.1) * 24) 140737488355328) <|
                let v24 : List (List Int) := [([] : List Int)] ++ r23.1.1
                some ((v24, 0, ()), (((), (), (), ()), (), (), ()))
        else
        none)
    else
    some (([], 1, ()), (((), (), (), ()), (), (), ()))
  else
  some (([], 1, ()), (((), (), (), ()), (), (), ()))

def I.BuildColumn (x : I.BuildColumn.A) : Option I.BuildColumn.R := I.BuildColumn.p I.BuildColumn.l5 x
def I.BuildColumn.spec : Spec := ⟨I.BuildColumn.fa, I.BuildColumn.fr, I.BuildColumn⟩

/-! loop.example/s01316/laws.eqByteS -/
def L.eqByteS.fa : Fm := (.cons (.sl 5 (.int .u8)) (.cons (.sl 5 (.int .u8)) .nil))
def L.eqByteS.fr : Fm := .bool
abbrev L.eqByteS.A := (List Int) × (List Int) × Unit
abbrev L.eqByteS.R := Bool × (Unit × Unit × Unit)
def L.eqByteS.o : Orc := []
def L.eqByteS.h4 : Fm := (.cons (.sl 5 (.int .u8)) (.cons (.sl 5 (.int .u8)) (.cons (.int .i64) .nil)))
def L.eqByteS.e4 : Fm := .nil
abbrev L.eqByteS.H4 := (List Int) × (List Int) × Int × Unit
abbrev L.eqByteS.E4 := Unit
def L.eqByteS.st4 (Rc : L.eqByteS.H4 → Option L.eqByteS.R) (X : Nat → L.eqByteS.E4 → Option L.eqByteS.R) (x : L.eqByteS.H4) : Option L.eqByteS.R :=
  bif decide (x.2.2.1 < (List.length x.1 : Int)) then
    ck (decide (0 ≤ x.2.2.1) && decide (x.2.2.1 < (List.length x.1 : Int))) <|
    ck (decide (0 ≤ x.2.2.1) && decide (x.2.2.1 < (List.length x.2.1 : Int))) <|
    bif (x.1.getD (Int.toNat x.2.2.1) 0) != (x.2.1.getD (Int.toNat x.2.2.1) 0) then some (false, ((), (), ())) else
    Rc (x.1, x.2.1, (wr .i64 (x.2.2.1 + 1)), ())
  else
  X 0 ()

def L.eqByteS.l4 (x : L.eqByteS.H4) (X : Nat → L.eqByteS.E4 → Option L.eqByteS.R) : Option L.eqByteS.R := rounds (L.eqByteS.st4) big X x
def L.eqByteS.lo4 : LoopO (DenF L.eqByteS.fr × DenB L.eqByteS.fa) := ⟨[0, 1, 5], L.eqByteS.h4, [], L.eqByteS.e4, L.eqByteS.l4⟩
def L.eqByteS.p (l4 : L.eqByteS.H4 → (Nat → L.eqByteS.E4 → Option L.eqByteS.R) → Option L.eqByteS.R) (x : L.eqByteS.A) : Option L.eqByteS.R :=
  bif (List.length x.1 : Int) != (List.length x.2.1 : Int) then some (false, ((), (), ())) else
  l4 (x.1, x.2.1, 0, ()) (fun i4 y4 =>
    bif Nat.beq i4 0 then some (true, ((), (), ())) else
    none)

def L.eqByteS (x : L.eqByteS.A) : Option L.eqByteS.R := L.eqByteS.p L.eqByteS.l4 x
def L.eqByteS.spec : Spec := ⟨L.eqByteS.fa, L.eqByteS.fr, L.eqByteS⟩

/-! loop.example/s01316/laws.eqByteSS -/
def L.eqByteSS.fa : Fm := (.cons (.sl 22 (.sl 5 (.int .u8))) (.cons (.sl 22 (.sl 5 (.int .u8))) .nil))
def L.eqByteSS.fr : Fm := .bool
abbrev L.eqByteSS.A := (List (List Int)) × (List (List Int)) × Unit
abbrev L.eqByteSS.R := Bool × (Unit × Unit × Unit)
def L.eqByteSS.o : Orc := [(91, L.eqByteS.spec)]
def L.eqByteSS.h4 : Fm := (.cons (.sl 22 (.sl 5 (.int .u8))) (.cons (.sl 22 (.sl 5 (.int .u8))) (.cons (.int .i64) .nil)))
def L.eqByteSS.e4 : Fm := .nil
abbrev L.eqByteSS.H4 := (List (List Int)) × (List (List Int)) × Int × Unit
abbrev L.eqByteSS.E4 := Unit
def L.eqByteSS.st4 (Rc : L.eqByteSS.H4 → Option L.eqByteSS.R) (X : Nat → L.eqByteSS.E4 → Option L.eqByteSS.R) (x : L.eqByteSS.H4) : Option L.eqByteSS.R :=
  bif decide (x.2.2.1 < (List.length x.1 : Int)) then
    ck (decide (0 ≤ x.2.2.1) && decide (x.2.2.1 < (List.length x.1 : Int))) <|
    ck (decide (0 ≤ x.2.2.1) && decide (x.2.2.1 < (List.length x.2.1 : Int))) <|
    (L.eqByteS ((x.1.getD (Int.toNat x.2.2.1) []), (x.2.1.getD (Int.toNat x.2.2.1) []), ())).bind fun r1 =>
    bif !r1.1 then some (false, ((), (), ())) else
    Rc (x.1, x.2.1, (wr .i64 (x.2.2.1 + 1)), ())
  else
  X 0 ()

def L.eqByteSS.l4 (x : L.eqByteSS.H4) (X : Nat → L.eqByteSS.E4 → Option L.eqByteSS.R) : Option L.eqByteSS.R := rounds (L.eqByteSS.st4) big X x
def L.eqByteSS.lo4 : LoopO (DenF L.eqByteSS.fr × DenB L.eqByteSS.fa) := ⟨[0, 1, 5], L.eqByteSS.h4, [], L.eqByteSS.e4, L.eqByteSS.l4⟩
def L.eqByteSS.p (l4 : L.eqByteSS.H4 → (Nat → L.eqByteSS.E4 → Option L.eqByteSS.R) → Option L.eqByteSS.R) (x : L.eqByteSS.A) : Option L.eqByteSS.R :=
  bif (List.length x.1 : Int) != (List.length x.2.1 : Int) then some (false, ((), (), ())) else
  l4 (x.1, x.2.1, 0, ()) (fun i4 y4 =>
    bif Nat.beq i4 0 then some (true, ((), (), ())) else
    none)

def L.eqByteSS (x : L.eqByteSS.A) : Option L.eqByteSS.R := L.eqByteSS.p L.eqByteSS.l4 x
def L.eqByteSS.spec : Spec := ⟨L.eqByteSS.fa, L.eqByteSS.fr, L.eqByteSS⟩

/-! loop.example/s01316/laws.eqField -/
def L.eqField.fa : Fm := (.cons (.agg (.cons (.sl 5 (.int .u8)) (.cons (.int .i64) (.cons (.int .i64) .nil)))) (.cons (.agg (.cons (.sl 5 (.int .u8)) (.cons (.int .i64) (.cons (.int .i64) .nil)))) .nil))
def L.eqField.fr : Fm := .bool
abbrev L.eqField.A := ((List Int) × Int × Int × Unit) × ((List Int) × Int × Int × Unit) × Unit
abbrev L.eqField.R := Bool × ((Unit × Unit × Unit × Unit) × (Unit × Unit × Unit × Unit) × Unit)
def L.eqField.o : Orc := [(91, L.eqByteS.spec)]
def L.eqField (x : L.eqField.A) : Option L.eqField.R :=
  (L.eqByteS (x.1.1, x.2.1.1, ())).bind fun r1 =>
  bif !r1.1 then some (false, (((), (), (), ()), ((), (), (), ()), ())) else
  bif x.1.2.1 != x.2.1.2.1 then some (false, (((), (), (), ()), ((), (), (), ()), ())) else
  bif x.1.2.2.1 != x.2.1.2.2.1 then some (false, (((), (), (), ()), ((), (), (), ()), ())) else
  some (true, (((), (), (), ()), ((), (), (), ()), ()))

def L.eqField.spec : Spec := ⟨L.eqField.fa, L.eqField.fr, L.eqField⟩

/-! loop.example/s01316/laws.eqCell -/
def L.eqCell.fa : Fm := (.cons (.agg (.cons .bool (.cons (.int .i64) (.cons (.sl 5 (.int .u8)) .nil)))) (.cons (.agg (.cons .bool (.cons (.int .i64) (.cons (.sl 5 (.int .u8)) .nil)))) .nil))
def L.eqCell.fr : Fm := .bool
abbrev L.eqCell.A := (Bool × Int × (List Int) × Unit) × (Bool × Int × (List Int) × Unit) × Unit
abbrev L.eqCell.R := Bool × ((Unit × Unit × Unit × Unit) × (Unit × Unit × Unit × Unit) × Unit)
def L.eqCell.o : Orc := [(91, L.eqByteS.spec)]
def L.eqCell (x : L.eqCell.A) : Option L.eqCell.R :=
  bif !(x.1.1 == x.2.1.1) then some (false, (((), (), (), ()), ((), (), (), ()), ())) else
  bif x.1.2.1 != x.2.1.2.1 then some (false, (((), (), (), ()), ((), (), (), ()), ())) else
  (L.eqByteS (x.1.2.2.1, x.2.1.2.2.1, ())).bind fun r1 =>
  bif !r1.1 then some (false, (((), (), (), ()), ((), (), (), ()), ())) else
  some (true, (((), (), (), ()), ((), (), (), ()), ()))

def L.eqCell.spec : Spec := ⟨L.eqCell.fa, L.eqCell.fr, L.eqCell⟩

/-! loop.example/s01316/laws.eqCellS -/
def L.eqCellS.fa : Fm := (.cons (.sl 137 c131) (.cons (.sl 137 c131) .nil))
def L.eqCellS.fr : Fm := .bool
abbrev L.eqCellS.A := (List DCell) × (List DCell) × Unit
abbrev L.eqCellS.R := Bool × (Unit × Unit × Unit)
def L.eqCellS.o : Orc := [(92, L.eqCell.spec)]
def L.eqCellS.h4 : Fm := (.cons (.sl 137 c131) (.cons (.sl 137 c131) (.cons (.int .i64) .nil)))
def L.eqCellS.e4 : Fm := .nil
abbrev L.eqCellS.H4 := (List DCell) × (List DCell) × Int × Unit
abbrev L.eqCellS.E4 := Unit
def L.eqCellS.st4 (Rc : L.eqCellS.H4 → Option L.eqCellS.R) (X : Nat → L.eqCellS.E4 → Option L.eqCellS.R) (x : L.eqCellS.H4) : Option L.eqCellS.R :=
  bif decide (x.2.2.1 < (List.length x.1 : Int)) then
    ck (decide (0 ≤ x.2.2.1) && decide (x.2.2.1 < (List.length x.1 : Int))) <|
    ck (decide (0 ≤ x.2.2.1) && decide (x.2.2.1 < (List.length x.2.1 : Int))) <|
    (L.eqCell (((x.1.getD (Int.toNat x.2.2.1) zCell).1, (x.1.getD (Int.toNat x.2.2.1) zCell).2.1, (x.1.getD (Int.toNat x.2.2.1) zCell).2.2.1, ()), ((x.2.1.getD (Int.toNat x.2.2.1) zCell).1, (x.2.1.getD (Int.toNat x.2.2.1) zCell).2.1, (x.2.1.getD (Int.toNat x.2.2.1) zCell).2.2.1, ()), ())).bind fun r1 =>
    bif !r1.1 then some (false, ((), (), ())) else
    Rc (x.1, x.2.1, (wr .i64 (x.2.2.1 + 1)), ())
  else
  X 0 ()

def L.eqCellS.l4 (x : L.eqCellS.H4) (X : Nat → L.eqCellS.E4 → Option L.eqCellS.R) : Option L.eqCellS.R := rounds (L.eqCellS.st4) big X x
def L.eqCellS.lo4 : LoopO (DenF L.eqCellS.fr × DenB L.eqCellS.fa) := ⟨[0, 1, 5], L.eqCellS.h4, [], L.eqCellS.e4, L.eqCellS.l4⟩
def L.eqCellS.p (l4 : L.eqCellS.H4 → (Nat → L.eqCellS.E4 → Option L.eqCellS.R) → Option L.eqCellS.R) (x : L.eqCellS.A) : Option L.eqCellS.R :=
  bif (List.length x.1 : Int) != (List.length x.2.1 : Int) then some (false, ((), (), ())) else
  l4 (x.1, x.2.1, 0, ()) (fun i4 y4 =>
    bif Nat.beq i4 0 then some (true, ((), (), ())) else
    none)

def L.eqCellS (x : L.eqCellS.A) : Option L.eqCellS.R := L.eqCellS.p L.eqCellS.l4 x
def L.eqCellS.spec : Spec := ⟨L.eqCellS.fa, L.eqCellS.fr, L.eqCellS⟩

/-! loop.example/s01316/laws.markByteS -/
def L.markByteS.fa : Fm := (.cons (.pin 0 5 (.int .u8) true) (.cons (.int .i64) .nil))
def L.markByteS.fr : Fm := (.int .i64)
abbrev L.markByteS.A := (List Int) × Int × Unit
abbrev L.markByteS.R := Int × ((List Int) × Unit × Unit)
def L.markByteS.o : Orc := []
def L.markByteS.h2 : Fm := (.cons (.own 5 (.int .u8) true) (.cons (.int .i64) (.cons (.int .i64) .nil)))
def L.markByteS.e2 : Fm := (.cons (.own 5 (.int .u8) true) (.cons (.int .i64) .nil))
abbrev L.markByteS.H2 := (List Int) × Int × Int × Unit
abbrev L.markByteS.E2 := (List Int) × Int × Unit
def L.markByteS.st2 (Rc : L.markByteS.H2 → Option L.markByteS.R) (X : Nat → L.markByteS.E2 → Option L.markByteS.R) (x : L.markByteS.H2) : Option L.markByteS.R :=
  bif decide (x.2.2.1 < (List.length x.1 : Int)) then
    ck (decide (0 ≤ x.2.2.1) && decide (x.2.2.1 < (List.length x.1 : Int))) <|
    let v1 : List Int := x.1.set (Int.toNat x.2.2.1) (wr .u8 x.2.1)
    Rc (v1, (wr .i64 (x.2.1 + 1)), (wr .i64 (x.2.2.1 + 1)), ())
  else
  X 0 (x.1, x.2.1, ())

def L.markByteS.l2 (x : L.markByteS.H2) (X : Nat → L.markByteS.E2 → Option L.markByteS.R) : Option L.markByteS.R := rounds (L.markByteS.st2) big X x
def L.markByteS.lo2 : LoopO (DenF L.markByteS.fr × DenB L.markByteS.fa) := ⟨[0, 1, 5], L.markByteS.h2, [0, 1], L.markByteS.e2, L.markByteS.l2⟩
def L.markByteS.p (l2 : L.markByteS.H2 → (Nat → L.markByteS.E2 → Option L.markByteS.R) → Option L.markByteS.R) (x : L.markByteS.A) : Option L.markByteS.R :=
  l2 (x.1, x.2.1, 0, ()) (fun i2 y2 =>
    bif Nat.beq i2 0 then some (y2.2.1, (y2.1, (), ())) else
    none)

def L.markByteS (x : L.markByteS.A) : Option L.markByteS.R := L.markByteS.p L.markByteS.l2 x
def L.markByteS.spec : Spec := ⟨L.markByteS.fa, L.markByteS.fr, L.markByteS⟩

/-! loop.example/s01316/laws.markField -/
def L.markField.fa : Fm := (.cons (.agg (.cons (.pin 0 5 (.int .u8) true) (.cons (.int .i64) (.cons (.int .i64) .nil)))) (.cons (.int .i64) .nil))
def L.markField.fr : Fm := (.int .i64)
abbrev L.markField.A := ((List Int) × Int × Int × Unit) × Int × Unit
abbrev L.markField.R := Int × (((List Int) × Unit × Unit × Unit) × Unit × Unit)
def L.markField.o : Orc := [(93, L.markByteS.spec)]
def L.markField (x : L.markField.A) : Option L.markField.R :=
  (L.markByteS (x.1.1, x.2.1, ())).bind fun r1 =>
  some (r1.1, ((r1.2.1, (), (), ()), (), ()))

def L.markField.spec : Spec := ⟨L.markField.fa, L.markField.fr, L.markField⟩

/-! loop.example/s01316/laws.markCellS -/
def L.markCellS.fa : Fm := (.cons (.pin 0 137 c131 true) (.cons (.int .i64) .nil))
def L.markCellS.fr : Fm := (.int .i64)
abbrev L.markCellS.A := (List DCell) × Int × Unit
abbrev L.markCellS.R := Int × ((List DCell) × Unit × Unit)
def L.markCellS.o : Orc := [(93, L.markByteS.spec)]
def L.markCellS.h2 : Fm := (.cons (.own 137 c131 true) (.cons (.int .i64) (.cons (.int .i64) .nil)))
def L.markCellS.e2 : Fm := (.cons (.own 137 c131 true) (.cons (.int .i64) .nil))
abbrev L.markCellS.H2 := (List DCell) × Int × Int × Unit
abbrev L.markCellS.E2 := (List DCell) × Int × Unit
def L.markCellS.st2 (Rc : L.markCellS.H2 → Option L.markCellS.R) (X : Nat → L.markCellS.E2 → Option L.markCellS.R) (x : L.markCellS.H2) : Option L.markCellS.R :=
  bif decide (x.2.2.1 < (List.length x.1 : Int)) then
    ck (decide (0 ≤ x.2.2.1) && decide (x.2.2.1 < (List.length x.1 : Int))) <|
    let v1 : List DCell := x.1.set (Int.toNat x.2.2.1) (((Int.tmod x.2.1 3) == 0), (x.1.getD (Int.toNat x.2.2.1) zCell).2)
    ck (decide (0 ≤ x.2.2.1) && decide (x.2.2.1 < (List.length v1 : Int))) <|
    let v2 : List DCell := v1.set (Int.toNat x.2.2.1) ((v1.getD (Int.toNat x.2.2.1) zCell).1, ((wr .i64 (x.2.1 + 1)), (v1.getD (Int.toNat x.2.2.1) zCell).2.2))
    let v3 : Int := wr .i64 ((wr .i64 (x.2.1 + 1)) + 1)
    ck (decide (0 ≤ x.2.2.1) && decide (x.2.2.1 < (List.length v2 : Int))) <|
    (L.markByteS ((v2.getD (Int.toNat x.2.2.1) zCell).2.2.1, v3, ())).bind fun r4 =>
    let v5 : List DCell := v2.set (Int.toNat x.2.2.1) ((v2.getD (Int.toNat x.2.2.1) zCell).1, ((v2.getD (Int.toNat x.2.2.1) zCell).2.1, (r4.2.1, (v2.getD (Int.toNat x.2.2.1) zCell).2.2.2)))
    Rc (v5, r4.1, (wr .i64 (x.2.2.1 + 1)), ())
  else
  X 0 (x.1, x.2.1, ())

def L.markCellS.l2 (x : L.markCellS.H2) (X : Nat → L.markCellS.E2 → Option L.markCellS.R) : Option L.markCellS.R := rounds (L.markCellS.st2) big X x
def L.markCellS.lo2 : LoopO (DenF L.markCellS.fr × DenB L.markCellS.fa) := ⟨[0, 1, 5], L.markCellS.h2, [0, 1], L.markCellS.e2, L.markCellS.l2⟩
def L.markCellS.p (l2 : L.markCellS.H2 → (Nat → L.markCellS.E2 → Option L.markCellS.R) → Option L.markCellS.R) (x : L.markCellS.A) : Option L.markCellS.R :=
  l2 (x.1, x.2.1, 0, ()) (fun i2 y2 =>
    bif Nat.beq i2 0 then some (y2.2.1, (y2.1, (), ())) else
    none)

def L.markCellS (x : L.markCellS.A) : Option L.markCellS.R := L.markCellS.p L.markCellS.l2 x
def L.markCellS.spec : Spec := ⟨L.markCellS.fa, L.markCellS.fr, L.markCellS⟩

/-! loop.example/s01316/laws.markByteSS -/
def L.markByteSS.fa : Fm := (.cons (.pin 0 22 (.sl 5 (.int .u8)) true) (.cons (.int .i64) .nil))
def L.markByteSS.fr : Fm := (.int .i64)
abbrev L.markByteSS.A := (List (List Int)) × Int × Unit
abbrev L.markByteSS.R := Int × ((List (List Int)) × Unit × Unit)
def L.markByteSS.o : Orc := [(93, L.markByteS.spec)]
def L.markByteSS.h2 : Fm := (.cons (.own 22 (.sl 5 (.int .u8)) true) (.cons (.int .i64) (.cons (.int .i64) .nil)))
def L.markByteSS.e2 : Fm := (.cons (.own 22 (.sl 5 (.int .u8)) true) (.cons (.int .i64) .nil))
abbrev L.markByteSS.H2 := (List (List Int)) × Int × Int × Unit
abbrev L.markByteSS.E2 := (List (List Int)) × Int × Unit
def L.markByteSS.st2 (Rc : L.markByteSS.H2 → Option L.markByteSS.R) (X : Nat → L.markByteSS.E2 → Option L.markByteSS.R) (x : L.markByteSS.H2) : Option L.markByteSS.R :=
  bif decide (x.2.2.1 < (List.length x.1 : Int)) then
    ck (decide (0 ≤ x.2.2.1) && decide (x.2.2.1 < (List.length x.1 : Int))) <|
    (L.markByteS ((x.1.getD (Int.toNat x.2.2.1) []), x.2.1, ())).bind fun r1 =>
    let v2 : List (List Int) := x.1.set (Int.toNat x.2.2.1) r1.2.1
    Rc (v2, r1.1, (wr .i64 (x.2.2.1 + 1)), ())
  else
  X 0 (x.1, x.2.1, ())

def L.markByteSS.l2 (x : L.markByteSS.H2) (X : Nat → L.markByteSS.E2 → Option L.markByteSS.R) : Option L.markByteSS.R := rounds (L.markByteSS.st2) big X x
def L.markByteSS.lo2 : LoopO (DenF L.markByteSS.fr × DenB L.markByteSS.fa) := ⟨[0, 1, 5], L.markByteSS.h2, [0, 1], L.markByteSS.e2, L.markByteSS.l2⟩
def L.markByteSS.p (l2 : L.markByteSS.H2 → (Nat → L.markByteSS.E2 → Option L.markByteSS.R) → Option L.markByteSS.R) (x : L.markByteSS.A) : Option L.markByteSS.R :=
  l2 (x.1, x.2.1, 0, ()) (fun i2 y2 =>
    bif Nat.beq i2 0 then some (y2.2.1, (y2.1, (), ())) else
    none)

def L.markByteSS (x : L.markByteSS.A) : Option L.markByteSS.R := L.markByteSS.p L.markByteSS.l2 x
def L.markByteSS.spec : Spec := ⟨L.markByteSS.fa, L.markByteSS.fr, L.markByteSS⟩

/-! loop.example/s01316/laws.heldByteS -/
def L.heldByteS.fa : Fm := (.cons (.sl 5 (.int .u8)) (.cons (.int .i64) .nil))
def L.heldByteS.fr : Fm := (.int .i64)
abbrev L.heldByteS.A := (List Int) × Int × Unit
abbrev L.heldByteS.R := Int × (Unit × Unit × Unit)
def L.heldByteS.o : Orc := []
def L.heldByteS.h2 : Fm := (.cons (.sl 5 (.int .u8)) (.cons (.int .i64) (.cons (.int .i64) .nil)))
def L.heldByteS.e2 : Fm := (.cons (.int .i64) .nil)
abbrev L.heldByteS.H2 := (List Int) × Int × Int × Unit
abbrev L.heldByteS.E2 := Int × Unit
def L.heldByteS.st2 (Rc : L.heldByteS.H2 → Option L.heldByteS.R) (X : Nat → L.heldByteS.E2 → Option L.heldByteS.R) (x : L.heldByteS.H2) : Option L.heldByteS.R :=
  bif decide (x.2.2.1 < (List.length x.1 : Int)) then
    ck (decide (0 ≤ x.2.2.1) && decide (x.2.2.1 < (List.length x.1 : Int))) <|
    bif (x.1.getD (Int.toNat x.2.2.1) 0) != (wr .u8 x.2.1) then some (-1, ((), (), ())) else
    Rc (x.1, (wr .i64 (x.2.1 + 1)), (wr .i64 (x.2.2.1 + 1)), ())
  else
  X 0 (x.2.1, ())

def L.heldByteS.l2 (x : L.heldByteS.H2) (X : Nat → L.heldByteS.E2 → Option L.heldByteS.R) : Option L.heldByteS.R := rounds (L.heldByteS.st2) big X x
def L.heldByteS.lo2 : LoopO (DenF L.heldByteS.fr × DenB L.heldByteS.fa) := ⟨[0, 1, 5], L.heldByteS.h2, [1], L.heldByteS.e2, L.heldByteS.l2⟩
def L.heldByteS.p (l2 : L.heldByteS.H2 → (Nat → L.heldByteS.E2 → Option L.heldByteS.R) → Option L.heldByteS.R) (x : L.heldByteS.A) : Option L.heldByteS.R :=
  l2 (x.1, x.2.1, 0, ()) (fun i2 y2 =>
    bif Nat.beq i2 0 then some (y2.1, ((), (), ())) else
    none)

def L.heldByteS (x : L.heldByteS.A) : Option L.heldByteS.R := L.heldByteS.p L.heldByteS.l2 x
def L.heldByteS.spec : Spec := ⟨L.heldByteS.fa, L.heldByteS.fr, L.heldByteS⟩

/-! loop.example/s01316/laws.heldByteSS -/
def L.heldByteSS.fa : Fm := (.cons (.sl 22 (.sl 5 (.int .u8))) (.cons (.int .i64) .nil))
def L.heldByteSS.fr : Fm := (.int .i64)
abbrev L.heldByteSS.A := (List (List Int)) × Int × Unit
abbrev L.heldByteSS.R := Int × (Unit × Unit × Unit)
def L.heldByteSS.o : Orc := [(94, L.heldByteS.spec)]
def L.heldByteSS.h2 : Fm := (.cons (.sl 22 (.sl 5 (.int .u8))) (.cons (.int .i64) (.cons (.int .i64) .nil)))
def L.heldByteSS.e2 : Fm := (.cons (.int .i64) .nil)
abbrev L.heldByteSS.H2 := (List (List Int)) × Int × Int × Unit
abbrev L.heldByteSS.E2 := Int × Unit
def L.heldByteSS.st2 (Rc : L.heldByteSS.H2 → Option L.heldByteSS.R) (X : Nat → L.heldByteSS.E2 → Option L.heldByteSS.R) (x : L.heldByteSS.H2) : Option L.heldByteSS.R :=
  bif decide (x.2.2.1 < (List.length x.1 : Int)) then
    ck (decide (0 ≤ x.2.2.1) && decide (x.2.2.1 < (List.length x.1 : Int))) <|
    (L.heldByteS ((x.1.getD (Int.toNat x.2.2.1) []), x.2.1, ())).bind fun r1 =>
    bif decide (r1.1 < 0) then some (-1, ((), (), ())) else
    Rc (x.1, r1.1, (wr .i64 (x.2.2.1 + 1)), ())
  else
  X 0 (x.2.1, ())

def L.heldByteSS.l2 (x : L.heldByteSS.H2) (X : Nat → L.heldByteSS.E2 → Option L.heldByteSS.R) : Option L.heldByteSS.R := rounds (L.heldByteSS.st2) big X x
def L.heldByteSS.lo2 : LoopO (DenF L.heldByteSS.fr × DenB L.heldByteSS.fa) := ⟨[0, 1, 5], L.heldByteSS.h2, [1], L.heldByteSS.e2, L.heldByteSS.l2⟩
def L.heldByteSS.p (l2 : L.heldByteSS.H2 → (Nat → L.heldByteSS.E2 → Option L.heldByteSS.R) → Option L.heldByteSS.R) (x : L.heldByteSS.A) : Option L.heldByteSS.R :=
  l2 (x.1, x.2.1, 0, ()) (fun i2 y2 =>
    bif Nat.beq i2 0 then some (y2.1, ((), (), ())) else
    none)

def L.heldByteSS (x : L.heldByteSS.A) : Option L.heldByteSS.R := L.heldByteSS.p L.heldByteSS.l2 x
def L.heldByteSS.spec : Spec := ⟨L.heldByteSS.fa, L.heldByteSS.fr, L.heldByteSS⟩

/-! loop.example/s01316/laws.FnExactBuildColumn -/
def L.FnExactBuildColumn.fa : Fm := (.cons (.agg (.cons (.sl 5 (.int .u8)) (.cons (.int .i64) (.cons (.int .i64) .nil)))) (.cons (.sl 131 c131) (.cons (.sl 22 (.sl 5 (.int .u8))) .nil)))
def L.FnExactBuildColumn.fr : Fm := .bool
abbrev L.FnExactBuildColumn.A := ((List Int) × Int × Int × Unit) × (List DCell) × (List (List Int)) × Unit
abbrev L.FnExactBuildColumn.R := Bool × ((Unit × Unit × Unit × Unit) × Unit × Unit × Unit)
def L.FnExactBuildColumn.o : Orc := [(12, L.szField.spec), (13, L.szCellS.spec), (14, L.szByteSS.spec), (15, S.BuildColumn.spec), (16, L.toField.spec), (17, L.toCellS.spec), (18, L.toByteSS.spec), (19, I.BuildColumn.spec), (20, L.eqByteSS.spec), (21, L.eqField.spec), (22, L.eqCellS.spec), (23, L.markField.spec), (24, L.markCellS.spec), (25, L.markByteSS.spec), (26, L.heldByteSS.spec)]
def L.FnExactBuildColumn (x : L.FnExactBuildColumn.A) : Option L.FnExactBuildColumn.R :=
  (L.szField ((x.1.1, x.1.2.1, x.1.2.2.1, ()), 1048576, ())).bind fun r1 =>
  bif decide (r1.1 < 0) then some (true, (((), (), (), ()), (), (), ())) else
  (L.szCellS (x.2.1, r1.1, ())).bind fun r2 =>
  bif decide (r2.1 < 0) then some (true, (((), (), (), ()), (), (), ())) else
  (L.szByteSS (x.2.2.1, r2.1, ())).bind fun r3 =>
  bif decide (r3.1 < 0) then some (true, (((), (), (), ()), (), (), ())) else
  (L.toField ((x.1.1, x.1.2.1, x.1.2.2.1, ()), ())).bind fun r4 =>
  (L.toCellS (x.2.1, ())).bind fun r5 =>
  (L.toByteSS (x.2.2.1, ())).bind fun r6 =>
  (S.BuildColumn ((r4.1.1, r4.1.2.1, r4.1.2.2.1, ()), r5.1, r6.1, ())).bind fun r7 =>
  (L.toField ((x.1.1, x.1.2.1, x.1.2.2.1, ()), ())).bind fun r8 =>
  (L.toCellS (x.2.1, ())).bind fun r9 =>
  (L.toByteSS (x.2.2.1, ())).bind fun r10 =>
  (I.BuildColumn ((r8.1.1, r8.1.2.1, r8.1.2.2.1, ()), r9.1, r10.1, ())).bind fun r11 =>
  (L.eqByteSS (r11.1.1, r7.1.1, ())).bind fun r12 =>
  bif (!r12.1) == false then
    bif r11.1.2.1 != r7.1.2.1 then some (false, (((), (), (), ()), (), (), ())) else
    (L.toField ((x.1.1, x.1.2.1, x.1.2.2.1, ()), ())).bind fun r13 =>
    (L.eqField ((r8.1.1, r8.1.2.1, r8.1.2.2.1, ()), (r13.1.1, r13.1.2.1, r13.1.2.2.1, ()), ())).bind fun r14 =>
    bif !r14.1 then some (false, (((), (), (), ()), (), (), ())) else
    (L.toCellS (x.2.1, ())).bind fun r15 =>
    (L.eqCellS (r9.1, r15.1, ())).bind fun r16 =>
    bif !r16.1 then some (false, (((), (), (), ()), (), (), ())) else
    (L.toByteSS (x.2.2.1, ())).bind fun r17 =>
    (L.eqByteSS (r10.1, r17.1, ())).bind fun r18 =>
    bif !r18.1 then some (false, (((), (), (), ()), (), (), ())) else
    (L.markField ((r8.1.1, r8.1.2.1, r8.1.2.2.1, ()), 1, ())).bind fun r19 =>
    (L.markCellS (r9.1, r19.1, ())).bind fun r20 =>
    (L.markByteSS (r10.1, r20.1, ())).bind fun r21 =>
    bif (decide (r21.1 < 0)) == false then
      (L.eqByteSS (r11.1.1, r7.1.1, ())).bind fun r22 =>
      bif (!r22.1) == false then
        bif r11.1.2.1 != r7.1.2.1 then some (false, (((), (), (), ()), (), (), ())) else
        (L.markByteSS (r11.1.1, 1, ())).bind fun r23 =>
        (L.heldByteSS (r23.2.1, 1, ())).bind fun r24 =>
        bif decide (r24.1 < 0) then some (false, (((), (), (), ()), (), (), ())) else
        bif r24.1 != r23.1 then some (false, (((), (), (), ()), (), (), ())) else
        (L.toField ((x.1.1, x.1.2.1, x.1.2.2.1, ()), ())).bind fun r25 =>
        (L.toCellS (x.2.1, ())).bind fun r26 =>
        (L.toByteSS (x.2.2.1, ())).bind fun r27 =>
        (I.BuildColumn ((r25.1.1, r25.1.2.1, r25.1.2.2.1, ()), r26.1, r27.1, ())).bind fun r28 =>
        (L.eqByteSS (r28.1.1, r7.1.1, ())).bind fun r29 =>
        bif (!r29.1) == false then
          bif r28.1.2.1 != r7.1.2.1 then some (false, (((), (), (), ()), (), (), ())) else
          (L.heldByteSS (r23.2.1, 1, ())).bind fun r30 =>
          bif decide (r30.1 < 0) then some (false, (((), (), (), ()), (), (), ())) else
          bif r30.1 != r23.1 then some (false, (((), (), (), ()), (), (), ())) else
          some (true, (((), (), (), ()), (), (), ()))
        else
        some (false, (((), (), (), ()), (), (), ()))
      else
      some (false, (((), (), (), ()), (), (), ()))
    else
    some (false, (((), (), (), ()), (), (), ()))
  else
  some (false, (((), (), (), ()), (), (), ()))

def L.FnExactBuildColumn.spec : Spec := ⟨L.FnExactBuildColumn.fa, L.FnExactBuildColumn.fr, L.FnExactBuildColumn⟩
end Go.Ev

