/- A text of the claim, printed by a program: functions that the law reaches, as Lean functions, and that they are so. -/
import Derived.Test.YtkkjheildoclgaaYFb
set_option linter.all false
set_option linter.unusedVariables false
set_option linter.unusedSimpArgs false
set_option autoImplicit false
set_option maxRecDepth 100000
set_option linter.unusedVariables false
namespace Go.Ev
/-! loop.example/s01316/laws.szSent -/
def L.szSent.fa : Fm := (.cons (.agg (.cons (.int .i64) (.cons (.int .i64) (.cons (.int .i64) (.cons (.int .i64) (.cons .bool (.cons (.sl 5 (.int .u8)) (.cons (.int .i64) .nil)))))))) (.cons (.int .i64) .nil))
def L.szSent.fr : Fm := (.int .i64)
abbrev L.szSent.A := (Int × Int × Int × Int × Bool × (List Int) × Int × Unit) × Int × Unit
abbrev L.szSent.R := Int × ((Unit × Unit × Unit × Unit × Unit × Unit × Unit × Unit) × Unit × Unit)
def L.szSent.o : Orc := [(37, L.szPacket.spec)]
def L.szSent (x : L.szSent.A) : Option L.szSent.R :=
  (L.szPacket ((x.1.1, x.1.2.1, x.1.2.2.1, x.1.2.2.2.1, x.1.2.2.2.2.1, x.1.2.2.2.2.2.1, ()), x.2.1, ())).bind fun r1 =>
  bif decide (r1.1 < 0) then some (-1, (((), (), (), (), (), (), (), ()), (), ())) else
  some (r1.1, (((), (), (), (), (), (), (), ()), (), ()))

def L.szSent.spec : Spec := ⟨L.szSent.fa, L.szSent.fr, L.szSent⟩

/-! loop.example/s01316/laws.szSentS -/
def L.szSentS.fa : Fm := (.cons (.sl 286 c160) (.cons (.int .i64) .nil))
def L.szSentS.fr : Fm := (.int .i64)
abbrev L.szSentS.A := (List DSent) × Int × Unit
abbrev L.szSentS.R := Int × (Unit × Unit × Unit)
def L.szSentS.o : Orc := [(235, L.szSent.spec)]
def L.szSentS.h5 : Fm := (.cons (.sl 286 c160) (.cons (.int .i64) (.cons (.int .i64) .nil)))
def L.szSentS.e5 : Fm := (.cons (.int .i64) .nil)
abbrev L.szSentS.H5 := (List DSent) × Int × Int × Unit
abbrev L.szSentS.E5 := Int × Unit
def L.szSentS.st5 (Rc : L.szSentS.H5 → Option L.szSentS.R) (X : Nat → L.szSentS.E5 → Option L.szSentS.R) (x : L.szSentS.H5) : Option L.szSentS.R :=
  bif decide (x.2.2.1 < (List.length x.1 : Int)) then
    ck (decide (0 ≤ x.2.2.1) && decide (x.2.2.1 < (List.length x.1 : Int))) <|
    (L.szSent (((x.1.getD (Int.toNat x.2.2.1) zSent).1.1, (x.1.getD (Int.toNat x.2.2.1) zSent).1.2.1, (x.1.getD (Int.toNat x.2.2.1) zSent).1.2.2.1, (x.1.getD (Int.toNat x.2.2.1) zSent).1.2.2.2.1, (x.1.getD (Int.toNat x.2.2.1) zSent).1.2.2.2.2.1, (x.1.getD (Int.toNat x.2.2.1) zSent).1.2.2.2.2.2.1, (x.1.getD (Int.toNat x.2.2.1) zSent).2.1, ()), x.2.1, ())).bind fun r1 =>
    bif decide (r1.1 < 0) then some (-1, ((), (), ())) else
    Rc (x.1, r1.1, (wr .i64 (x.2.2.1 + 1)), ())
  else
  X 0 (x.2.1, ())

def L.szSentS.l5 (x : L.szSentS.H5) (X : Nat → L.szSentS.E5 → Option L.szSentS.R) : Option L.szSentS.R := rounds (L.szSentS.st5) big X x
def L.szSentS.lo5 : LoopO (DenF L.szSentS.fr × DenB L.szSentS.fa) := ⟨[0, 1, 5], L.szSentS.h5, [1], L.szSentS.e5, L.szSentS.l5⟩
def L.szSentS.p (l5 : L.szSentS.H5 → (Nat → L.szSentS.E5 → Option L.szSentS.R) → Option L.szSentS.R) (x : L.szSentS.A) : Option L.szSentS.R :=
  let v1 : Int := wr .i64 (x.2.1 - (List.length x.1 : Int))
  bif decide (v1 < 0) then some (-1, ((), (), ())) else
  l5 (x.1, v1, 0, ()) (fun i5 y5 =>
    bif Nat.beq i5 0 then some (y5.1, ((), (), ())) else
    none)

def L.szSentS (x : L.szSentS.A) : Option L.szSentS.R := L.szSentS.p L.szSentS.l5 x
def L.szSentS.spec : Spec := ⟨L.szSentS.fa, L.szSentS.fr, L.szSentS⟩

/-! loop.example/s01316/laws.szLinkOut -/
def L.szLinkOut.fa : Fm := (.cons (.agg (.cons (.int .i64) (.cons (.int .i64) (.cons (.int .i64) (.cons (.sl 286 c160) .nil))))) (.cons (.int .i64) .nil))
def L.szLinkOut.fr : Fm := (.int .i64)
abbrev L.szLinkOut.A := (Int × Int × Int × (List DSent) × Unit) × Int × Unit
abbrev L.szLinkOut.R := Int × ((Unit × Unit × Unit × Unit × Unit) × Unit × Unit)
def L.szLinkOut.o : Orc := [(196, L.szSentS.spec)]
def L.szLinkOut (x : L.szLinkOut.A) : Option L.szLinkOut.R :=
  (L.szSentS (x.1.2.2.2.1, x.2.1, ())).bind fun r1 =>
  bif decide (r1.1 < 0) then some (-1, (((), (), (), (), ()), (), ())) else
  some (r1.1, (((), (), (), (), ()), (), ()))

def L.szLinkOut.spec : Spec := ⟨L.szLinkOut.fa, L.szLinkOut.fr, L.szLinkOut⟩

/-! loop.example/s01316/laws.szSender -/
def L.szSender.fa : Fm := (.cons (.agg (.cons (.sl 24 c23) (.cons (.int .i64) (.cons (.int .i64) (.cons (.sl 244 c244) (.cons (.int .i64) (.cons (.int .i64) (.cons (.int .i64) (.cons (.int .i64) (.cons (.sl 286 c160) (.cons .bool (.cons (.sl 24 c23) (.cons (.int .i64) (.cons (.sl 26 (.sl 22 (.sl 5 (.int .u8)))) .nil)))))))))))))) (.cons (.int .i64) .nil))
def L.szSender.fr : Fm := (.int .i64)
abbrev L.szSender.A := ((List DField) × Int × Int × (List DTable) × Int × Int × Int × Int × (List DSent) × Bool × (List DField) × Int × (List (List (List Int))) × Unit) × Int × Unit
abbrev L.szSender.R := Int × ((Unit × Unit × Unit × Unit × Unit × Unit × Unit × Unit × Unit × Unit × Unit × Unit × Unit × Unit) × Unit × Unit)
def L.szSender.o : Orc := [(56, L.szFieldS.spec), (123, L.szStream.spec), (124, L.szTableS.spec), (135, L.szLinkOut.spec)]
def L.szSender (x : L.szSender.A) : Option L.szSender.R :=
  (L.szFieldS (x.1.1, x.2.1, ())).bind fun r1 =>
  bif decide (r1.1 < 0) then
    some (-1, (((), (), (), (), (), (), (), (), (), (), (), (), (), ()), (), ()))
  else
  (L.szTableS (x.1.2.2.2.1, r1.1, ())).bind fun r2 =>
  bif decide (r2.1 < 0) then
    some (-1, (((), (), (), (), (), (), (), (), (), (), (), (), (), ()), (), ()))
  else
  (L.szLinkOut ((x.1.2.2.2.2.2.1, x.1.2.2.2.2.2.2.1, x.1.2.2.2.2.2.2.2.1, x.1.2.2.2.2.2.2.2.2.1, ()), r2.1, ())).bind fun r3 =>
  bif decide (r3.1 < 0) then
    some (-1, (((), (), (), (), (), (), (), (), (), (), (), (), (), ()), (), ()))
  else
  (L.szStream ((x.1.2.2.2.2.2.2.2.2.2.1, x.1.2.2.2.2.2.2.2.2.2.2.1, x.1.2.2.2.2.2.2.2.2.2.2.2.1, x.1.2.2.2.2.2.2.2.2.2.2.2.2.1, ()), r3.1, ())).bind fun r4 =>
  bif decide (r4.1 < 0) then
    some (-1, (((), (), (), (), (), (), (), (), (), (), (), (), (), ()), (), ()))
  else
  some (r4.1, (((), (), (), (), (), (), (), (), (), (), (), (), (), ()), (), ()))

def L.szSender.spec : Spec := ⟨L.szSender.fa, L.szSender.fr, L.szSender⟩

/-! loop.example/s01316/laws.toSent -/
def L.toSent.fa : Fm := (.cons (.agg (.cons (.int .i64) (.cons (.int .i64) (.cons (.int .i64) (.cons (.int .i64) (.cons .bool (.cons (.sl 5 (.int .u8)) (.cons (.int .i64) .nil)))))))) .nil)
def L.toSent.fr : Fm := (.agg (.cons (.int .i64) (.cons (.int .i64) (.cons (.int .i64) (.cons (.int .i64) (.cons .bool (.cons (.own 5 (.int .u8) true) (.cons (.int .i64) .nil))))))))
abbrev L.toSent.A := (Int × Int × Int × Int × Bool × (List Int) × Int × Unit) × Unit
abbrev L.toSent.R := (Int × Int × Int × Int × Bool × (List Int) × Int × Unit) × ((Unit × Unit × Unit × Unit × Unit × Unit × Unit × Unit) × Unit)
def L.toSent.o : Orc := [(40, L.toPacket.spec)]
def L.toSent (x : L.toSent.A) : Option L.toSent.R :=
  (L.toPacket ((x.1.1, x.1.2.1, x.1.2.2.1, x.1.2.2.2.1, x.1.2.2.2.2.1, x.1.2.2.2.2.2.1, ()), ())).bind fun r1 =>
  some ((r1.1.1, r1.1.2.1, r1.1.2.2.1, r1.1.2.2.2.1, r1.1.2.2.2.2.1, r1.1.2.2.2.2.2.1, x.1.2.2.2.2.2.2.1, ()), (((), (), (), (), (), (), (), ()), ()))

def L.toSent.spec : Spec := ⟨L.toSent.fa, L.toSent.fr, L.toSent⟩

/-! loop.example/s01316/laws.toSentS -/
def L.toSentS.fa : Fm := (.cons (.sl 286 c160) .nil)
def L.toSentS.fr : Fm := (.own 160 c160 true)
abbrev L.toSentS.A := (List DSent) × Unit
abbrev L.toSentS.R := (List DSent) × (Unit × Unit)
def L.toSentS.o : Orc := [(237, L.toSent.spec)]
def L.toSentS.h3 : Fm := (.cons (.sl 286 c160) (.cons (.own 160 c160 true) (.cons (.int .i64) .nil)))
def L.toSentS.e3 : Fm := (.cons (.own 160 c160 true) .nil)
abbrev L.toSentS.H3 := (List DSent) × (List DSent) × Int × Unit
abbrev L.toSentS.E3 := (List DSent) × Unit
def L.toSentS.st3 (Rc : L.toSentS.H3 → Option L.toSentS.R) (X : Nat → L.toSentS.E3 → Option L.toSentS.R) (x : L.toSentS.H3) : Option L.toSentS.R :=
  bif decide (x.2.2.1 < (List.length x.1 : Int)) then
    ck (decide (0 ≤ x.2.2.1) && decide (x.2.2.1 < (List.length x.1 : Int))) <|
    (L.toSent (((x.1.getD (Int.toNat x.2.2.1) zSent).1.1, (x.1.getD (Int.toNat x.2.2.1) zSent).1.2.1, (x.1.getD (Int.toNat x.2.2.1) zSent).1.2.2.1, (x.1.getD (Int.toNat x.2.2.1) zSent).1.2.2.2.1, (x.1.getD (Int.toNat x.2.2.1) zSent).1.2.2.2.2.1, (x.1.getD (Int.toNat x.2.2.1) zSent).1.2.2.2.2.2.1, (x.1.getD (Int.toNat x.2.2.1) zSent).2.1, ()), ())).bind fun r1 =>
    ck (decide (0 ≤ x.2.2.1) && decide (x.2.2.1 < (List.length x.2.1 : Int))) <|
    let v2 : List DSent := x.2.1.set (Int.toNat x.2.2.1) ((r1.1.1, (r1.1.2.1, (r1.1.2.2.1, (r1.1.2.2.2.1, (r1.1.2.2.2.2.1, (r1.1.2.2.2.2.2.1, (x.2.1.getD (Int.toNat x.2.2.1) zSent).1.2.2.2.2.2.2)))))), (r1.1.2.2.2.2.2.2.1, (x.2.1.getD (Int.toNat x.2.2.1) zSent).2.2))
    Rc (x.1, v2, (wr .i64 (x.2.2.1 + 1)), ())
  else
  X 0 (x.2.1, ())

def L.toSentS.l3 (x : L.toSentS.H3) (X : Nat → L.toSentS.E3 → Option L.toSentS.R) : Option L.toSentS.R := rounds (L.toSentS.st3) big X x
def L.toSentS.lo3 : LoopO (DenF L.toSentS.fr × DenB L.toSentS.fa) := ⟨[0, 3, 4], L.toSentS.h3, [3], L.toSentS.e3, L.toSentS.l3⟩
def L.toSentS.p (l3 : L.toSentS.H3 → (Nat → L.toSentS.E3 → Option L.toSentS.R) → Option L.toSentS.R) (x : L.toSentS.A) : Option L.toSentS.R :=
  ck ((decide (0 ≤ (List.length x.1 : Int)) && (decide ((List.length x.1 : Int) ≤ (List.length x.1 : Int)) && decide ((List.length x.1 : Int) * 72 ≤ 281474976710656))) && (Nat.blt 0 72 && Nat.blt 0 7)) <|
  l3 (x.1, (List.replicate (Int.toNat (List.length x.1 : Int)) zSent : List DSent), 0, ()) (fun i3 y3 =>
    bif Nat.beq i3 0 then some (y3.1, ((), ())) else
    none)

def L.toSentS (x : L.toSentS.A) : Option L.toSentS.R := L.toSentS.p L.toSentS.l3 x
def L.toSentS.spec : Spec := ⟨L.toSentS.fa, L.toSentS.fr, L.toSentS⟩

/-! loop.example/s01316/laws.toLinkOut -/
def L.toLinkOut.fa : Fm := (.cons (.agg (.cons (.int .i64) (.cons (.int .i64) (.cons (.int .i64) (.cons (.sl 286 c160) .nil))))) .nil)
def L.toLinkOut.fr : Fm := (.agg (.cons (.int .i64) (.cons (.int .i64) (.cons (.int .i64) (.cons (.own 160 c160 true) .nil)))))
abbrev L.toLinkOut.A := (Int × Int × Int × (List DSent) × Unit) × Unit
abbrev L.toLinkOut.R := (Int × Int × Int × (List DSent) × Unit) × ((Unit × Unit × Unit × Unit × Unit) × Unit)
def L.toLinkOut.o : Orc := [(198, L.toSentS.spec)]
def L.toLinkOut (x : L.toLinkOut.A) : Option L.toLinkOut.R :=
  (L.toSentS (x.1.2.2.2.1, ())).bind fun r1 =>
  some ((x.1.1, x.1.2.1, x.1.2.2.1, r1.1, ()), (((), (), (), (), ()), ()))

def L.toLinkOut.spec : Spec := ⟨L.toLinkOut.fa, L.toLinkOut.fr, L.toLinkOut⟩

/-! loop.example/s01316/laws.toSender -/
def L.toSender.fa : Fm := (.cons (.agg (.cons (.sl 24 c23) (.cons (.int .i64) (.cons (.int .i64) (.cons (.sl 244 c244) (.cons (.int .i64) (.cons (.int .i64) (.cons (.int .i64) (.cons (.int .i64) (.cons (.sl 286 c160) (.cons .bool (.cons (.sl 24 c23) (.cons (.int .i64) (.cons (.sl 26 (.sl 22 (.sl 5 (.int .u8)))) .nil)))))))))))))) .nil)
def L.toSender.fr : Fm := (.agg (.cons (.own 32 c23 true) (.cons (.int .i64) (.cons (.int .i64) (.cons (.own 186 c186 true) (.cons (.int .i64) (.cons (.int .i64) (.cons (.int .i64) (.cons (.int .i64) (.cons (.own 160 c160 true) (.cons .bool (.cons (.own 32 c23 true) (.cons (.int .i64) (.cons (.own 26 (.sl 22 (.sl 5 (.int .u8))) true) .nil))))))))))))))
abbrev L.toSender.A := ((List DField) × Int × Int × (List DTable) × Int × Int × Int × Int × (List DSent) × Bool × (List DField) × Int × (List (List (List Int))) × Unit) × Unit
abbrev L.toSender.R := ((List DField) × Int × Int × (List DTable) × Int × Int × Int × Int × (List DSent) × Bool × (List DField) × Int × (List (List (List Int))) × Unit) × ((Unit × Unit × Unit × Unit × Unit × Unit × Unit × Unit × Unit × Unit × Unit × Unit × Unit × Unit) × Unit)
def L.toSender.o : Orc := [(58, L.toFieldS.spec), (127, L.toStream.spec), (128, L.toTableS.spec), (139, L.toLinkOut.spec)]
def L.toSender (x : L.toSender.A) : Option L.toSender.R :=
  (L.toFieldS (x.1.1, ())).bind fun r1 =>
  (L.toTableS (x.1.2.2.2.1, ())).bind fun r2 =>
  (L.toLinkOut ((x.1.2.2.2.2.2.1, x.1.2.2.2.2.2.2.1, x.1.2.2.2.2.2.2.2.1, x.1.2.2.2.2.2.2.2.2.1, ()), ())).bind fun r3 =>
  (L.toStream ((x.1.2.2.2.2.2.2.2.2.2.1, x.1.2.2.2.2.2.2.2.2.2.2.1, x.1.2.2.2.2.2.2.2.2.2.2.2.1, x.1.2.2.2.2.2.2.2.2.2.2.2.2.1, ()), ())).bind fun r4 =>
  some ((r1.1, x.1.2.1, x.1.2.2.1, r2.1, x.1.2.2.2.2.1, r3.1.1, r3.1.2.1, r3.1.2.2.1, r3.1.2.2.2.1, r4.1.1, r4.1.2.1, r4.1.2.2.1, r4.1.2.2.2.1, ()), (((), (), (), (), (), (), (), (), (), (), (), (), (), ()), ()))

def L.toSender.spec : Spec := ⟨L.toSender.fa, L.toSender.fr, L.toSender⟩

/-! loop.example/s01316/spec.ValidOut -/
def S.ValidOut.fa : Fm := (.cons (.agg (.cons (.int .i64) (.cons (.int .i64) (.cons (.int .i64) (.cons (.sl 160 c160) .nil))))) .nil)
def S.ValidOut.fr : Fm := .bool
abbrev S.ValidOut.A := (Int × Int × Int × (List DSent) × Unit) × Unit
abbrev S.ValidOut.R := Bool × ((Unit × Unit × Unit × Unit × Unit) × Unit)
def S.ValidOut.o : Orc := [(112, S.l5valid.spec)]
def S.ValidOut.h4 : Fm := (.cons (.box (.cons (.int .i64) (.cons (.int .i64) (.cons (.int .i64) (.cons (.sl 160 c160) .nil))))) (.cons (.int .i64) .nil))
def S.ValidOut.e4 : Fm := .nil
abbrev S.ValidOut.H4 := (Int × Int × Int × (List DSent) × Unit) × Int × Unit
abbrev S.ValidOut.E4 := Unit
def S.ValidOut.st4 (Rc : S.ValidOut.H4 → Option S.ValidOut.R) (X : Nat → S.ValidOut.E4 → Option S.ValidOut.R) (x : S.ValidOut.H4) : Option S.ValidOut.R :=
  bif decide (x.2.1 < (List.length x.1.2.2.2.1 : Int)) then
    ck (decide (0 ≤ x.2.1) && decide (x.2.1 < (List.length x.1.2.2.2.1 : Int))) <|
    (S.l5valid (((x.1.2.2.2.1.getD (Int.toNat x.2.1) zSent).1.1, (x.1.2.2.2.1.getD (Int.toNat x.2.1) zSent).1.2.1, (x.1.2.2.2.1.getD (Int.toNat x.2.1) zSent).1.2.2.1, (x.1.2.2.2.1.getD (Int.toNat x.2.1) zSent).1.2.2.2.1, (x.1.2.2.2.1.getD (Int.toNat x.2.1) zSent).1.2.2.2.2.1, (x.1.2.2.2.1.getD (Int.toNat x.2.1) zSent).1.2.2.2.2.2.1, ()), ())).bind fun r1 =>
    bif (!r1.1) == false then
      bif ((x.1.2.2.2.1.getD (Int.toNat x.2.1) zSent).1.1 != 1) == false then
        bif ((x.1.2.2.2.1.getD (Int.toNat x.2.1) zSent).1.2.1 != x.1.1) == false then
          let v2 : Int := wr .i64 (x.1.2.1 - (List.length x.1.2.2.2.1 : Int))
          bif ((x.1.2.2.2.1.getD (Int.toNat x.2.1) zSent).1.2.2.1 != (wr .i64 (v2 + x.2.1))) == false then
            bif (decide ((x.1.2.2.2.1.getD (Int.toNat x.2.1) zSent).2.1 < (-1))) == false then
              bif decide ((x.1.2.2.2.1.getD (Int.toNat x.2.1) zSent).2.1 > x.1.2.2.1) then some (false, (((), (), (), (), ()), ())) else
              Rc ((x.1.1, x.1.2.1, x.1.2.2.1, x.1.2.2.2.1, ()), (wr .i64 (x.2.1 + 1)), ())
            else
            some (false, (((), (), (), (), ()), ()))
          else
          some (false, (((), (), (), (), ()), ()))
        else
        some (false, (((), (), (), (), ()), ()))
      else
      some (false, (((), (), (), (), ()), ()))
    else
    some (false, (((), (), (), (), ()), ()))
  else
  X 0 ()

def S.ValidOut.l4 (x : S.ValidOut.H4) (X : Nat → S.ValidOut.E4 → Option S.ValidOut.R) : Option S.ValidOut.R := rounds (S.ValidOut.st4) big X x
def S.ValidOut.lo4 : LoopO (DenF S.ValidOut.fr × DenB S.ValidOut.fa) := ⟨[1, 3], S.ValidOut.h4, [], S.ValidOut.e4, S.ValidOut.l4⟩
def S.ValidOut.p (l4 : S.ValidOut.H4 → (Nat → S.ValidOut.E4 → Option S.ValidOut.R) → Option S.ValidOut.R) (x : S.ValidOut.A) : Option S.ValidOut.R :=
  bif (decide (x.1.1 < 1)) == false then
    bif (decide (x.1.1 > 1000000000)) == false then
      bif (decide (x.1.2.1 < 0)) == false then
        bif (decide (x.1.2.1 > 1000000000000)) == false then
          bif (decide (x.1.2.2.1 < 0)) == false then
            bif (decide (x.1.2.2.1 > 1000000000)) == false then
              bif decide ((List.length x.1.2.2.2.1 : Int) > 300) then some (false, (((), (), (), (), ()), ())) else
              l4 ((x.1.1, x.1.2.1, x.1.2.2.1, x.1.2.2.2.1, ()), 0, ()) (fun i4 y4 =>
                bif Nat.beq i4 0 then some (true, (((), (), (), (), ()), ())) else
                none)
            else
            some (false, (((), (), (), (), ()), ()))
          else
          some (false, (((), (), (), (), ()), ()))
        else
        some (false, (((), (), (), (), ()), ()))
      else
      some (false, (((), (), (), (), ()), ()))
    else
    some (false, (((), (), (), (), ()), ()))
  else
  some (false, (((), (), (), (), ()), ()))

def S.ValidOut (x : S.ValidOut.A) : Option S.ValidOut.R := S.ValidOut.p S.ValidOut.l4 x
def S.ValidOut.spec : Spec := ⟨S.ValidOut.fa, S.ValidOut.fr, S.ValidOut⟩

/-! loop.example/s01316/spec.l6sameFields -/
def S.l6sameFields.fa : Fm := (.cons (.sl 32 c23) (.cons (.sl 32 c23) .nil))
def S.l6sameFields.fr : Fm := .bool
abbrev S.l6sameFields.A := (List DField) × (List DField) × Unit
abbrev S.l6sameFields.R := Bool × (Unit × Unit × Unit)
def S.l6sameFields.o : Orc := [(174, S.l1same.spec)]
def S.l6sameFields.h4 : Fm := (.cons (.sl 32 c23) (.cons (.sl 32 c23) (.cons (.int .i64) .nil)))
def S.l6sameFields.e4 : Fm := .nil
abbrev S.l6sameFields.H4 := (List DField) × (List DField) × Int × Unit
abbrev S.l6sameFields.E4 := Unit
def S.l6sameFields.st4 (Rc : S.l6sameFields.H4 → Option S.l6sameFields.R) (X : Nat → S.l6sameFields.E4 → Option S.l6sameFields.R) (x : S.l6sameFields.H4) : Option S.l6sameFields.R :=
  bif decide (x.2.2.1 < (List.length x.1 : Int)) then
    ck (decide (0 ≤ x.2.2.1) && decide (x.2.2.1 < (List.length x.1 : Int))) <|
    ck (decide (0 ≤ x.2.2.1) && decide (x.2.2.1 < (List.length x.2.1 : Int))) <|
    (S.l1same ((x.1.getD (Int.toNat x.2.2.1) zField).1, (x.2.1.getD (Int.toNat x.2.2.1) zField).1, ())).bind fun r1 =>
    bif (!r1.1) == false then
      ck (decide (0 ≤ x.2.2.1) && decide (x.2.2.1 < (List.length x.1 : Int))) <|
      ck (decide (0 ≤ x.2.2.1) && decide (x.2.2.1 < (List.length x.2.1 : Int))) <|
      bif ((x.1.getD (Int.toNat x.2.2.1) zField).2.1 != (x.2.1.getD (Int.toNat x.2.2.1) zField).2.1) == false then
        ck (decide (0 ≤ x.2.2.1) && decide (x.2.2.1 < (List.length x.1 : Int))) <|
        ck (decide (0 ≤ x.2.2.1) && decide (x.2.2.1 < (List.length x.2.1 : Int))) <|
        bif (x.1.getD (Int.toNat x.2.2.1) zField).2.2.1 != (x.2.1.getD (Int.toNat x.2.2.1) zField).2.2.1 then some (false, ((), (), ())) else
        Rc (x.1, x.2.1, (wr .i64 (x.2.2.1 + 1)), ())
      else
      some (false, ((), (), ()))
    else
    some (false, ((), (), ()))
  else
  X 0 ()

def S.l6sameFields.l4 (x : S.l6sameFields.H4) (X : Nat → S.l6sameFields.E4 → Option S.l6sameFields.R) : Option S.l6sameFields.R := rounds (S.l6sameFields.st4) big X x
def S.l6sameFields.lo4 : LoopO (DenF S.l6sameFields.fr × DenB S.l6sameFields.fa) := ⟨[0, 1, 5], S.l6sameFields.h4, [], S.l6sameFields.e4, S.l6sameFields.l4⟩
def S.l6sameFields.p (l4 : S.l6sameFields.H4 → (Nat → S.l6sameFields.E4 → Option S.l6sameFields.R) → Option S.l6sameFields.R) (x : S.l6sameFields.A) : Option S.l6sameFields.R :=
  bif (List.length x.1 : Int) != (List.length x.2.1 : Int) then some (false, ((), (), ())) else
  l4 (x.1, x.2.1, 0, ()) (fun i4 y4 =>
    bif Nat.beq i4 0 then some (true, ((), (), ())) else
    none)

def S.l6sameFields (x : S.l6sameFields.A) : Option S.l6sameFields.R := S.l6sameFields.p S.l6sameFields.l4 x
def S.l6sameFields.spec : Spec := ⟨S.l6sameFields.fa, S.l6sameFields.fr, S.l6sameFields⟩

/-! loop.example/s01316/spec.ValidSender -/
def S.ValidSender.fa : Fm := (.cons (.agg (.cons (.sl 32 c23) (.cons (.int .i64) (.cons (.int .i64) (.cons (.sl 186 c186) (.cons (.int .i64) (.cons (.int .i64) (.cons (.int .i64) (.cons (.int .i64) (.cons (.sl 160 c160) (.cons .bool (.cons (.sl 32 c23) (.cons (.int .i64) (.cons (.sl 26 (.sl 22 (.sl 5 (.int .u8)))) .nil)))))))))))))) .nil)
def S.ValidSender.fr : Fm := .bool
abbrev S.ValidSender.A := ((List DField) × Int × Int × (List DTable) × Int × Int × Int × Int × (List DSent) × Bool × (List DField) × Int × (List (List (List Int))) × Unit) × Unit
abbrev S.ValidSender.R := Bool × ((Unit × Unit × Unit × Unit × Unit × Unit × Unit × Unit × Unit × Unit × Unit × Unit × Unit × Unit) × Unit)
def S.ValidSender.o : Orc := [(34, S.ValidOut.spec), (125, S.ValidStream.spec), (136, S.ValidFields.spec), (137, S.l6tablesOK.spec), (138, S.l6sameFields.spec)]
def S.ValidSender (x : S.ValidSender.A) : Option S.ValidSender.R :=
  (S.ValidFields (x.1.1, ())).bind fun r1 =>
  bif (!r1.1) == false then
    bif (decide (x.1.2.1 < 1)) == false then
      bif (decide (x.1.2.1 > 1000000000)) == false then
        bif (x.1.2.2.2.2.2.1 != x.1.2.1) == false then
          (S.ValidOut ((x.1.2.2.2.2.2.1, x.1.2.2.2.2.2.2.1, x.1.2.2.2.2.2.2.2.1, x.1.2.2.2.2.2.2.2.2.1, ()), ())).bind fun r2 =>
          bif !r2.1 then
            some (false, (((), (), (), (), (), (), (), (), (), (), (), (), (), ()), ()))
          else
          bif (decide (x.1.2.2.1 < 0)) == false then
            let v3 : Int := wr .i64 ((1000000000 : Int) - (List.length x.1.2.2.2.1 : Int))
            bif (decide (x.1.2.2.1 > v3)) == false then
              (S.l6tablesOK (x.1.1, x.1.2.2.2.1, ())).bind fun r4 =>
              bif (!r4.1) == false then
                bif (decide (x.1.2.2.2.2.1 < 0)) == false then
                  bif decide (x.1.2.2.2.2.1 > (List.length x.1.2.2.2.1 : Int)) then
                    some (false, (((), (), (), (), (), (), (), (), (), (), (), (), (), ()), ()))
                  else
                  (S.ValidStream ((x.1.2.2.2.2.2.2.2.2.2.1, x.1.2.2.2.2.2.2.2.2.2.2.1, x.1.2.2.2.2.2.2.2.2.2.2.2.1, x.1.2.2.2.2.2.2.2.2.2.2.2.2.1, ()), ())).bind fun r5 =>
                  bif r5.1 == true then
                    bif x.1.2.2.2.2.2.2.2.2.2.1 == true then
                      (S.l6sameFields (x.1.2.2.2.2.2.2.2.2.2.2.1, x.1.1, ())).bind fun r6 =>
                      bif r6.1 == true then
                        let v7 : Int := wr .i64 (x.1.2.2.1 + x.1.2.2.2.2.1)
                        some (x.1.2.2.2.2.2.2.2.2.2.2.2.1 == v7, (((), (), (), (), (), (), (), (), (), (), (), (), (), ()), ()))
                      else
                      some (false, (((), (), (), (), (), (), (), (), (), (), (), (), (), ()), ()))
                    else
                    some (false, (((), (), (), (), (), (), (), (), (), (), (), (), (), ()), ()))
                  else
                  some (false, (((), (), (), (), (), (), (), (), (), (), (), (), (), ()), ()))
                else
                some (false, (((), (), (), (), (), (), (), (), (), (), (), (), (), ()), ()))
              else
              some (false, (((), (), (), (), (), (), (), (), (), (), (), (), (), ()), ()))
            else
            some (false, (((), (), (), (), (), (), (), (), (), (), (), (), (), ()), ()))
          else
          some (false, (((), (), (), (), (), (), (), (), (), (), (), (), (), ()), ()))
        else
        some (false, (((), (), (), (), (), (), (), (), (), (), (), (), (), ()), ()))
      else
      some (false, (((), (), (), (), (), (), (), (), (), (), (), (), (), ()), ()))
    else
    some (false, (((), (), (), (), (), (), (), (), (), (), (), (), (), ()), ()))
  else
  some (false, (((), (), (), (), (), (), (), (), (), (), (), (), (), ()), ()))

def S.ValidSender.spec : Spec := ⟨S.ValidSender.fa, S.ValidSender.fr, S.ValidSender⟩

/-! loop.example/s01316/impl.ValidOut -/
def I.ValidOut.fa : Fm := (.cons (.agg (.cons (.int .i64) (.cons (.int .i64) (.cons (.int .i64) (.cons (.sl 160 c160) .nil))))) .nil)
def I.ValidOut.fr : Fm := .bool
abbrev I.ValidOut.A := (Int × Int × Int × (List DSent) × Unit) × Unit
abbrev I.ValidOut.R := Bool × ((Unit × Unit × Unit × Unit × Unit) × Unit)
def I.ValidOut.o : Orc := [(104, I.packetOk.spec)]
def I.ValidOut.h5 : Fm := (.cons (.box (.cons (.int .i64) (.cons (.int .i64) (.cons (.int .i64) (.cons (.sl 160 c160) .nil))))) (.cons (.int .i64) (.cons (.sl 160 c160) (.cons (.int .i64) (.cons (.int .i64) .nil)))))
def I.ValidOut.e5 : Fm := .nil
abbrev I.ValidOut.H5 := (Int × Int × Int × (List DSent) × Unit) × Int × (List DSent) × Int × Int × Unit
abbrev I.ValidOut.E5 := Unit
def I.ValidOut.st5 (Rc : I.ValidOut.H5 → Option I.ValidOut.R) (X : Nat → I.ValidOut.E5 → Option I.ValidOut.R) (x : I.ValidOut.H5) : Option I.ValidOut.R :=
  bif decide (x.2.2.2.2.1 < x.2.2.2.1) then
    ck (decide (0 ≤ x.2.2.2.2.1) && decide (x.2.2.2.2.1 < (List.length x.2.2.1 : Int))) <|
    (I.packetOk (((x.2.2.1.getD (Int.toNat x.2.2.2.2.1) zSent).1.1, (x.2.2.1.getD (Int.toNat x.2.2.2.2.1) zSent).1.2.1, (x.2.2.1.getD (Int.toNat x.2.2.2.2.1) zSent).1.2.2.1, (x.2.2.1.getD (Int.toNat x.2.2.2.2.1) zSent).1.2.2.2.1, (x.2.2.1.getD (Int.toNat x.2.2.2.2.1) zSent).1.2.2.2.2.1, (x.2.2.1.getD (Int.toNat x.2.2.2.2.1) zSent).1.2.2.2.2.2.1, ()), ())).bind fun r1 =>
    bif (!r1.1) == false then
      bif ((x.2.2.1.getD (Int.toNat x.2.2.2.2.1) zSent).1.1 != 1) == false then
        bif ((x.2.2.1.getD (Int.toNat x.2.2.2.2.1) zSent).1.2.1 != x.1.1) == false then
          let v2 : Int := wr .i64 ((wr .i64 (x.1.2.1 - x.2.1)) + x.2.2.2.2.1)
          bif ((x.2.2.1.getD (Int.toNat x.2.2.2.2.1) zSent).1.2.2.1 != v2) == false then
            bif (decide ((x.2.2.1.getD (Int.toNat x.2.2.2.2.1) zSent).2.1 < (-1))) == false then
              bif decide ((x.2.2.1.getD (Int.toNat x.2.2.2.2.1) zSent).2.1 > x.1.2.2.1) then some (false, (((), (), (), (), ()), ())) else
              Rc ((x.1.1, x.1.2.1, x.1.2.2.1, x.1.2.2.2.1, ()), x.2.1, x.2.2.1, x.2.2.2.1, (wr .i64 (x.2.2.2.2.1 + 1)), ())
            else
            some (false, (((), (), (), (), ()), ()))
          else
          some (false, (((), (), (), (), ()), ()))
        else
        some (false, (((), (), (), (), ()), ()))
      else
      some (false, (((), (), (), (), ()), ()))
    else
    some (false, (((), (), (), (), ()), ()))
  else
  X 0 ()

def I.ValidOut.l5 (x : I.ValidOut.H5) (X : Nat → I.ValidOut.E5 → Option I.ValidOut.R) : Option I.ValidOut.R := rounds (I.ValidOut.st5) big X x
def I.ValidOut.lo5 : LoopO (DenF I.ValidOut.fr × DenB I.ValidOut.fa) := ⟨[1, 3, 43, 44, 45], I.ValidOut.h5, [], I.ValidOut.e5, I.ValidOut.l5⟩
def I.ValidOut.p (l5 : I.ValidOut.H5 → (Nat → I.ValidOut.E5 → Option I.ValidOut.R) → Option I.ValidOut.R) (x : I.ValidOut.A) : Option I.ValidOut.R :=
  bif (decide (x.1.1 < 1)) == false then
    bif (decide (x.1.1 > 1000000000)) == false then
      bif (decide (x.1.2.1 < 0)) == false then
        bif (decide (x.1.2.1 > 1000000000000)) == false then
          bif (decide (x.1.2.2.1 < 0)) == false then
            bif (decide (x.1.2.2.1 > 1000000000)) == false then
              bif decide ((List.length x.1.2.2.2.1 : Int) > 300) then some (false, (((), (), (), (), ()), ())) else
              l5 ((x.1.1, x.1.2.1, x.1.2.2.1, x.1.2.2.2.1, ()), (List.length x.1.2.2.2.1 : Int), x.1.2.2.2.1, (List.length x.1.2.2.2.1 : Int), 0, ()) (fun i5 y5 =>
                bif Nat.beq i5 0 then some (true, (((), (), (), (), ()), ())) else
                none)
            else
            some (false, (((), (), (), (), ()), ()))
          else
          some (false, (((), (), (), (), ()), ()))
        else
        some (false, (((), (), (), (), ()), ()))
      else
      some (false, (((), (), (), (), ()), ()))
    else
    some (false, (((), (), (), (), ()), ()))
  else
  some (false, (((), (), (), (), ()), ()))

def I.ValidOut (x : I.ValidOut.A) : Option I.ValidOut.R := I.ValidOut.p I.ValidOut.l5 x
def I.ValidOut.spec : Spec := ⟨I.ValidOut.fa, I.ValidOut.fr, I.ValidOut⟩

/-! loop.example/s01316/impl.ValidSender$1 -/
def I.ValidSender_f1.fa : Fm := (.cons (.agg (.cons (.int .i64) (.cons (.sl 137 c131) .nil))) (.cons (.ptr c102) .nil))
def I.ValidSender_f1.fr : Fm := .bool
abbrev I.ValidSender_f1.A := (Int × (List DCell) × Unit) × DSender × Unit
abbrev I.ValidSender_f1.R := Bool × ((Unit × Unit × Unit) × Unit × Unit)
def I.ValidSender_f1.o : Orc := [(132, I.ValidTable.spec)]
def I.ValidSender_f1 (x : I.ValidSender_f1.A) : Option I.ValidSender_f1.R :=
  (I.ValidTable (x.2.1.1, (x.1.1, x.1.2.1, ()), ())).bind fun r1 =>
  some (!r1.1, (((), (), ()), (), ()))

def I.ValidSender_f1.spec : Spec := ⟨I.ValidSender_f1.fa, I.ValidSender_f1.fr, I.ValidSender_f1⟩

/-! slices.IndexFunc[[]loop.example/s01316/impl.Table,loop.example/s01316/impl.Table] -/
def B.slices_IndexFunc_Table_ValidSender_f1.fa : Fm := (.cons (.sl 186 c186) (.cons (.clo 141 (.cons (.ptr c102) .nil)) .nil))
def B.slices_IndexFunc_Table_ValidSender_f1.fr : Fm := (.int .i64)
abbrev B.slices_IndexFunc_Table_ValidSender_f1.A := (List DTable) × (DSender × Unit) × Unit
abbrev B.slices_IndexFunc_Table_ValidSender_f1.R := Int × (Unit × Unit × Unit)
def B.slices_IndexFunc_Table_ValidSender_f1.o : Orc := [(141, I.ValidSender_f1.spec)]
def B.slices_IndexFunc_Table_ValidSender_f1.h2 : Fm := (.cons (.sl 186 c186) (.cons (.clo 141 (.cons (.ptr c102) .nil)) (.cons (.int .i64) (.cons (.int .i64) .nil))))
def B.slices_IndexFunc_Table_ValidSender_f1.e2 : Fm := .nil
abbrev B.slices_IndexFunc_Table_ValidSender_f1.H2 := (List DTable) × (DSender × Unit) × Int × Int × Unit
abbrev B.slices_IndexFunc_Table_ValidSender_f1.E2 := Unit
def B.slices_IndexFunc_Table_ValidSender_f1.st2 (Rc : B.slices_IndexFunc_Table_ValidSender_f1.H2 → Option B.slices_IndexFunc_Table_ValidSender_f1.R) (X : Nat → B.slices_IndexFunc_Table_ValidSender_f1.E2 → Option B.slices_IndexFunc_Table_ValidSender_f1.R) (x : B.slices_IndexFunc_Table_ValidSender_f1.H2) : Option B.slices_IndexFunc_Table_ValidSender_f1.R :=
  bif decide (x.2.2.2.1 < x.2.2.1) then
    ck (decide (0 ≤ x.2.2.2.1) && decide (x.2.2.2.1 < (List.length x.1 : Int))) <|
    (I.ValidSender_f1 (((x.1.getD (Int.toNat x.2.2.2.1) zTable).1, (x.1.getD (Int.toNat x.2.2.2.1) zTable).2.1, ()), x.2.1.1, ())).bind fun r1 =>
    bif r1.1 then some (x.2.2.2.1, ((), (), ())) else
    Rc (x.1, (x.2.1.1, ()), x.2.2.1, (wr .i64 (x.2.2.2.1 + 1)), ())
  else
  X 0 ()

def B.slices_IndexFunc_Table_ValidSender_f1.l2 (x : B.slices_IndexFunc_Table_ValidSender_f1.H2) (X : Nat → B.slices_IndexFunc_Table_ValidSender_f1.E2 → Option B.slices_IndexFunc_Table_ValidSender_f1.R) : Option B.slices_IndexFunc_Table_ValidSender_f1.R := rounds (B.slices_IndexFunc_Table_ValidSender_f1.st2) big X x
def B.slices_IndexFunc_Table_ValidSender_f1.lo2 : LoopO (DenF B.slices_IndexFunc_Table_ValidSender_f1.fr × DenB B.slices_IndexFunc_Table_ValidSender_f1.fa) := ⟨[0, 1, 7, 8], B.slices_IndexFunc_Table_ValidSender_f1.h2, [], B.slices_IndexFunc_Table_ValidSender_f1.e2, B.slices_IndexFunc_Table_ValidSender_f1.l2⟩
def B.slices_IndexFunc_Table_ValidSender_f1.p (l2 : B.slices_IndexFunc_Table_ValidSender_f1.H2 → (Nat → B.slices_IndexFunc_Table_ValidSender_f1.E2 → Option B.slices_IndexFunc_Table_ValidSender_f1.R) → Option B.slices_IndexFunc_Table_ValidSender_f1.R) (x : B.slices_IndexFunc_Table_ValidSender_f1.A) : Option B.slices_IndexFunc_Table_ValidSender_f1.R :=
  l2 (x.1, (x.2.1.1, ()), (List.length x.1 : Int), 0, ()) (fun i2 y2 =>
    bif Nat.beq i2 0 then some (-1, ((), (), ())) else
    none)

def B.slices_IndexFunc_Table_ValidSender_f1 (x : B.slices_IndexFunc_Table_ValidSender_f1.A) : Option B.slices_IndexFunc_Table_ValidSender_f1.R := B.slices_IndexFunc_Table_ValidSender_f1.p B.slices_IndexFunc_Table_ValidSender_f1.l2 x
def B.slices_IndexFunc_Table_ValidSender_f1.spec : Spec := ⟨B.slices_IndexFunc_Table_ValidSender_f1.fa, B.slices_IndexFunc_Table_ValidSender_f1.fr, B.slices_IndexFunc_Table_ValidSender_f1⟩

/-! slices.ContainsFunc[[]loop.example/s01316/impl.Table,loop.example/s01316/impl.Table] -/
def B.slices_ContainsFunc_Table_ValidSender_f1.fa : Fm := (.cons (.sl 186 c186) (.cons (.clo 141 (.cons (.ptr c102) .nil)) .nil))
def B.slices_ContainsFunc_Table_ValidSender_f1.fr : Fm := .bool
abbrev B.slices_ContainsFunc_Table_ValidSender_f1.A := (List DTable) × (DSender × Unit) × Unit
abbrev B.slices_ContainsFunc_Table_ValidSender_f1.R := Bool × (Unit × Unit × Unit)
def B.slices_ContainsFunc_Table_ValidSender_f1.o : Orc := [(192, B.slices_IndexFunc_Table_ValidSender_f1.spec)]
def B.slices_ContainsFunc_Table_ValidSender_f1 (x : B.slices_ContainsFunc_Table_ValidSender_f1.A) : Option B.slices_ContainsFunc_Table_ValidSender_f1.R :=
  (B.slices_IndexFunc_Table_ValidSender_f1 (x.1, (x.2.1.1, ()), ())).bind fun r1 =>
  some (decide (r1.1 ≥ 0), ((), (), ()))

def B.slices_ContainsFunc_Table_ValidSender_f1.spec : Spec := ⟨B.slices_ContainsFunc_Table_ValidSender_f1.fa, B.slices_ContainsFunc_Table_ValidSender_f1.fr, B.slices_ContainsFunc_Table_ValidSender_f1⟩

/-! loop.example/s01316/impl.sameFields$1 -/
def I.sameFields_f1.fa : Fm := (.cons (.agg (.cons (.sl 5 (.int .u8)) (.cons (.int .i64) (.cons (.int .i64) .nil)))) (.cons (.agg (.cons (.sl 5 (.int .u8)) (.cons (.int .i64) (.cons (.int .i64) .nil)))) .nil))
def I.sameFields_f1.fr : Fm := .bool
abbrev I.sameFields_f1.A := ((List Int) × Int × Int × Unit) × ((List Int) × Int × Int × Unit) × Unit
abbrev I.sameFields_f1.R := Bool × ((Unit × Unit × Unit × Unit) × (Unit × Unit × Unit × Unit) × Unit)
def I.sameFields_f1.o : Orc := [(102, B.bytes_Equal.spec)]
def I.sameFields_f1 (x : I.sameFields_f1.A) : Option I.sameFields_f1.R :=
  (B.bytes_Equal (x.1.1, x.2.1.1, ())).bind fun r1 =>
  bif r1.1 == true then
    bif (x.1.2.1 == x.2.1.2.1) == true then
      some (x.1.2.2.1 == x.2.1.2.2.1, (((), (), (), ()), ((), (), (), ()), ()))
    else
    some (false, (((), (), (), ()), ((), (), (), ()), ()))
  else
  some (false, (((), (), (), ()), ((), (), (), ()), ()))

def I.sameFields_f1.spec : Spec := ⟨I.sameFields_f1.fa, I.sameFields_f1.fr, I.sameFields_f1⟩

/-! slices.EqualFunc[[]loop.example/s01316/impl.Field,[]loop.example/s01316/impl.Field,loop.example/s01316/impl.Field,loop.example/s01316/impl.Field] -/
def B.slices_EqualFunc_Field_sameFields_f1.fa : Fm := (.cons (.sl 32 c23) (.cons (.sl 32 c23) (.cons (.clo 200 .nil) .nil)))
def B.slices_EqualFunc_Field_sameFields_f1.fr : Fm := .bool
abbrev B.slices_EqualFunc_Field_sameFields_f1.A := (List DField) × (List DField) × Unit × Unit
abbrev B.slices_EqualFunc_Field_sameFields_f1.R := Bool × (Unit × Unit × Unit × Unit)
def B.slices_EqualFunc_Field_sameFields_f1.o : Orc := [(200, I.sameFields_f1.spec)]
def B.slices_EqualFunc_Field_sameFields_f1.h4 : Fm := (.cons (.sl 32 c23) (.cons (.clo 200 .nil) (.cons (.sl 32 c23) (.cons (.int .i64) (.cons (.int .i64) .nil)))))
def B.slices_EqualFunc_Field_sameFields_f1.e4 : Fm := .nil
abbrev B.slices_EqualFunc_Field_sameFields_f1.H4 := (List DField) × Unit × (List DField) × Int × Int × Unit
abbrev B.slices_EqualFunc_Field_sameFields_f1.E4 := Unit
def B.slices_EqualFunc_Field_sameFields_f1.st4 (Rc : B.slices_EqualFunc_Field_sameFields_f1.H4 → Option B.slices_EqualFunc_Field_sameFields_f1.R) (X : Nat → B.slices_EqualFunc_Field_sameFields_f1.E4 → Option B.slices_EqualFunc_Field_sameFields_f1.R) (x : B.slices_EqualFunc_Field_sameFields_f1.H4) : Option B.slices_EqualFunc_Field_sameFields_f1.R :=
  bif decide (x.2.2.2.2.1 < x.2.2.2.1) then
    ck (decide (0 ≤ x.2.2.2.2.1) && decide (x.2.2.2.2.1 < (List.length x.2.2.1 : Int))) <|
    ck (decide (0 ≤ x.2.2.2.2.1) && decide (x.2.2.2.2.1 < (List.length x.1 : Int))) <|
    (I.sameFields_f1 (((x.2.2.1.getD (Int.toNat x.2.2.2.2.1) zField).1, (x.2.2.1.getD (Int.toNat x.2.2.2.2.1) zField).2.1, (x.2.2.1.getD (Int.toNat x.2.2.2.2.1) zField).2.2.1, ()), ((x.1.getD (Int.toNat x.2.2.2.2.1) zField).1, (x.1.getD (Int.toNat x.2.2.2.2.1) zField).2.1, (x.1.getD (Int.toNat x.2.2.2.2.1) zField).2.2.1, ()), ())).bind fun r1 =>
    bif !r1.1 then some (false, ((), (), (), ())) else
    Rc (x.1, (), x.2.2.1, x.2.2.2.1, (wr .i64 (x.2.2.2.2.1 + 1)), ())
  else
  X 0 ()

def B.slices_EqualFunc_Field_sameFields_f1.l4 (x : B.slices_EqualFunc_Field_sameFields_f1.H4) (X : Nat → B.slices_EqualFunc_Field_sameFields_f1.E4 → Option B.slices_EqualFunc_Field_sameFields_f1.R) : Option B.slices_EqualFunc_Field_sameFields_f1.R := rounds (B.slices_EqualFunc_Field_sameFields_f1.st4) big X x
def B.slices_EqualFunc_Field_sameFields_f1.lo4 : LoopO (DenF B.slices_EqualFunc_Field_sameFields_f1.fr × DenB B.slices_EqualFunc_Field_sameFields_f1.fa) := ⟨[1, 2, 15, 16, 17], B.slices_EqualFunc_Field_sameFields_f1.h4, [], B.slices_EqualFunc_Field_sameFields_f1.e4, B.slices_EqualFunc_Field_sameFields_f1.l4⟩
def B.slices_EqualFunc_Field_sameFields_f1.p (l4 : B.slices_EqualFunc_Field_sameFields_f1.H4 → (Nat → B.slices_EqualFunc_Field_sameFields_f1.E4 → Option B.slices_EqualFunc_Field_sameFields_f1.R) → Option B.slices_EqualFunc_Field_sameFields_f1.R) (x : B.slices_EqualFunc_Field_sameFields_f1.A) : Option B.slices_EqualFunc_Field_sameFields_f1.R :=
  bif (List.length x.1 : Int) != (List.length x.2.1 : Int) then some (false, ((), (), (), ())) else
  l4 (x.2.1, (), x.1, (List.length x.1 : Int), 0, ()) (fun i4 y4 =>
    bif Nat.beq i4 0 then some (true, ((), (), (), ())) else
    none)

def B.slices_EqualFunc_Field_sameFields_f1 (x : B.slices_EqualFunc_Field_sameFields_f1.A) : Option B.slices_EqualFunc_Field_sameFields_f1.R := B.slices_EqualFunc_Field_sameFields_f1.p B.slices_EqualFunc_Field_sameFields_f1.l4 x
def B.slices_EqualFunc_Field_sameFields_f1.spec : Spec := ⟨B.slices_EqualFunc_Field_sameFields_f1.fa, B.slices_EqualFunc_Field_sameFields_f1.fr, B.slices_EqualFunc_Field_sameFields_f1⟩

/-! loop.example/s01316/impl.sameFields -/
def I.sameFields.fa : Fm := (.cons (.sl 32 c23) (.cons (.sl 32 c23) .nil))
def I.sameFields.fr : Fm := .bool
abbrev I.sameFields.A := (List DField) × (List DField) × Unit
abbrev I.sameFields.R := Bool × (Unit × Unit × Unit)
def I.sameFields.o : Orc := [(199, B.slices_EqualFunc_Field_sameFields_f1.spec)]
def I.sameFields (x : I.sameFields.A) : Option I.sameFields.R :=
  (B.slices_EqualFunc_Field_sameFields_f1 (x.1, x.2.1, (), ())).bind fun r1 =>
  some (r1.1, ((), (), ()))

def I.sameFields.spec : Spec := ⟨I.sameFields.fa, I.sameFields.fr, I.sameFields⟩

/-! loop.example/s01316/impl.ValidSender -/
def I.ValidSender.fa : Fm := (.cons (.agg (.cons (.sl 32 c23) (.cons (.int .i64) (.cons (.int .i64) (.cons (.sl 186 c186) (.cons (.int .i64) (.cons (.int .i64) (.cons (.int .i64) (.cons (.int .i64) (.cons (.sl 160 c160) (.cons .bool (.cons (.sl 32 c23) (.cons (.int .i64) (.cons (.sl 26 (.sl 22 (.sl 5 (.int .u8)))) .nil)))))))))))))) .nil)
def I.ValidSender.fr : Fm := .bool
abbrev I.ValidSender.A := ((List DField) × Int × Int × (List DTable) × Int × Int × Int × Int × (List DSent) × Bool × (List DField) × Int × (List (List (List Int))) × Unit) × Unit
abbrev I.ValidSender.R := Bool × ((Unit × Unit × Unit × Unit × Unit × Unit × Unit × Unit × Unit × Unit × Unit × Unit × Unit × Unit) × Unit)
def I.ValidSender.o : Orc := [(95, I.ValidOut.spec), (129, I.ValidStream.spec), (130, B.slices_ContainsFunc_Table_ValidSender_f1.spec), (140, I.ValidFields.spec), (142, I.sameFields.spec)]
def I.ValidSender (x : I.ValidSender.A) : Option I.ValidSender.R :=
  (I.ValidFields (x.1.1, ())).bind fun r1 =>
  bif (!r1.1) == false then
    bif (decide (x.1.2.1 < 1)) == false then
      bif (decide (x.1.2.1 > 1000000000)) == false then
        bif (x.1.2.2.2.2.2.1 != x.1.2.1) == false then
          (I.ValidOut ((x.1.2.2.2.2.2.1, x.1.2.2.2.2.2.2.1, x.1.2.2.2.2.2.2.2.1, x.1.2.2.2.2.2.2.2.2.1, ()), ())).bind fun r2 =>
          bif (!r2.1) == false then
            bif (decide (x.1.2.2.1 < 0)) == false then
              bif decide (x.1.2.2.1 > 1000000000) then
                some (false, (((), (), (), (), (), (), (), (), (), (), (), (), (), ()), ()))
              else
              bif (decide ((List.length x.1.2.2.2.1 : Int) > 20)) == false then
                let v3 : Int := wr .i64 (x.1.2.2.1 + (List.length x.1.2.2.2.1 : Int))
                bif (decide (v3 > 1000000000)) == false then
                  bif (decide (x.1.2.2.2.2.1 < 0)) == false then
                    bif (decide (x.1.2.2.2.2.1 > (List.length x.1.2.2.2.1 : Int))) == false then
                      (B.slices_ContainsFunc_Table_ValidSender_f1 (x.1.2.2.2.1, ((x.1.1, (x.1.2.1, (x.1.2.2.1, (x.1.2.2.2.1, (x.1.2.2.2.2.1, ((x.1.2.2.2.2.2.1, (x.1.2.2.2.2.2.2.1, (x.1.2.2.2.2.2.2.2.1, (x.1.2.2.2.2.2.2.2.2.1, ())))), ((x.1.2.2.2.2.2.2.2.2.2.1, (x.1.2.2.2.2.2.2.2.2.2.2.1, (x.1.2.2.2.2.2.2.2.2.2.2.2.1, (x.1.2.2.2.2.2.2.2.2.2.2.2.2.1, ())))), ()))))))), ()), ())).bind fun r4 =>
                      bif r4.1 then
                        some (false, (((), (), (), (), (), (), (), (), (), (), (), (), (), ()), ()))
                      else
                      (I.ValidStream ((x.1.2.2.2.2.2.2.2.2.2.1, x.1.2.2.2.2.2.2.2.2.2.2.1, x.1.2.2.2.2.2.2.2.2.2.2.2.1, x.1.2.2.2.2.2.2.2.2.2.2.2.2.1, ()), ())).bind fun r5 =>
                      bif r5.1 == true then
                        bif x.1.2.2.2.2.2.2.2.2.2.1 == true then
                          (I.sameFields (x.1.2.2.2.2.2.2.2.2.2.2.1, x.1.1, ())).bind fun r6 =>
                          bif r6.1 == true then
                            let v7 : Int := wr .i64 (x.1.2.2.1 + x.1.2.2.2.2.1)
                            some (x.1.2.2.2.2.2.2.2.2.2.2.2.1 == v7, (((), (), (), (), (), (), (), (), (), (), (), (), (), ()), ()))
                          else
                          some (false, (((), (), (), (), (), (), (), (), (), (), (), (), (), ()), ()))
                        else
                        some (false, (((), (), (), (), (), (), (), (), (), (), (), (), (), ()), ()))
                      else
                      some (false, (((), (), (), (), (), (), (), (), (), (), (), (), (), ()), ()))
                    else
                    some (false, (((), (), (), (), (), (), (), (), (), (), (), (), (), ()), ()))
                  else
                  some (false, (((), (), (), (), (), (), (), (), (), (), (), (), (), ()), ()))
                else
                some (false, (((), (), (), (), (), (), (), (), (), (), (), (), (), ()), ()))
              else
              some (false, (((), (), (), (), (), (), (), (), (), (), (), (), (), ()), ()))
            else
            some (false, (((), (), (), (), (), (), (), (), (), (), (), (), (), ()), ()))
          else
          some (false, (((), (), (), (), (), (), (), (), (), (), (), (), (), ()), ()))
        else
        some (false, (((), (), (), (), (), (), (), (), (), (), (), (), (), ()), ()))
      else
      some (false, (((), (), (), (), (), (), (), (), (), (), (), (), (), ()), ()))
    else
    some (false, (((), (), (), (), (), (), (), (), (), (), (), (), (), ()), ()))
  else
  some (false, (((), (), (), (), (), (), (), (), (), (), (), (), (), ()), ()))

def I.ValidSender.spec : Spec := ⟨I.ValidSender.fa, I.ValidSender.fr, I.ValidSender⟩

/-! loop.example/s01316/laws.eqSent -/
def L.eqSent.fa : Fm := (.cons (.agg (.cons (.int .i64) (.cons (.int .i64) (.cons (.int .i64) (.cons (.int .i64) (.cons .bool (.cons (.sl 5 (.int .u8)) (.cons (.int .i64) .nil)))))))) (.cons (.agg (.cons (.int .i64) (.cons (.int .i64) (.cons (.int .i64) (.cons (.int .i64) (.cons .bool (.cons (.sl 5 (.int .u8)) (.cons (.int .i64) .nil)))))))) .nil))
def L.eqSent.fr : Fm := .bool
abbrev L.eqSent.A := (Int × Int × Int × Int × Bool × (List Int) × Int × Unit) × (Int × Int × Int × Int × Bool × (List Int) × Int × Unit) × Unit
abbrev L.eqSent.R := Bool × ((Unit × Unit × Unit × Unit × Unit × Unit × Unit × Unit) × (Unit × Unit × Unit × Unit × Unit × Unit × Unit × Unit) × Unit)
def L.eqSent.o : Orc := [(42, L.eqPacket.spec)]
def L.eqSent (x : L.eqSent.A) : Option L.eqSent.R :=
  (L.eqPacket ((x.1.1, x.1.2.1, x.1.2.2.1, x.1.2.2.2.1, x.1.2.2.2.2.1, x.1.2.2.2.2.2.1, ()), (x.2.1.1, x.2.1.2.1, x.2.1.2.2.1, x.2.1.2.2.2.1, x.2.1.2.2.2.2.1, x.2.1.2.2.2.2.2.1, ()), ())).bind fun r1 =>
  bif !r1.1 then
    some (false, (((), (), (), (), (), (), (), ()), ((), (), (), (), (), (), (), ()), ()))
  else
  bif x.1.2.2.2.2.2.2.1 != x.2.1.2.2.2.2.2.2.1 then
    some (false, (((), (), (), (), (), (), (), ()), ((), (), (), (), (), (), (), ()), ()))
  else
  some (true, (((), (), (), (), (), (), (), ()), ((), (), (), (), (), (), (), ()), ()))

def L.eqSent.spec : Spec := ⟨L.eqSent.fa, L.eqSent.fr, L.eqSent⟩

/-! loop.example/s01316/laws.eqSentS -/
def L.eqSentS.fa : Fm := (.cons (.sl 160 c160) (.cons (.sl 160 c160) .nil))
def L.eqSentS.fr : Fm := .bool
abbrev L.eqSentS.A := (List DSent) × (List DSent) × Unit
abbrev L.eqSentS.R := Bool × (Unit × Unit × Unit)
def L.eqSentS.o : Orc := [(238, L.eqSent.spec)]
def L.eqSentS.h4 : Fm := (.cons (.sl 160 c160) (.cons (.sl 160 c160) (.cons (.int .i64) .nil)))
def L.eqSentS.e4 : Fm := .nil
abbrev L.eqSentS.H4 := (List DSent) × (List DSent) × Int × Unit
abbrev L.eqSentS.E4 := Unit
def L.eqSentS.st4 (Rc : L.eqSentS.H4 → Option L.eqSentS.R) (X : Nat → L.eqSentS.E4 → Option L.eqSentS.R) (x : L.eqSentS.H4) : Option L.eqSentS.R :=
  bif decide (x.2.2.1 < (List.length x.1 : Int)) then
    ck (decide (0 ≤ x.2.2.1) && decide (x.2.2.1 < (List.length x.1 : Int))) <|
    ck (decide (0 ≤ x.2.2.1) && decide (x.2.2.1 < (List.length x.2.1 : Int))) <|
    (L.eqSent (((x.1.getD (Int.toNat x.2.2.1) zSent).1.1, (x.1.getD (Int.toNat x.2.2.1) zSent).1.2.1, (x.1.getD (Int.toNat x.2.2.1) zSent).1.2.2.1, (x.1.getD (Int.toNat x.2.2.1) zSent).1.2.2.2.1, (x.1.getD (Int.toNat x.2.2.1) zSent).1.2.2.2.2.1, (x.1.getD (Int.toNat x.2.2.1) zSent).1.2.2.2.2.2.1, (x.1.getD (Int.toNat x.2.2.1) zSent).2.1, ()), ((x.2.1.getD (Int.toNat x.2.2.1) zSent).1.1, (x.2.1.getD (Int.toNat x.2.2.1) zSent).1.2.1, (x.2.1.getD (Int.toNat x.2.2.1) zSent).1.2.2.1, (x.2.1.getD (Int.toNat x.2.2.1) zSent).1.2.2.2.1, (x.2.1.getD (Int.toNat x.2.2.1) zSent).1.2.2.2.2.1, (x.2.1.getD (Int.toNat x.2.2.1) zSent).1.2.2.2.2.2.1, (x.2.1.getD (Int.toNat x.2.2.1) zSent).2.1, ()), ())).bind fun r1 =>
    bif !r1.1 then some (false, ((), (), ())) else
    Rc (x.1, x.2.1, (wr .i64 (x.2.2.1 + 1)), ())
  else
  X 0 ()

def L.eqSentS.l4 (x : L.eqSentS.H4) (X : Nat → L.eqSentS.E4 → Option L.eqSentS.R) : Option L.eqSentS.R := rounds (L.eqSentS.st4) big X x
def L.eqSentS.lo4 : LoopO (DenF L.eqSentS.fr × DenB L.eqSentS.fa) := ⟨[0, 1, 5], L.eqSentS.h4, [], L.eqSentS.e4, L.eqSentS.l4⟩
def L.eqSentS.p (l4 : L.eqSentS.H4 → (Nat → L.eqSentS.E4 → Option L.eqSentS.R) → Option L.eqSentS.R) (x : L.eqSentS.A) : Option L.eqSentS.R :=
  bif (List.length x.1 : Int) != (List.length x.2.1 : Int) then some (false, ((), (), ())) else
  l4 (x.1, x.2.1, 0, ()) (fun i4 y4 =>
    bif Nat.beq i4 0 then some (true, ((), (), ())) else
    none)

def L.eqSentS (x : L.eqSentS.A) : Option L.eqSentS.R := L.eqSentS.p L.eqSentS.l4 x
def L.eqSentS.spec : Spec := ⟨L.eqSentS.fa, L.eqSentS.fr, L.eqSentS⟩

/-! loop.example/s01316/laws.eqLinkOut -/
def L.eqLinkOut.fa : Fm := (.cons (.agg (.cons (.int .i64) (.cons (.int .i64) (.cons (.int .i64) (.cons (.sl 160 c160) .nil))))) (.cons (.agg (.cons (.int .i64) (.cons (.int .i64) (.cons (.int .i64) (.cons (.sl 160 c160) .nil))))) .nil))
def L.eqLinkOut.fr : Fm := .bool
abbrev L.eqLinkOut.A := (Int × Int × Int × (List DSent) × Unit) × (Int × Int × Int × (List DSent) × Unit) × Unit
abbrev L.eqLinkOut.R := Bool × ((Unit × Unit × Unit × Unit × Unit) × (Unit × Unit × Unit × Unit × Unit) × Unit)
def L.eqLinkOut.o : Orc := [(201, L.eqSentS.spec)]
def L.eqLinkOut (x : L.eqLinkOut.A) : Option L.eqLinkOut.R :=
  bif x.1.1 != x.2.1.1 then
    some (false, (((), (), (), (), ()), ((), (), (), (), ()), ()))
  else
  bif x.1.2.1 != x.2.1.2.1 then
    some (false, (((), (), (), (), ()), ((), (), (), (), ()), ()))
  else
  bif x.1.2.2.1 != x.2.1.2.2.1 then
    some (false, (((), (), (), (), ()), ((), (), (), (), ()), ()))
  else
  (L.eqSentS (x.1.2.2.2.1, x.2.1.2.2.2.1, ())).bind fun r1 =>
  bif !r1.1 then
    some (false, (((), (), (), (), ()), ((), (), (), (), ()), ()))
  else
  some (true, (((), (), (), (), ()), ((), (), (), (), ()), ()))

def L.eqLinkOut.spec : Spec := ⟨L.eqLinkOut.fa, L.eqLinkOut.fr, L.eqLinkOut⟩

/-! loop.example/s01316/laws.eqSender -/
def L.eqSender.fa : Fm := (.cons (.agg (.cons (.sl 32 c23) (.cons (.int .i64) (.cons (.int .i64) (.cons (.sl 186 c186) (.cons (.int .i64) (.cons (.int .i64) (.cons (.int .i64) (.cons (.int .i64) (.cons (.sl 160 c160) (.cons .bool (.cons (.sl 32 c23) (.cons (.int .i64) (.cons (.sl 26 (.sl 22 (.sl 5 (.int .u8)))) .nil)))))))))))))) (.cons (.agg (.cons (.sl 32 c23) (.cons (.int .i64) (.cons (.int .i64) (.cons (.sl 186 c186) (.cons (.int .i64) (.cons (.int .i64) (.cons (.int .i64) (.cons (.int .i64) (.cons (.sl 160 c160) (.cons .bool (.cons (.sl 32 c23) (.cons (.int .i64) (.cons (.sl 26 (.sl 22 (.sl 5 (.int .u8)))) .nil)))))))))))))) .nil))
def L.eqSender.fr : Fm := .bool
abbrev L.eqSender.A := ((List DField) × Int × Int × (List DTable) × Int × Int × Int × Int × (List DSent) × Bool × (List DField) × Int × (List (List (List Int))) × Unit) × ((List DField) × Int × Int × (List DTable) × Int × Int × Int × Int × (List DSent) × Bool × (List DField) × Int × (List (List (List Int))) × Unit) × Unit
abbrev L.eqSender.R := Bool × ((Unit × Unit × Unit × Unit × Unit × Unit × Unit × Unit × Unit × Unit × Unit × Unit × Unit × Unit) × (Unit × Unit × Unit × Unit × Unit × Unit × Unit × Unit × Unit × Unit × Unit × Unit × Unit × Unit) × Unit)
def L.eqSender.o : Orc := [(60, L.eqFieldS.spec), (133, L.eqStream.spec), (134, L.eqTableS.spec), (143, L.eqLinkOut.spec)]
def L.eqSender (x : L.eqSender.A) : Option L.eqSender.R :=
  (L.eqFieldS (x.1.1, x.2.1.1, ())).bind fun r1 =>
  bif !r1.1 then
    some (false, (((), (), (), (), (), (), (), (), (), (), (), (), (), ()), ((), (), (), (), (), (), (), (), (), (), (), (), (), ()), ()))
  else
  bif x.1.2.1 != x.2.1.2.1 then
    some (false, (((), (), (), (), (), (), (), (), (), (), (), (), (), ()), ((), (), (), (), (), (), (), (), (), (), (), (), (), ()), ()))
  else
  bif x.1.2.2.1 != x.2.1.2.2.1 then
    some (false, (((), (), (), (), (), (), (), (), (), (), (), (), (), ()), ((), (), (), (), (), (), (), (), (), (), (), (), (), ()), ()))
  else
  (L.eqTableS (x.1.2.2.2.1, x.2.1.2.2.2.1, ())).bind fun r2 =>
  bif !r2.1 then
    some (false, (((), (), (), (), (), (), (), (), (), (), (), (), (), ()), ((), (), (), (), (), (), (), (), (), (), (), (), (), ()), ()))
  else
  bif x.1.2.2.2.2.1 != x.2.1.2.2.2.2.1 then
    some (false, (((), (), (), (), (), (), (), (), (), (), (), (), (), ()), ((), (), (), (), (), (), (), (), (), (), (), (), (), ()), ()))
  else
  (L.eqLinkOut ((x.1.2.2.2.2.2.1, x.1.2.2.2.2.2.2.1, x.1.2.2.2.2.2.2.2.1, x.1.2.2.2.2.2.2.2.2.1, ()), (x.2.1.2.2.2.2.2.1, x.2.1.2.2.2.2.2.2.1, x.2.1.2.2.2.2.2.2.2.1, x.2.1.2.2.2.2.2.2.2.2.1, ()), ())).bind fun r3 =>
  bif !r3.1 then
    some (false, (((), (), (), (), (), (), (), (), (), (), (), (), (), ()), ((), (), (), (), (), (), (), (), (), (), (), (), (), ()), ()))
  else
  (L.eqStream ((x.1.2.2.2.2.2.2.2.2.2.1, x.1.2.2.2.2.2.2.2.2.2.2.1, x.1.2.2.2.2.2.2.2.2.2.2.2.1, x.1.2.2.2.2.2.2.2.2.2.2.2.2.1, ()), (x.2.1.2.2.2.2.2.2.2.2.2.1, x.2.1.2.2.2.2.2.2.2.2.2.2.1, x.2.1.2.2.2.2.2.2.2.2.2.2.2.1, x.2.1.2.2.2.2.2.2.2.2.2.2.2.2.1, ()), ())).bind fun r4 =>
  bif !r4.1 then
    some (false, (((), (), (), (), (), (), (), (), (), (), (), (), (), ()), ((), (), (), (), (), (), (), (), (), (), (), (), (), ()), ()))
  else
  some (true, (((), (), (), (), (), (), (), (), (), (), (), (), (), ()), ((), (), (), (), (), (), (), (), (), (), (), (), (), ()), ()))

def L.eqSender.spec : Spec := ⟨L.eqSender.fa, L.eqSender.fr, L.eqSender⟩

/-! loop.example/s01316/laws.FnExactValidSender -/
def L.FnExactValidSender.fa : Fm := (.cons (.agg (.cons (.sl 24 c23) (.cons (.int .i64) (.cons (.int .i64) (.cons (.sl 244 c244) (.cons (.int .i64) (.cons (.int .i64) (.cons (.int .i64) (.cons (.int .i64) (.cons (.sl 286 c160) (.cons .bool (.cons (.sl 24 c23) (.cons (.int .i64) (.cons (.sl 26 (.sl 22 (.sl 5 (.int .u8)))) .nil)))))))))))))) .nil)
def L.FnExactValidSender.fr : Fm := .bool
abbrev L.FnExactValidSender.A := ((List DField) × Int × Int × (List DTable) × Int × Int × Int × Int × (List DSent) × Bool × (List DField) × Int × (List (List (List Int))) × Unit) × Unit
abbrev L.FnExactValidSender.R := Bool × ((Unit × Unit × Unit × Unit × Unit × Unit × Unit × Unit × Unit × Unit × Unit × Unit × Unit × Unit) × Unit)
def L.FnExactValidSender.o : Orc := [(51, L.szSender.spec), (52, S.ValidSender.spec), (53, L.toSender.spec), (54, I.ValidSender.spec), (55, L.eqSender.spec)]
def L.FnExactValidSender (x : L.FnExactValidSender.A) : Option L.FnExactValidSender.R :=
  (L.szSender ((x.1.1, x.1.2.1, x.1.2.2.1, x.1.2.2.2.1, x.1.2.2.2.2.1, x.1.2.2.2.2.2.1, x.1.2.2.2.2.2.2.1, x.1.2.2.2.2.2.2.2.1, x.1.2.2.2.2.2.2.2.2.1, x.1.2.2.2.2.2.2.2.2.2.1, x.1.2.2.2.2.2.2.2.2.2.2.1, x.1.2.2.2.2.2.2.2.2.2.2.2.1, x.1.2.2.2.2.2.2.2.2.2.2.2.2.1, ()), 1048576, ())).bind fun r1 =>
  bif decide (r1.1 < 0) then
    some (true, (((), (), (), (), (), (), (), (), (), (), (), (), (), ()), ()))
  else
  (L.toSender ((x.1.1, x.1.2.1, x.1.2.2.1, x.1.2.2.2.1, x.1.2.2.2.2.1, x.1.2.2.2.2.2.1, x.1.2.2.2.2.2.2.1, x.1.2.2.2.2.2.2.2.1, x.1.2.2.2.2.2.2.2.2.1, x.1.2.2.2.2.2.2.2.2.2.1, x.1.2.2.2.2.2.2.2.2.2.2.1, x.1.2.2.2.2.2.2.2.2.2.2.2.1, x.1.2.2.2.2.2.2.2.2.2.2.2.2.1, ()), ())).bind fun r2 =>
  (S.ValidSender ((r2.1.1, r2.1.2.1, r2.1.2.2.1, r2.1.2.2.2.1, r2.1.2.2.2.2.1, r2.1.2.2.2.2.2.1, r2.1.2.2.2.2.2.2.1, r2.1.2.2.2.2.2.2.2.1, r2.1.2.2.2.2.2.2.2.2.1, r2.1.2.2.2.2.2.2.2.2.2.1, r2.1.2.2.2.2.2.2.2.2.2.2.1, r2.1.2.2.2.2.2.2.2.2.2.2.2.1, r2.1.2.2.2.2.2.2.2.2.2.2.2.2.1, ()), ())).bind fun r3 =>
  (L.toSender ((x.1.1, x.1.2.1, x.1.2.2.1, x.1.2.2.2.1, x.1.2.2.2.2.1, x.1.2.2.2.2.2.1, x.1.2.2.2.2.2.2.1, x.1.2.2.2.2.2.2.2.1, x.1.2.2.2.2.2.2.2.2.1, x.1.2.2.2.2.2.2.2.2.2.1, x.1.2.2.2.2.2.2.2.2.2.2.1, x.1.2.2.2.2.2.2.2.2.2.2.2.1, x.1.2.2.2.2.2.2.2.2.2.2.2.2.1, ()), ())).bind fun r4 =>
  (I.ValidSender ((r4.1.1, r4.1.2.1, r4.1.2.2.1, r4.1.2.2.2.1, r4.1.2.2.2.2.1, r4.1.2.2.2.2.2.1, r4.1.2.2.2.2.2.2.1, r4.1.2.2.2.2.2.2.2.1, r4.1.2.2.2.2.2.2.2.2.1, r4.1.2.2.2.2.2.2.2.2.2.1, r4.1.2.2.2.2.2.2.2.2.2.2.1, r4.1.2.2.2.2.2.2.2.2.2.2.2.1, r4.1.2.2.2.2.2.2.2.2.2.2.2.2.1, ()), ())).bind fun r5 =>
  bif !(r5.1 == r3.1) then
    some (false, (((), (), (), (), (), (), (), (), (), (), (), (), (), ()), ()))
  else
  (L.toSender ((x.1.1, x.1.2.1, x.1.2.2.1, x.1.2.2.2.1, x.1.2.2.2.2.1, x.1.2.2.2.2.2.1, x.1.2.2.2.2.2.2.1, x.1.2.2.2.2.2.2.2.1, x.1.2.2.2.2.2.2.2.2.1, x.1.2.2.2.2.2.2.2.2.2.1, x.1.2.2.2.2.2.2.2.2.2.2.1, x.1.2.2.2.2.2.2.2.2.2.2.2.1, x.1.2.2.2.2.2.2.2.2.2.2.2.2.1, ()), ())).bind fun r6 =>
  (L.eqSender ((r4.1.1, r4.1.2.1, r4.1.2.2.1, r4.1.2.2.2.1, r4.1.2.2.2.2.1, r4.1.2.2.2.2.2.1, r4.1.2.2.2.2.2.2.1, r4.1.2.2.2.2.2.2.2.1, r4.1.2.2.2.2.2.2.2.2.1, r4.1.2.2.2.2.2.2.2.2.2.1, r4.1.2.2.2.2.2.2.2.2.2.2.1, r4.1.2.2.2.2.2.2.2.2.2.2.2.1, r4.1.2.2.2.2.2.2.2.2.2.2.2.2.1, ()), (r6.1.1, r6.1.2.1, r6.1.2.2.1, r6.1.2.2.2.1, r6.1.2.2.2.2.1, r6.1.2.2.2.2.2.1, r6.1.2.2.2.2.2.2.1, r6.1.2.2.2.2.2.2.2.1, r6.1.2.2.2.2.2.2.2.2.1, r6.1.2.2.2.2.2.2.2.2.2.1, r6.1.2.2.2.2.2.2.2.2.2.2.1, r6.1.2.2.2.2.2.2.2.2.2.2.2.1, r6.1.2.2.2.2.2.2.2.2.2.2.2.2.1, ()), ())).bind fun r7 =>
  bif !r7.1 then
    some (false, (((), (), (), (), (), (), (), (), (), (), (), (), (), ()), ()))
  else
  some (true, (((), (), (), (), (), (), (), (), (), (), (), (), (), ()), ()))

def L.FnExactValidSender.spec : Spec := ⟨L.FnExactValidSender.fa, L.FnExactValidSender.fr, L.FnExactValidSender⟩
end Go.Ev

