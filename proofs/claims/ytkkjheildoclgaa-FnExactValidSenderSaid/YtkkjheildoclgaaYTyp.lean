/- A text of the claim, printed by a program: functions that the law reaches, as Lean functions, and that they are so. -/
import Derived.Test.YtkkjheildoclgaaEd
set_option linter.all false
set_option linter.unusedVariables false
set_option linter.unusedSimpArgs false
set_option autoImplicit false
namespace Go.Ev
def c7 : CT := .cons (.int .i64) (.cons (.int .i64) (.cons .bool (.cons (.int .u8) .nil)))
def c13 : CT := .cons .str (.cons (.int .u64) .nil)
def c230 : CT := .cons (.int .i64) .nil
def c23 : CT := .cons (.sl 5 (.int .u8)) (.cons (.int .i64) c230)
def c131 : CT := .cons .bool (.cons (.int .i64) (.cons (.sl 5 (.int .u8)) .nil))
def c55 : CT := .cons (.int .i64) (.cons (.int .i64) (.cons (.int .i64) (.cons (.int .i64) (.cons .bool (.cons (.sl 5 (.int .u8)) .nil)))))
def c160 : CT := .cons c55 c230
def c153 : CT := .cons (.sl 160 c160) .nil
def c45 : CT := .cons (.int .i64) (.cons (.int .i64) (.cons (.int .i64) c153))
def c48 : CT := .cons (.int .i64) (.cons (.int .i64) (.cons (.sl 55 c55) (.cons (.sl 5 (.int .u8)) .nil)))
def c65 : CT := .cons (.int .i64) (.cons (.int .i64) (.cons (.sl 67 c55) (.cons (.sl 5 (.int .u8)) .nil)))
def c79 : CT := .cons .bool (.cons (.sl 24 c23) (.cons (.int .i64) (.cons (.sl 26 (.sl 22 (.sl 5 (.int .u8)))) .nil)))
def c244 : CT := .cons (.int .i64) (.cons (.sl 131 c131) .nil)
def c82 : CT := .cons (.int .i64) (.cons (.int .i64) (.cons .bool (.cons c65 (.cons c79 (.cons (.sl 244 c244) c230)))))
def c87 : CT := .cons .bool (.cons (.sl 32 c23) (.cons (.int .i64) (.cons (.sl 26 (.sl 22 (.sl 5 (.int .u8)))) .nil)))
def c186 : CT := .cons (.int .i64) (.cons (.sl 137 c131) .nil)
def c90 : CT := .cons (.int .i64) (.cons (.int .i64) (.cons .bool (.cons c48 (.cons c87 (.cons (.sl 186 c186) c230)))))
def c96 : CT := .cons (.int .i64) (.cons (.int .i64) (.cons (.int .i64) (.cons (.sl 286 c160) .nil)))
def c98 : CT := .cons (.sl 24 c23) (.cons (.int .i64) (.cons (.int .i64) (.cons (.sl 244 c244) (.cons (.int .i64) (.cons c96 (.cons c79 .nil))))))
def c102 : CT := .cons (.sl 32 c23) (.cons (.int .i64) (.cons (.int .i64) (.cons (.sl 186 c186) (.cons (.int .i64) (.cons c45 (.cons c87 .nil))))))
def c235 : CT := .cons (.sl 22 (.sl 5 (.int .u8))) .nil
def c117 : CT := .cons (.int .i64) (.cons (.sl 22 (.sl 5 (.int .u8))) c235)
def c233 : CT := .cons .nil .nil
def c260 : CT := .cons (.sl 5 (.int .u8)) c230
def c289 : CT := .cons (.int .i64) (.cons (.int .i64) (.cons (.int .i64) c235))
abbrev DboundsError := Int × Int × Bool × Int × Unit
abbrev zboundsError : DboundsError := (0, 0, false, 0, ())
abbrev DerrorAddressString := ByteArray × Int × Unit
abbrev zerrorAddressString : DerrorAddressString := (ByteArray.empty, 0, ())
abbrev Dnumbers := Int × Unit
abbrev znumbers : Dnumbers := (0, ())
abbrev DField := (List Int) × Int × Int × Unit
abbrev zField : DField := ([], 0, 0, ())
abbrev DCell := Bool × Int × (List Int) × Unit
abbrev zCell : DCell := (false, 0, [], ())
abbrev DPacket := Int × Int × Int × Int × Bool × (List Int) × Unit
abbrev zPacket : DPacket := (0, 0, 0, 0, false, [], ())
abbrev DSent := DPacket × Int × Unit
abbrev zSent : DSent := (zPacket, 0, ())
abbrev Dqueue := (List DSent) × Unit
abbrev zqueue : Dqueue := ([], ())
abbrev DLinkOut := Int × Int × Int × (List DSent) × Unit
abbrev zLinkOut : DLinkOut := (0, 0, 0, [], ())
abbrev DLinkIn := Int × Int × (List DPacket) × (List Int) × Unit
abbrev zLinkIn : DLinkIn := (0, 0, [], [], ())
abbrev DStream := Bool × (List DField) × Int × (List (List (List Int))) × Unit
abbrev zStream : DStream := (false, [], 0, [], ())
abbrev DTable := Int × (List DCell) × Unit
abbrev zTable : DTable := (0, [], ())
abbrev DReceiver := Int × Int × Bool × DLinkIn × DStream × (List DTable) × Int × Unit
abbrev zReceiver : DReceiver := (0, 0, false, zLinkIn, zStream, [], 0, ())
abbrev DSender := (List DField) × Int × Int × (List DTable) × Int × DLinkOut × DStream × Unit
abbrev zSender : DSender := ([], 0, 0, [], 0, zLinkOut, zStream, ())
abbrev Dplaces := (List (List Int)) × Unit
abbrev zplaces : Dplaces := ([], ())
abbrev DPlan := Int × (List (List Int)) × (List (List Int)) × Unit
abbrev zPlan : DPlan := (0, [], [], ())
abbrev Dtexts := Unit × Unit
abbrev ztexts : Dtexts := ((), ())
abbrev Dl1rd := (List Int) × Int × Unit
abbrev zl1rd : Dl1rd := ([], 0, ())
abbrev DMessage := Int × Int × Int × (List (List Int)) × Unit
abbrev zMessage : DMessage := (0, 0, 0, [], ())
abbrev wr (k : IntKind) (n : Int) : Int := k.wrap n
def ck {α : Type} (c : Bool) (k : Option α) : Option α := bif c then k else none
def big : Nat := 18446744073709551616
def ishl (k : IntKind) (a b : Int) : Int := k.wrap (a * 2 ^ (min b.toNat k.bits))
def ishr (k : IntKind) (a b : Int) : Int := a.fdiv (2 ^ (min b.toNat k.bits))
def iand (k : IntKind) (a b : Int) : Int := k.wrap (BitVec.ofInt k.bits a &&& BitVec.ofInt k.bits b).toNat
def ior (k : IntKind) (a b : Int) : Int := k.wrap (BitVec.ofInt k.bits a ||| BitVec.ofInt k.bits b).toNat
def ixor (k : IntKind) (a b : Int) : Int := k.wrap (BitVec.ofInt k.bits a ^^^ BitVec.ofInt k.bits b).toNat
end Go.Ev

