/- The kinds of data that the law reads, and facts on types. -/
import Derived.Test.YtefclodjekeeiaaGreatDoorMi
import Derived.Test.YtefclodjekeeiaaGreatDoorProg
import Derived.Test.YtefclodjekeeiaaGreatDoorSyShort
namespace Go.Proofs.YtefclodjekeeiaaGreatDoor
open Go Go.Sy Go.RowKit
set_option linter.unusedVariables false
theorem en4 : Enters Tryz.prog 4 := fun _ _ => by kernel_rfl
theorem en5 : Enters Tryz.prog 5 := fun _ _ => by kernel_rfl
theorem en6 : Enters Tryz.prog 6 := fun _ _ => by kernel_rfl
theorem en7 : Enters Tryz.prog 7 := fun _ _ => by kernel_rfl
theorem en8 : Enters Tryz.prog 8 := fun _ _ => by kernel_rfl
theorem en9 : Enters Tryz.prog 9 := fun _ _ => by kernel_rfl
theorem en10 : Enters Tryz.prog 10 := fun _ _ => by kernel_rfl
theorem en11 : Enters Tryz.prog 11 := fun _ _ => by kernel_rfl
theorem en12 : Enters Tryz.prog 12 := fun _ _ => by kernel_rfl
theorem en13 : Enters Tryz.prog 13 := fun _ _ => by kernel_rfl
theorem en14 : Enters Tryz.prog 14 := fun _ _ => by kernel_rfl
theorem en15 : Enters Tryz.prog 15 := fun _ _ => by kernel_rfl
theorem en16 : Enters Tryz.prog 16 := fun _ _ => by kernel_rfl
theorem en17 : Enters Tryz.prog 17 := fun _ _ => by kernel_rfl
theorem en18 : Enters Tryz.prog 18 := fun _ _ => by kernel_rfl
theorem en19 : Enters Tryz.prog 19 := fun _ _ => by kernel_rfl
theorem en20 : Enters Tryz.prog 20 := fun _ _ => by kernel_rfl
theorem en21 : Enters Tryz.prog 21 := fun _ _ => by kernel_rfl
theorem en22 : Enters Tryz.prog 22 := fun _ _ => by kernel_rfl
theorem en23 : Enters Tryz.prog 23 := fun _ _ => by kernel_rfl
theorem en24 : Enters Tryz.prog 24 := fun _ _ => by kernel_rfl
theorem en25 : Enters Tryz.prog 25 := fun _ _ => by kernel_rfl
theorem en26 : Enters Tryz.prog 26 := fun _ _ => by kernel_rfl
theorem en27 : Enters Tryz.prog 27 := fun _ _ => by kernel_rfl
theorem en28 : Enters Tryz.prog 28 := fun _ _ => by kernel_rfl
theorem en29 : Enters Tryz.prog 29 := fun _ _ => by kernel_rfl
theorem en30 : Enters Tryz.prog 30 := fun _ _ => by kernel_rfl
theorem en31 : Enters Tryz.prog 31 := fun _ _ => by kernel_rfl
theorem en32 : Enters Tryz.prog 32 := fun _ _ => by kernel_rfl
theorem en33 : Enters Tryz.prog 33 := fun _ _ => by kernel_rfl
theorem en34 : Enters Tryz.prog 34 := fun _ _ => by kernel_rfl
theorem en35 : Enters Tryz.prog 35 := fun _ _ => by kernel_rfl
theorem en36 : Enters Tryz.prog 36 := fun _ _ => by kernel_rfl
theorem en37 : Enters Tryz.prog 37 := fun _ _ => by kernel_rfl
theorem en38 : Enters Tryz.prog 38 := fun _ _ => by kernel_rfl
theorem en39 : Enters Tryz.prog 39 := fun _ _ => by kernel_rfl
theorem en40 : Enters Tryz.prog 40 := fun _ _ => by kernel_rfl
theorem en41 : Enters Tryz.prog 41 := fun _ _ => by kernel_rfl
theorem en42 : Enters Tryz.prog 42 := fun _ _ => by kernel_rfl
theorem en43 : Enters Tryz.prog 43 := fun _ _ => by kernel_rfl
theorem en44 : Enters Tryz.prog 44 := fun _ _ => by kernel_rfl
theorem en45 : Enters Tryz.prog 45 := fun _ _ => by kernel_rfl
theorem en47 : Enters Tryz.prog 47 := fun _ _ => by kernel_rfl
theorem en48 : Enters Tryz.prog 48 := fun _ _ => by kernel_rfl
theorem en49 : Enters Tryz.prog 49 := fun _ _ => by kernel_rfl
theorem en50 : Enters Tryz.prog 50 := fun _ _ => by kernel_rfl
theorem en51 : Enters Tryz.prog 51 := fun _ _ => by kernel_rfl
theorem en52 : Enters Tryz.prog 52 := fun _ _ => by kernel_rfl
theorem en53 : Enters Tryz.prog 53 := fun _ _ => by kernel_rfl
theorem en54 : Enters Tryz.prog 54 := fun _ _ => by kernel_rfl
theorem en55 : Enters Tryz.prog 55 := fun _ _ => by kernel_rfl
theorem en56 : Enters Tryz.prog 56 := fun _ _ => by kernel_rfl
theorem en57 : Enters Tryz.prog 57 := fun _ _ => by kernel_rfl
theorem en58 : Enters Tryz.prog 58 := fun _ _ => by kernel_rfl
theorem en59 : Enters Tryz.prog 59 := fun _ _ => by kernel_rfl
theorem en60 : Enters Tryz.prog 60 := fun _ _ => by kernel_rfl
theorem en61 : Enters Tryz.prog 61 := fun _ _ => by kernel_rfl
theorem en62 : Enters Tryz.prog 62 := fun _ _ => by kernel_rfl
theorem en63 : Enters Tryz.prog 63 := fun _ _ => by kernel_rfl
theorem en64 : Enters Tryz.prog 64 := fun _ _ => by kernel_rfl
theorem en65 : Enters Tryz.prog 65 := fun _ _ => by kernel_rfl
theorem en66 : Enters Tryz.prog 66 := fun _ _ => by kernel_rfl
theorem en73 : Enters Tryz.prog 73 := fun _ _ => by kernel_rfl
theorem en74 : Enters Tryz.prog 74 := fun _ _ => by kernel_rfl
theorem en75 : Enters Tryz.prog 75 := fun _ _ => by kernel_rfl
theorem en76 : Enters Tryz.prog 76 := fun _ _ => by kernel_rfl
theorem en77 : Enters Tryz.prog 77 := fun _ _ => by kernel_rfl
theorem en80 : Enters Tryz.prog 80 := fun _ _ => by kernel_rfl
theorem en81 : Enters Tryz.prog 81 := fun _ _ => by kernel_rfl
theorem en82 : Enters Tryz.prog 82 := fun _ _ => by kernel_rfl
theorem en83 : Enters Tryz.prog 83 := fun _ _ => by kernel_rfl
theorem en84 : Enters Tryz.prog 84 := fun _ _ => by kernel_rfl
theorem en93 : Enters Tryz.prog 93 := fun _ _ => by kernel_rfl
theorem en99 : Enters Tryz.prog 99 := fun _ _ => by kernel_rfl
theorem ta36 : aggT Tryz.prog 36 3 = true := by kernel_rfl
theorem ta40 : aggT Tryz.prog 40 7 = true := by kernel_rfl
theorem ta49 : aggT Tryz.prog 49 3 = true := by kernel_rfl
theorem tc3 : cellT Tryz.prog 3 = true := by kernel_rfl
theorem tc9 : cellT Tryz.prog 9 = true := by kernel_rfl
theorem tc34 : cellT Tryz.prog 34 = true := by kernel_rfl
theorem tc37 : cellT Tryz.prog 37 = true := by kernel_rfl
theorem tc38 : cellT Tryz.prog 38 = true := by kernel_rfl
theorem ti3 : Tryz.prog.underlying 3 = some (.int .i64) := by kernel_rfl
theorem ti5 : Tryz.prog.underlying 5 = some (.int .u8) := by kernel_rfl
theorem tk79 : Tryz.prog.underlying 9 = some keyStr.desc := by kernel_rfl
theorem tk89 : Tryz.prog.underlying 3 = some keyInt.desc := by kernel_rfl
theorem tm79 : Tryz.prog.underlying 79 = some (.map 9 3) := by kernel_rfl
theorem tm89 : Tryz.prog.underlying 89 = some (.map 3 9) := by kernel_rfl
theorem ts22 : slT Tryz.prog 22 36 3 48 = true := by kernel_rfl
theorem ts29 : slT Tryz.prog 29 9 1 16 = true := by kernel_rfl
theorem ts34 : slT Tryz.prog 34 40 7 96 = true := by kernel_rfl
theorem ts37 : slT Tryz.prog 37 3 1 8 = true := by kernel_rfl
theorem ts38 : slT Tryz.prog 38 49 3 32 = true := by kernel_rfl
theorem tu9 : Tryz.prog.underlying 9 = some .string := by kernel_rfl
theorem tu22 : Tryz.prog.underlying 22 = some (.slice 36) := by kernel_rfl
theorem tu29 : Tryz.prog.underlying 29 = some (.slice 9) := by kernel_rfl
theorem tu34 : Tryz.prog.underlying 34 = some (.slice 40) := by kernel_rfl
theorem tu37 : Tryz.prog.underlying 37 = some (.slice 3) := by kernel_rfl
theorem tu38 : Tryz.prog.underlying 38 = some (.slice 49) := by kernel_rfl
theorem tz3 : (Tryz.prog.info? 3).bind TypeInfo.zero = some (.int .i64 0) := by kernel_rfl
theorem tz9 : (Tryz.prog.info? 9).bind TypeInfo.zero = some (.string (bs [])) := by kernel_rfl
theorem tz36 : (Tryz.prog.info? 36).bind TypeInfo.zero = some (.agg #[.string (bs []), .int .i64 0, .slice none 0 0]) := by kernel_rfl
theorem tz40 : (Tryz.prog.info? 40).bind TypeInfo.zero = some (.agg #[.int .i64 0, .int .i64 0, .int .i64 0, .int .i64 0, .string (bs []), .slice none 0 0, .slice none 0 0]) := by kernel_rfl
theorem tz49 : (Tryz.prog.info? 49).bind TypeInfo.zero = some (.agg #[.string (bs []), .int .i64 0, .int .i64 0]) := by kernel_rfl
theorem tz66 : (Tryz.prog.info? 66).bind TypeInfo.zero = some (.agg #[.pointer none, .slice none 0 0]) := by kernel_rfl
theorem hmix : Tryz.prog.follows .mixedOrders = true := by kernel_rfl
open Go.Mir
def KDJump : Kind DJump := Kind.iso (Kind.pair Kind.str (Kind.pair (Kind.int .i64) (Kind.pair (Kind.int .i64) Kind.unit))) fun x => (x.Name, x.N, x.To, ())
theorem DJump.opn {F : PH} {cs : List Value} {x : DJump} (h : KDJump.R F cs x) : cs = [.string (bs x.Name), .int .i64 x.N, .int .i64 x.To] := by
  obtain ⟨_, _, rfl, rfl, ⟨_, _, rfl, rfl, ⟨_, _, rfl, rfl, rfl⟩⟩⟩ := h
  exact rfl
theorem DJump.shut {F : PH} {y0 : List UInt8} {y1 : Int} {y2 : Int}  : KDJump.R F [.string (bs y0), .int .i64 y1, .int .i64 y2] (DJump.mk y0 y1 y2) := ⟨_, _, rfl, rfl, ⟨_, _, rfl, rfl, ⟨_, _, rfl, rfl, rfl⟩⟩⟩
theorem DJump.of {F : PH} {x : DJump}  : KDJump.R F [.string (bs x.Name), .int .i64 x.N, .int .i64 x.To] x := by
  cases x; exact DJump.shut
def KDInstr : Kind DInstr := Kind.iso (Kind.pair (Kind.int .i64) (Kind.pair (Kind.int .i64) (Kind.pair (Kind.int .i64) (Kind.pair (Kind.int .i64) (Kind.pair Kind.str (Kind.pair (Kind.sl 8 (Kind.int .i64)) (Kind.pair (Kind.sl 32 KDJump) Kind.unit))))))) fun x => (x.Op, x.A, x.B, x.N, x.Name, x.Args, x.Cases, ())
theorem DInstr.opn {F : PH} {cs : List Value} {x : DInstr} (h : KDInstr.R F cs x) : ∃ A0 c0 A1 c1, cs = [.int .i64 x.Op, .int .i64 x.A, .int .i64 x.B, .int .i64 x.N, .string (bs x.Name), .slice A0 x.Args.length c0, .slice A1 x.Cases.length c1] ∧ Fsl 8 (Kind.int .i64) F A0 c0 x.Args ∧ Fsl 32 KDJump F A1 c1 x.Cases := by
  obtain ⟨_, _, rfl, rfl, ⟨_, _, rfl, rfl, ⟨_, _, rfl, rfl, ⟨_, _, rfl, rfl, ⟨_, _, rfl, rfl, ⟨_, _, rfl, ⟨A0, c0, rfl, h0⟩, ⟨_, _, rfl, ⟨A1, c1, rfl, h1⟩, rfl⟩⟩⟩⟩⟩⟩⟩ := h
  exact ⟨A0, c0, A1, c1, rfl, h0, h1⟩
theorem DInstr.shut {F : PH} {y0 : Int} {y1 : Int} {y2 : Int} {y3 : Int} {y4 : List UInt8} {y5 : List Int} {y6 : List DJump} {A0 : Option Addr} {c0 : Nat} {A1 : Option Addr} {c1 : Nat} (h0 : Fsl 8 (Kind.int .i64) F A0 c0 y5) (h1 : Fsl 32 KDJump F A1 c1 y6) : KDInstr.R F [.int .i64 y0, .int .i64 y1, .int .i64 y2, .int .i64 y3, .string (bs y4), .slice A0 y5.length c0, .slice A1 y6.length c1] (DInstr.mk y0 y1 y2 y3 y4 y5 y6) := ⟨_, _, rfl, rfl, ⟨_, _, rfl, rfl, ⟨_, _, rfl, rfl, ⟨_, _, rfl, rfl, ⟨_, _, rfl, rfl, ⟨_, _, rfl, ⟨_, _, rfl, h0⟩, ⟨_, _, rfl, ⟨_, _, rfl, h1⟩, rfl⟩⟩⟩⟩⟩⟩⟩
theorem DInstr.of {F : PH} {x : DInstr} {A0 : Option Addr} {c0 : Nat} {A1 : Option Addr} {c1 : Nat} (h0 : Fsl 8 (Kind.int .i64) F A0 c0 x.Args) (h1 : Fsl 32 KDJump F A1 c1 x.Cases) : KDInstr.R F [.int .i64 x.Op, .int .i64 x.A, .int .i64 x.B, .int .i64 x.N, .string (bs x.Name), .slice A0 x.Args.length c0, .slice A1 x.Cases.length c1] x := by
  cases x; exact DInstr.shut h0 h1
def KDCode : Kind DCode := Kind.iso (Kind.pair Kind.str (Kind.pair (Kind.int .i64) (Kind.pair (Kind.sl 96 KDInstr) Kind.unit))) fun x => (x.Name, x.Arity, x.L, ())
theorem DCode.opn {F : PH} {cs : List Value} {x : DCode} (h : KDCode.R F cs x) : ∃ A0 c0, cs = [.string (bs x.Name), .int .i64 x.Arity, .slice A0 x.L.length c0] ∧ Fsl 96 KDInstr F A0 c0 x.L := by
  obtain ⟨_, _, rfl, rfl, ⟨_, _, rfl, rfl, ⟨_, _, rfl, ⟨A0, c0, rfl, h0⟩, rfl⟩⟩⟩ := h
  exact ⟨A0, c0, rfl, h0⟩
theorem DCode.shut {F : PH} {y0 : List UInt8} {y1 : Int} {y2 : List DInstr} {A0 : Option Addr} {c0 : Nat} (h0 : Fsl 96 KDInstr F A0 c0 y2) : KDCode.R F [.string (bs y0), .int .i64 y1, .slice A0 y2.length c0] (DCode.mk y0 y1 y2) := ⟨_, _, rfl, rfl, ⟨_, _, rfl, rfl, ⟨_, _, rfl, ⟨_, _, rfl, h0⟩, rfl⟩⟩⟩
theorem DCode.of {F : PH} {x : DCode} {A0 : Option Addr} {c0 : Nat} (h0 : Fsl 96 KDInstr F A0 c0 x.L) : KDCode.R F [.string (bs x.Name), .int .i64 x.Arity, .slice A0 x.L.length c0] x := by
  cases x; exact DCode.shut h0
def hd_DCode (x : DCode) : List Value := [.string (bs x.Name), .int .i64 x.Arity]
theorem tailed_DCode : Tailed KDCode KDInstr 96 hd_DCode DCode.L (fun x ys => DCode.mk x.Name x.Arity ys) where
  shut := fun h => DCode.of h
  len := fun _ => rfl
  tlp := fun _ _ => rfl
  hdp := fun _ _ => rfl

end Go.Proofs.YtefclodjekeeiaaGreatDoor
