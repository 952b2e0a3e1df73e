/- The kinds of data that the law reads, and facts on types. -/
import Derived.Test.YtchecaeeiejjjaaMiR
import Derived.Test.YtchecaeeiejjjaaProg
namespace Go.Proofs.Ytchecaeeiejjjaa
open Go Go.Sy Go.RowKit
set_option linter.unusedVariables false
theorem en6 : Enters Try.prog 6 := fun _ _ => by kernel_rfl
theorem en7 : Enters Try.prog 7 := fun _ _ => by kernel_rfl
theorem en8 : Enters Try.prog 8 := fun _ _ => by kernel_rfl
theorem en9 : Enters Try.prog 9 := fun _ _ => by kernel_rfl
theorem en16 : Enters Try.prog 16 := fun _ _ => by kernel_rfl
theorem en18 : Enters Try.prog 18 := fun _ _ => by kernel_rfl
theorem en27 : Enters Try.prog 27 := fun _ _ => by kernel_rfl
theorem en28 : Enters Try.prog 28 := fun _ _ => by kernel_rfl
theorem en29 : Enters Try.prog 29 := fun _ _ => by kernel_rfl
theorem en30 : Enters Try.prog 30 := fun _ _ => by kernel_rfl
theorem en31 : Enters Try.prog 31 := fun _ _ => by kernel_rfl
theorem en32 : Enters Try.prog 32 := fun _ _ => by kernel_rfl
theorem en33 : Enters Try.prog 33 := fun _ _ => by kernel_rfl
theorem en36 : Enters Try.prog 36 := fun _ _ => by kernel_rfl
theorem en45 : Enters Try.prog 45 := fun _ _ => by kernel_rfl
theorem en47 : Enters Try.prog 47 := fun _ _ => by kernel_rfl
theorem en60 : Enters Try.prog 60 := fun _ _ => by kernel_rfl
theorem en61 : Enters Try.prog 61 := fun _ _ => by kernel_rfl
theorem en62 : Enters Try.prog 62 := fun _ _ => by kernel_rfl
theorem en63 : Enters Try.prog 63 := fun _ _ => by kernel_rfl
theorem en64 : Enters Try.prog 64 := fun _ _ => by kernel_rfl
theorem en65 : Enters Try.prog 65 := fun _ _ => by kernel_rfl
theorem en66 : Enters Try.prog 66 := fun _ _ => by kernel_rfl
theorem en67 : Enters Try.prog 67 := fun _ _ => by kernel_rfl
theorem en68 : Enters Try.prog 68 := fun _ _ => by kernel_rfl
theorem en69 : Enters Try.prog 69 := fun _ _ => by kernel_rfl
theorem en71 : Enters Try.prog 71 := fun _ _ => by kernel_rfl
theorem en81 : Enters Try.prog 81 := fun _ _ => by kernel_rfl
theorem en82 : Enters Try.prog 82 := fun _ _ => by kernel_rfl
theorem en87 : Enters Try.prog 87 := fun _ _ => by kernel_rfl
theorem en88 : Enters Try.prog 88 := fun _ _ => by kernel_rfl
theorem en89 : Enters Try.prog 89 := fun _ _ => by kernel_rfl
theorem en90 : Enters Try.prog 90 := fun _ _ => by kernel_rfl
theorem en91 : Enters Try.prog 91 := fun _ _ => by kernel_rfl
theorem en92 : Enters Try.prog 92 := fun _ _ => by kernel_rfl
theorem en93 : Enters Try.prog 93 := fun _ _ => by kernel_rfl
theorem en94 : Enters Try.prog 94 := fun _ _ => by kernel_rfl
theorem en95 : Enters Try.prog 95 := fun _ _ => by kernel_rfl
theorem en96 : Enters Try.prog 96 := fun _ _ => by kernel_rfl
theorem en97 : Enters Try.prog 97 := fun _ _ => by kernel_rfl
theorem en101 : Enters Try.prog 101 := fun _ _ => by kernel_rfl
theorem en102 : Enters Try.prog 102 := fun _ _ => by kernel_rfl
theorem en103 : Enters Try.prog 103 := fun _ _ => by kernel_rfl
theorem en104 : Enters Try.prog 104 := fun _ _ => by kernel_rfl
theorem en105 : Enters Try.prog 105 := fun _ _ => by kernel_rfl
theorem en106 : Enters Try.prog 106 := fun _ _ => by kernel_rfl
theorem ta24 : aggT Try.prog 24 4 = true := by kernel_rfl
theorem ta37 : aggT Try.prog 37 5 = true := by kernel_rfl
theorem tc3 : cellT Try.prog 3 = true := by kernel_rfl
theorem tc9 : cellT Try.prog 9 = true := by kernel_rfl
theorem tc22 : cellT Try.prog 22 = true := by kernel_rfl
theorem tc25 : cellT Try.prog 25 = true := by kernel_rfl
theorem ti3 : Try.prog.underlying 3 = some (.int .i64) := by kernel_rfl
theorem ti5 : Try.prog.underlying 5 = some (.int .u8) := by kernel_rfl
theorem tk100 : Try.prog.underlying 3 = some keyInt.desc := by kernel_rfl
theorem tm100 : Try.prog.underlying 100 = some (.map 3 3) := by kernel_rfl
theorem ts22 : slT Try.prog 22 24 4 56 = true := by kernel_rfl
theorem ts56 : slT Try.prog 56 61 2 24 = true := by kernel_rfl
theorem ts69 : slT Try.prog 69 25 1 8 = true := by kernel_rfl
theorem ts123 : slT Try.prog 123 9 1 16 = true := by kernel_rfl
theorem tu9 : Try.prog.underlying 9 = some .string := by kernel_rfl
theorem tu22 : Try.prog.underlying 22 = some (.slice 24) := by kernel_rfl
theorem tu69 : Try.prog.underlying 69 = some (.slice 25) := by kernel_rfl
theorem tu123 : Try.prog.underlying 123 = some (.slice 9) := by kernel_rfl
theorem tz3 : (Try.prog.info? 3).bind TypeInfo.zero = some (.int .i64 0) := by kernel_rfl
theorem tz24 : (Try.prog.info? 24).bind TypeInfo.zero = some (.agg #[.int .i64 0, .string (bs []), .int .i64 0, .slice none 0 0]) := by kernel_rfl
theorem tz37 : (Try.prog.info? 37).bind TypeInfo.zero = some (.agg #[.int .i64 0, .string (bs []), .int .i64 0, .slice none 0 0, .slice none 0 0]) := by kernel_rfl
theorem hmix : Try.prog.follows .mixedOrders = true := by kernel_rfl
open Go.Mir
def CDValue : Nat → Kind DValue
  | 0 => Kind.no 4
  | n + 1 => Kind.iso (Kind.pair (Kind.int .i64) (Kind.pair Kind.str (Kind.pair (Kind.int .i64) (Kind.pair (Kind.sl 56 (CDValue n)) Kind.unit)))) fun x => (x.Op, x.Name, x.N, x.Kids, ())
theorem CDValue_sz : ∀ n, (CDValue n).sz = 4
  | 0 => rfl
  | _ + 1 => rfl
def KDValue : Kind DValue := Kind.lim CDValue 4 CDValue_sz
theorem CDValue_mono : ∀ n {F : PH} {cs : List Value} {x : DValue}, (CDValue n).R F cs x → (CDValue (n + 1)).R F cs x
  | 0, _, _, _, h => h.elim
  | n + 1, F, cs, x, ⟨_, _, e_0, g0, ⟨_, _, e_1, g1, ⟨_, _, e_2, g2, ⟨_, _, e_3, ⟨A0, c0, e0, h0⟩, u⟩⟩⟩⟩ => ⟨_, _, e_0, g0, ⟨_, _, e_1, g1, ⟨_, _, e_2, g2, ⟨_, _, e_3, ⟨A0, c0, e0, h0.up (CDValue_mono n) (by simp only [CDValue_sz])⟩, u⟩⟩⟩⟩
theorem DValue.opn {F : PH} {cs : List Value} {x : DValue} (h : KDValue.R F cs x) : ∃ A0 c0, cs = [.int .i64 x.Op, .string (bs x.Name), .int .i64 x.N, .slice A0 x.Kids.length c0] ∧ Fsl 56 KDValue F A0 c0 x.Kids := by
  obtain ⟨n, h⟩ := h
  cases n with
  | zero => exact h.elim
  | succ n =>
    obtain ⟨_, _, rfl, rfl, ⟨_, _, rfl, rfl, ⟨_, _, rfl, rfl, ⟨_, _, rfl, ⟨A0, c0, rfl, h0⟩, rfl⟩⟩⟩⟩ := h
    exact ⟨A0, c0, rfl, h0.up (fun h => ⟨n, h⟩) (CDValue_sz n)⟩
theorem DValue.shut {F : PH} {y0 : Int} {y1 : List UInt8} {y2 : Int} {y3 : List DValue} {A0 : Option Addr} {c0 : Nat} (h0 : Fsl 56 KDValue F A0 c0 y3) : KDValue.R F [.int .i64 y0, .string (bs y1), .int .i64 y2, .slice A0 y3.length c0] (DValue.mk y0 y1 y2 y3) := by
  obtain ⟨n0, g0⟩ := Fsl.lim (fun n _ _ _ h => CDValue_mono n h) h0
  have h0 := g0.up (Kind.up_le (C := CDValue) (fun n _ _ _ h => CDValue_mono n h) (show n0 ≤ n0 by omega)) (by simp only [CDValue_sz])
  exact ⟨n0 + 1, ⟨_, _, rfl, rfl, ⟨_, _, rfl, rfl, ⟨_, _, rfl, rfl, ⟨_, _, rfl, ⟨_, _, rfl, h0⟩, rfl⟩⟩⟩⟩⟩
theorem DValue.of {F : PH} {x : DValue} {A0 : Option Addr} {c0 : Nat} (h0 : Fsl 56 KDValue F A0 c0 x.Kids) : KDValue.R F [.int .i64 x.Op, .string (bs x.Name), .int .i64 x.N, .slice A0 x.Kids.length c0] x := by
  cases x; exact DValue.shut h0
def KDToken : Kind DToken := Kind.iso (Kind.pair Kind.str (Kind.pair (Kind.int .i64) Kind.unit)) fun x => (x.s, x.f_at, ())
theorem DToken.opn {F : PH} {cs : List Value} {x : DToken} (h : KDToken.R F cs x) : cs = [.string (bs x.s), .int .i64 x.f_at] := by
  obtain ⟨_, _, rfl, rfl, ⟨_, _, rfl, rfl, rfl⟩⟩ := h
  exact rfl
theorem DToken.shut {F : PH} {y0 : List UInt8} {y1 : Int}  : KDToken.R F [.string (bs y0), .int .i64 y1] (DToken.mk y0 y1) := ⟨_, _, rfl, rfl, ⟨_, _, rfl, rfl, rfl⟩⟩
theorem DToken.of {F : PH} {x : DToken}  : KDToken.R F [.string (bs x.s), .int .i64 x.f_at] x := by
  cases x; exact DToken.shut
def KDAnswer : Kind DAnswer := Kind.iso (Kind.pair KDValue (Kind.pair (Kind.sl 56 KDValue) Kind.unit)) fun x => (x.V, x.B, ())
theorem DAnswer.opn {F : PH} {cs : List Value} {x : DAnswer} (h : KDAnswer.R F cs x) : ∃ A0 c0 A1 c1, cs = [.int .i64 x.V.Op, .string (bs x.V.Name), .int .i64 x.V.N, .slice A0 x.V.Kids.length c0, .slice A1 x.B.length c1] ∧ Fsl 56 KDValue F A0 c0 x.V.Kids ∧ Fsl 56 KDValue F A1 c1 x.B := by
  obtain ⟨_, _, rfl, g0, ⟨_, _, rfl, ⟨A1, c1, rfl, h1⟩, rfl⟩⟩ := h
  obtain ⟨A0, c0, rfl, h0⟩ := DValue.opn g0
  exact ⟨A0, c0, A1, c1, rfl, h0, h1⟩
theorem DAnswer.shut {F : PH} {y0 : DValue} {y1 : List DValue} {A0 : Option Addr} {c0 : Nat} {A1 : Option Addr} {c1 : Nat} (h0 : Fsl 56 KDValue F A0 c0 y0.Kids) (h1 : Fsl 56 KDValue F A1 c1 y1) : KDAnswer.R F [.int .i64 y0.Op, .string (bs y0.Name), .int .i64 y0.N, .slice A0 y0.Kids.length c0, .slice A1 y1.length c1] (DAnswer.mk y0 y1) := ⟨_, _, rfl, DValue.of h0, ⟨_, _, rfl, ⟨_, _, rfl, h1⟩, rfl⟩⟩
theorem DAnswer.of {F : PH} {x : DAnswer} {A0 : Option Addr} {c0 : Nat} {A1 : Option Addr} {c1 : Nat} (h0 : Fsl 56 KDValue F A0 c0 x.V.Kids) (h1 : Fsl 56 KDValue F A1 c1 x.B) : KDAnswer.R F [.int .i64 x.V.Op, .string (bs x.V.Name), .int .i64 x.V.N, .slice A0 x.V.Kids.length c0, .slice A1 x.B.length c1] x := by
  cases x; exact DAnswer.shut h0 h1
end Go.Proofs.Ytchecaeeiejjjaa
