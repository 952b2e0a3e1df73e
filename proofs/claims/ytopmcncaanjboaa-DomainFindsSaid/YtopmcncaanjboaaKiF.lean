/- The kinds of data that the law reads, and facts on types. -/
import Derived.Test.YtopmcncaanjboaaMiF
import Derived.Test.YtopmcncaanjboaaProg
namespace Go.Proofs.Ytopmcncaanjboaa
open Go Go.Sy Go.RowKit
set_option linter.unusedVariables false
theorem en6 : Enters Try.prog 6 := fun _ _ => by kernel_rfl
theorem en7 : Enters Try.prog 7 := fun _ _ => by kernel_rfl
theorem en8 : Enters Try.prog 8 := fun _ _ => by kernel_rfl
theorem en9 : Enters Try.prog 9 := fun _ _ => by kernel_rfl
theorem en10 : Enters Try.prog 10 := fun _ _ => by kernel_rfl
theorem en11 : Enters Try.prog 11 := fun _ _ => by kernel_rfl
theorem en12 : Enters Try.prog 12 := fun _ _ => by kernel_rfl
theorem en13 : Enters Try.prog 13 := fun _ _ => by kernel_rfl
theorem en14 : Enters Try.prog 14 := fun _ _ => by kernel_rfl
theorem en15 : Enters Try.prog 15 := fun _ _ => by kernel_rfl
theorem en16 : Enters Try.prog 16 := fun _ _ => by kernel_rfl
theorem en21 : Enters Try.prog 21 := fun _ _ => by kernel_rfl
theorem en22 : Enters Try.prog 22 := fun _ _ => by kernel_rfl
theorem en23 : Enters Try.prog 23 := fun _ _ => by kernel_rfl
theorem en24 : Enters Try.prog 24 := fun _ _ => by kernel_rfl
theorem en25 : Enters Try.prog 25 := fun _ _ => by kernel_rfl
theorem en26 : Enters Try.prog 26 := fun _ _ => by kernel_rfl
theorem en27 : Enters Try.prog 27 := fun _ _ => by kernel_rfl
theorem en28 : Enters Try.prog 28 := fun _ _ => by kernel_rfl
theorem en29 : Enters Try.prog 29 := fun _ _ => by kernel_rfl
theorem en30 : Enters Try.prog 30 := fun _ _ => by kernel_rfl
theorem en31 : Enters Try.prog 31 := fun _ _ => by kernel_rfl
theorem en32 : Enters Try.prog 32 := fun _ _ => by kernel_rfl
theorem en33 : Enters Try.prog 33 := fun _ _ => by kernel_rfl
theorem en34 : Enters Try.prog 34 := fun _ _ => by kernel_rfl
theorem en35 : Enters Try.prog 35 := fun _ _ => by kernel_rfl
theorem en36 : Enters Try.prog 36 := fun _ _ => by kernel_rfl
theorem en46 : Enters Try.prog 46 := fun _ _ => by kernel_rfl
theorem en47 : Enters Try.prog 47 := fun _ _ => by kernel_rfl
theorem en48 : Enters Try.prog 48 := fun _ _ => by kernel_rfl
theorem en49 : Enters Try.prog 49 := fun _ _ => by kernel_rfl
theorem en50 : Enters Try.prog 50 := fun _ _ => by kernel_rfl
theorem en51 : Enters Try.prog 51 := fun _ _ => by kernel_rfl
theorem en52 : Enters Try.prog 52 := fun _ _ => by kernel_rfl
theorem en53 : Enters Try.prog 53 := fun _ _ => by kernel_rfl
theorem en62 : Enters Try.prog 62 := fun _ _ => by kernel_rfl
theorem ta25 : aggT Try.prog 25 2 = true := by kernel_rfl
theorem ta28 : aggT Try.prog 28 5 = true := by kernel_rfl
theorem ta76 : aggT Try.prog 76 30 = true := by kernel_rfl
theorem ta80 : aggT Try.prog 80 1 = true := by kernel_rfl
theorem tb4 : Try.prog.underlying 4 = some .bool := by kernel_rfl
theorem tc3 : cellT Try.prog 3 = true := by kernel_rfl
theorem tc4 : cellT Try.prog 4 = true := by kernel_rfl
theorem tc22 : cellT Try.prog 22 = true := by kernel_rfl
theorem tc23 : cellT Try.prog 23 = true := by kernel_rfl
theorem tc26 : cellT Try.prog 26 = true := by kernel_rfl
theorem tp78 : plainT Try.prog 78 = true := by kernel_rfl
theorem tp80 : plainT Try.prog 80 = true := by kernel_rfl
theorem tp82 : plainT Try.prog 82 = true := by kernel_rfl
theorem tr76 : arrT Try.prog 76 30 4 1 = true := by kernel_rfl
theorem ts22 : slT Try.prog 22 26 1 24 = true := by kernel_rfl
theorem ts23 : slT Try.prog 23 28 5 88 = true := by kernel_rfl
theorem ts26 : slT Try.prog 26 3 1 8 = true := by kernel_rfl
theorem ts73 : slT Try.prog 73 76 30 30 = true := by kernel_rfl
theorem tu22 : Try.prog.underlying 22 = some (.slice 26) := by kernel_rfl
theorem tu23 : Try.prog.underlying 23 = some (.slice 28) := by kernel_rfl
theorem tu26 : Try.prog.underlying 26 = some (.slice 3) := by kernel_rfl
theorem tu73 : Try.prog.underlying 73 = some (.slice 76) := by kernel_rfl
theorem tz3 : (Try.prog.info? 3).bind TypeInfo.zero = some (.int .i64 0) := by kernel_rfl
theorem tz25 : (Try.prog.info? 25).bind TypeInfo.zero = some (.agg #[.slice none 0 0, .slice none 0 0]) := by kernel_rfl
theorem tz26 : (Try.prog.info? 26).bind TypeInfo.zero = some (.slice none 0 0) := by kernel_rfl
theorem tz28 : (Try.prog.info? 28).bind TypeInfo.zero = some (.agg #[.int .i64 0, .slice none 0 0, .slice none 0 0, .int .i64 0, .slice none 0 0]) := by kernel_rfl
theorem tz76 : (Try.prog.info? 76).bind TypeInfo.zero = some (.agg #[.bool false, .bool false, .bool false, .bool false, .bool false, .bool false, .bool false, .bool false, .bool false, .bool false, .bool false, .bool false, .bool false, .bool false, .bool false, .bool false, .bool false, .bool false, .bool false, .bool false, .bool false, .bool false, .bool false, .bool false, .bool false, .bool false, .bool false, .bool false, .bool false, .bool false]) := by kernel_rfl
theorem tz78 : (Try.prog.info? 78).bind TypeInfo.zero = some (.agg #[]) := by kernel_rfl
theorem tz80 : (Try.prog.info? 80).bind TypeInfo.zero = some (.agg #[.slice none 0 0]) := by kernel_rfl
theorem tz82 : (Try.prog.info? 82).bind TypeInfo.zero = some (.agg #[.int .i64 0, .slice none 0 0, .slice none 0 0, .int .i64 0, .slice none 0 0]) := by kernel_rfl
theorem iv78_holds : Invokes Try.prog 78 "searchlight/domain.holds" 81 := fun _ _ _ => by kernel_rfl
theorem iv80_holds : Invokes Try.prog 80 "searchlight/domain.holds" 82 := fun _ _ _ => by kernel_rfl
theorem iv82_holds : Invokes Try.prog 82 "searchlight/domain.holds" 83 := fun _ _ _ => by kernel_rfl
theorem ns78_holds : NilSafe Try.prog 78 "searchlight/domain.holds" := fun _ _ => by kernel_rfl
theorem ns80_holds : NilSafe Try.prog 80 "searchlight/domain.holds" := fun _ _ => by kernel_rfl
theorem ns82_holds : NilSafe Try.prog 82 "searchlight/domain.holds" := fun _ _ => by kernel_rfl
theorem hmix : Try.prog.follows .mixedOrders = true := by kernel_rfl
open Go.Mir
def KDLimit : Kind DLimit := Kind.iso (Kind.pair (Kind.int .i64) (Kind.pair (Kind.sl 8 (Kind.int .i64)) (Kind.pair (Kind.sl 8 (Kind.int .i64)) (Kind.pair (Kind.int .i64) (Kind.pair (Kind.sl 24 (Kind.sl 8 (Kind.int .i64))) Kind.unit))))) fun x => (x.Kind, x.Vars, x.A, x.B, x.Rows, ())
theorem DLimit.opn {F : PH} {cs : List Value} {x : DLimit} (h : KDLimit.R F cs x) : ∃ A0 c0 A1 c1 A2 c2, cs = [.int .i64 x.Kind, .slice A0 x.Vars.length c0, .slice A1 x.A.length c1, .int .i64 x.B, .slice A2 x.Rows.length c2] ∧ Fsl 8 (Kind.int .i64) F A0 c0 x.Vars ∧ Fsl 8 (Kind.int .i64) F A1 c1 x.A ∧ Fsl 24 (Kind.sl 8 (Kind.int .i64)) F A2 c2 x.Rows := by
  obtain ⟨_, _, rfl, rfl, ⟨_, _, rfl, ⟨A0, c0, rfl, h0⟩, ⟨_, _, rfl, ⟨A1, c1, rfl, h1⟩, ⟨_, _, rfl, rfl, ⟨_, _, rfl, ⟨A2, c2, rfl, h2⟩, rfl⟩⟩⟩⟩⟩ := h
  exact ⟨A0, c0, A1, c1, A2, c2, rfl, h0, h1, h2⟩
theorem DLimit.shut {F : PH} {y0 : Int} {y1 : List Int} {y2 : List Int} {y3 : Int} {y4 : List (List Int)} {A0 : Option Addr} {c0 : Nat} {A1 : Option Addr} {c1 : Nat} {A2 : Option Addr} {c2 : Nat} (h0 : Fsl 8 (Kind.int .i64) F A0 c0 y1) (h1 : Fsl 8 (Kind.int .i64) F A1 c1 y2) (h2 : Fsl 24 (Kind.sl 8 (Kind.int .i64)) F A2 c2 y4) : KDLimit.R F [.int .i64 y0, .slice A0 y1.length c0, .slice A1 y2.length c1, .int .i64 y3, .slice A2 y4.length c2] (DLimit.mk y0 y1 y2 y3 y4) := ⟨_, _, rfl, rfl, ⟨_, _, rfl, ⟨_, _, rfl, h0⟩, ⟨_, _, rfl, ⟨_, _, rfl, h1⟩, ⟨_, _, rfl, rfl, ⟨_, _, rfl, ⟨_, _, rfl, h2⟩, rfl⟩⟩⟩⟩⟩
theorem DLimit.of {F : PH} {x : DLimit} {A0 : Option Addr} {c0 : Nat} {A1 : Option Addr} {c1 : Nat} {A2 : Option Addr} {c2 : Nat} (h0 : Fsl 8 (Kind.int .i64) F A0 c0 x.Vars) (h1 : Fsl 8 (Kind.int .i64) F A1 c1 x.A) (h2 : Fsl 24 (Kind.sl 8 (Kind.int .i64)) F A2 c2 x.Rows) : KDLimit.R F [.int .i64 x.Kind, .slice A0 x.Vars.length c0, .slice A1 x.A.length c1, .int .i64 x.B, .slice A2 x.Rows.length c2] x := by
  cases x; exact DLimit.shut h0 h1 h2
def KDProblem : Kind DProblem := Kind.iso (Kind.pair (Kind.sl 24 (Kind.sl 8 (Kind.int .i64))) (Kind.pair (Kind.sl 88 KDLimit) Kind.unit)) fun x => (x.Doms, x.Limits, ())
theorem DProblem.opn {F : PH} {cs : List Value} {x : DProblem} (h : KDProblem.R F cs x) : ∃ A0 c0 A1 c1, cs = [.slice A0 x.Doms.length c0, .slice A1 x.Limits.length c1] ∧ Fsl 24 (Kind.sl 8 (Kind.int .i64)) F A0 c0 x.Doms ∧ Fsl 88 KDLimit F A1 c1 x.Limits := by
  obtain ⟨_, _, rfl, ⟨A0, c0, rfl, h0⟩, ⟨_, _, rfl, ⟨A1, c1, rfl, h1⟩, rfl⟩⟩ := h
  exact ⟨A0, c0, A1, c1, rfl, h0, h1⟩
theorem DProblem.shut {F : PH} {y0 : List (List Int)} {y1 : List DLimit} {A0 : Option Addr} {c0 : Nat} {A1 : Option Addr} {c1 : Nat} (h0 : Fsl 24 (Kind.sl 8 (Kind.int .i64)) F A0 c0 y0) (h1 : Fsl 88 KDLimit F A1 c1 y1) : KDProblem.R F [.slice A0 y0.length c0, .slice A1 y1.length c1] (DProblem.mk y0 y1) := ⟨_, _, rfl, ⟨_, _, rfl, h0⟩, ⟨_, _, rfl, ⟨_, _, rfl, h1⟩, rfl⟩⟩
theorem DProblem.of {F : PH} {x : DProblem} {A0 : Option Addr} {c0 : Nat} {A1 : Option Addr} {c1 : Nat} (h0 : Fsl 24 (Kind.sl 8 (Kind.int .i64)) F A0 c0 x.Doms) (h1 : Fsl 88 KDLimit F A1 c1 x.Limits) : KDProblem.R F [.slice A0 x.Doms.length c0, .slice A1 x.Limits.length c1] x := by
  cases x; exact DProblem.shut h0 h1
def KDApart : Kind DApart := Kind.iso Kind.unit fun x => (())
theorem DApart.opn {F : PH} {cs : List Value} {x : DApart} (h : KDApart.R F cs x) : cs = [] := by
  obtain rfl := h
  exact rfl
theorem DApart.shut {F : PH}  : KDApart.R F [] (DApart.mk) := rfl
theorem DApart.of {F : PH} {x : DApart}  : KDApart.R F [] x := by
  cases x; exact DApart.shut
def KDTable : Kind DTable := Kind.iso (Kind.pair (Kind.sl 24 (Kind.sl 8 (Kind.int .i64))) Kind.unit) fun x => (x.rows, ())
theorem DTable.opn {F : PH} {cs : List Value} {x : DTable} (h : KDTable.R F cs x) : ∃ A0 c0, cs = [.slice A0 x.rows.length c0] ∧ Fsl 24 (Kind.sl 8 (Kind.int .i64)) F A0 c0 x.rows := by
  obtain ⟨_, _, rfl, ⟨A0, c0, rfl, h0⟩, rfl⟩ := h
  exact ⟨A0, c0, rfl, h0⟩
theorem DTable.shut {F : PH} {y0 : List (List Int)} {A0 : Option Addr} {c0 : Nat} (h0 : Fsl 24 (Kind.sl 8 (Kind.int .i64)) F A0 c0 y0) : KDTable.R F [.slice A0 y0.length c0] (DTable.mk y0) := ⟨_, _, rfl, ⟨_, _, rfl, h0⟩, rfl⟩
theorem DTable.of {F : PH} {x : DTable} {A0 : Option Addr} {c0 : Nat} (h0 : Fsl 24 (Kind.sl 8 (Kind.int .i64)) F A0 c0 x.rows) : KDTable.R F [.slice A0 x.rows.length c0] x := by
  cases x; exact DTable.shut h0
def KDSum : Kind DSum := Kind.iso (Kind.pair KDLimit Kind.unit) fun x => (x.l, ())
theorem DSum.opn {F : PH} {cs : List Value} {x : DSum} (h : KDSum.R F cs x) : ∃ A0 c0 A1 c1 A2 c2, cs = [.int .i64 x.l.Kind, .slice A0 x.l.Vars.length c0, .slice A1 x.l.A.length c1, .int .i64 x.l.B, .slice A2 x.l.Rows.length c2] ∧ Fsl 8 (Kind.int .i64) F A0 c0 x.l.Vars ∧ Fsl 8 (Kind.int .i64) F A1 c1 x.l.A ∧ Fsl 24 (Kind.sl 8 (Kind.int .i64)) F A2 c2 x.l.Rows := by
  obtain ⟨_, _, rfl, g0, rfl⟩ := h
  obtain ⟨A0, c0, A1, c1, A2, c2, rfl, h0, h1, h2⟩ := DLimit.opn g0
  exact ⟨A0, c0, A1, c1, A2, c2, rfl, h0, h1, h2⟩
theorem DSum.shut {F : PH} {y0 : DLimit} {A0 : Option Addr} {c0 : Nat} {A1 : Option Addr} {c1 : Nat} {A2 : Option Addr} {c2 : Nat} (h0 : Fsl 8 (Kind.int .i64) F A0 c0 y0.Vars) (h1 : Fsl 8 (Kind.int .i64) F A1 c1 y0.A) (h2 : Fsl 24 (Kind.sl 8 (Kind.int .i64)) F A2 c2 y0.Rows) : KDSum.R F [.int .i64 y0.Kind, .slice A0 y0.Vars.length c0, .slice A1 y0.A.length c1, .int .i64 y0.B, .slice A2 y0.Rows.length c2] (DSum.mk y0) := ⟨_, _, rfl, DLimit.of h0 h1 h2, rfl⟩
theorem DSum.of {F : PH} {x : DSum} {A0 : Option Addr} {c0 : Nat} {A1 : Option Addr} {c1 : Nat} {A2 : Option Addr} {c2 : Nat} (h0 : Fsl 8 (Kind.int .i64) F A0 c0 x.l.Vars) (h1 : Fsl 8 (Kind.int .i64) F A1 c1 x.l.A) (h2 : Fsl 24 (Kind.sl 8 (Kind.int .i64)) F A2 c2 x.l.Rows) : KDSum.R F [.int .i64 x.l.Kind, .slice A0 x.l.Vars.length c0, .slice A1 x.l.A.length c1, .int .i64 x.l.B, .slice A2 x.l.Rows.length c2] x := by
  cases x; exact DSum.shut h0 h1 h2
def ILimit.R (F : PH) (v : Value) : ILimit → Prop
  | .nil => v = .nilIface
  | .c78 x => Ival KDApart true 78 F v x
  | .c80 x => Ival KDTable true 80 F v x
  | .c82 x => Ival KDSum true 82 F v x
theorem ILimit.R.mono {F F' : PH} (hl : PH.le F F') {v : Value} : ∀ {x : ILimit}, ILimit.R F v x → ILimit.R F' v x
  | .nil, h => h
  | .c78 _, h => Ival.mono hl h
  | .c80 _, h => Ival.mono hl h
  | .c82 _, h => Ival.mono hl h
theorem ILimit.on_nil {β : Type} {f0 : β} {f78 : DApart → β} {f80 : DTable → β} {f82 : DSum → β} : ILimit.on .nil f0 f78 f80 f82 = f0 := rfl
theorem ILimit.on_c78 {β : Type} {y : DApart} {f0 : β} {f78 : DApart → β} {f80 : DTable → β} {f82 : DSum → β} : ILimit.on (.c78 y) f0 f78 f80 f82 = f78 y := rfl
theorem ILimit.on_c80 {β : Type} {y : DTable} {f0 : β} {f78 : DApart → β} {f80 : DTable → β} {f82 : DSum → β} : ILimit.on (.c80 y) f0 f78 f80 f82 = f80 y := rfl
theorem ILimit.on_c82 {β : Type} {y : DSum} {f0 : β} {f78 : DApart → β} {f80 : DTable → β} {f82 : DSum → β} : ILimit.on (.c82 y) f0 f78 f80 f82 = f82 y := rfl
theorem ILimit.cases (x : ILimit) : x = .nil ∨ (∃ y, x = .c78 y) ∨ (∃ y, x = .c80 y) ∨ (∃ y, x = .c82 y) := by
  cases x
  · exact .inl rfl
  · exact (.inr (.inl ⟨_, rfl⟩))
  · exact (.inr (.inr (.inl ⟨_, rfl⟩)))
  · exact (.inr (.inr (.inr ⟨_, rfl⟩)))
end Go.Proofs.Ytopmcncaanjboaa
