import Derived.Test.YtaajfhcjpejmjaaSyMore
import Derived.Test.YtaajfhcjpejmjaaProg
namespace Go.Proofs.Ytaajfhcjpejmjaa
open Go Go.Sy
theorem tc1 : cellT Try.prog 1 = true := by kernel_rfl
theorem tc3 : cellT Try.prog 3 = true := by kernel_rfl
theorem tc4 : cellT Try.prog 4 = true := by kernel_rfl
theorem tc23 : cellT Try.prog 23 = true := by kernel_rfl
theorem ta29 : aggT Try.prog 29 3 = true := by kernel_rfl
theorem tc35 : cellT Try.prog 35 = true := by kernel_rfl
theorem tc38 : cellT Try.prog 38 = true := by kernel_rfl
theorem tc44 : cellT Try.prog 44 = true := by kernel_rfl
theorem ta46 : aggT Try.prog 46 2 = true := by kernel_rfl
theorem tc51 : cellT Try.prog 51 = true := by kernel_rfl
theorem ta60 : aggT Try.prog 60 5 = true := by kernel_rfl
theorem ts22 : slT Try.prog 22 29 3 24 = true := by kernel_rfl
theorem ts23 : slT Try.prog 23 3 1 8 = true := by kernel_rfl
theorem ts38 : slT Try.prog 38 46 2 16 = true := by kernel_rfl
theorem ts41 : slT Try.prog 41 53 2 48 = true := by kernel_rfl
theorem ts51 : slT Try.prog 51 4 1 1 = true := by kernel_rfl
theorem tr60 : arrT Try.prog 60 5 1 1 = true := by kernel_rfl
theorem tu22 : Try.prog.underlying 22 = some (.slice 29) := by kernel_rfl
theorem tu23 : Try.prog.underlying 23 = some (.slice 3) := by kernel_rfl
theorem tu38 : Try.prog.underlying 38 = some (.slice 46) := by kernel_rfl
theorem tu41 : Try.prog.underlying 41 = some (.slice 53) := by kernel_rfl
theorem tz1 : (Try.prog.info? 1).bind TypeInfo.zero = some .nilFunc := by kernel_rfl
theorem tz3 : (Try.prog.info? 3).bind TypeInfo.zero = some (.int .i64 0) := by kernel_rfl
theorem tz4 : (Try.prog.info? 4).bind TypeInfo.zero = some (.bool false) := by kernel_rfl
theorem tz29 : (Try.prog.info? 29).bind TypeInfo.zero = some (.agg #[.int .i64 0, .int .i64 0, .int .i64 0]) := by kernel_rfl
theorem tz46 : (Try.prog.info? 46).bind TypeInfo.zero = some (.agg #[.int .i64 0, .nilFunc]) := by kernel_rfl
theorem tz60 : (Try.prog.info? 60).bind TypeInfo.zero = some (.agg #[.nilFunc, .nilFunc, .nilFunc, .nilFunc, .nilFunc]) := by kernel_rfl
theorem en3 : Enters Try.prog 3 := fun _ _ => by kernel_rfl
theorem en4 : Enters Try.prog 4 := fun _ _ => by kernel_rfl
theorem en5 : Enters Try.prog 5 := fun _ _ => by kernel_rfl
theorem en6 : Enters Try.prog 6 := fun _ _ => by kernel_rfl
theorem en7 : Enters Try.prog 7 := fun _ _ => by kernel_rfl
theorem en8 : Enters Try.prog 8 := fun _ _ => by kernel_rfl
theorem en9 : Enters Try.prog 9 := fun _ _ => by kernel_rfl
theorem en10 : Enters Try.prog 10 := fun _ _ => by kernel_rfl
theorem en11 : Enters Try.prog 11 := fun _ _ => by kernel_rfl
theorem en12 : Enters Try.prog 12 := fun _ _ => by kernel_rfl
theorem en13 : Enters Try.prog 13 := fun _ _ => by kernel_rfl
theorem en14 : Enters Try.prog 14 := fun _ _ => by kernel_rfl
theorem en15 : Enters Try.prog 15 := fun _ _ => by kernel_rfl
theorem en16 : Enters Try.prog 16 := fun _ _ => by kernel_rfl
theorem en17 : Enters Try.prog 17 := fun _ _ => by kernel_rfl
theorem en18 : Enters Try.prog 18 := fun _ _ => by kernel_rfl
theorem en19 : Enters Try.prog 19 := fun _ _ => by kernel_rfl
theorem en20 : Enters Try.prog 20 := fun _ _ => by kernel_rfl
theorem en21 : Enters Try.prog 21 := fun _ _ => by kernel_rfl
theorem en22 : Enters Try.prog 22 := fun _ _ => by kernel_rfl
theorem en23 : Enters Try.prog 23 := fun _ _ => by kernel_rfl
theorem en24 : Enters Try.prog 24 := fun _ _ => by kernel_rfl
theorem en25 : Enters Try.prog 25 := fun _ _ => by kernel_rfl
theorem en26 : Enters Try.prog 26 := fun _ _ => by kernel_rfl
theorem hmix : Try.prog.follows .mixedOrders = true := by kernel_rfl
end Go.Proofs.Ytaajfhcjpejmjaa
