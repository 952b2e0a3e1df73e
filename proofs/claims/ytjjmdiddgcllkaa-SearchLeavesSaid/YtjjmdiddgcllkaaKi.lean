/- The kinds of data that the law reads, and facts on types. -/
import Derived.Test.YtjjmdiddgcllkaaMi
import Derived.Test.YtjjmdiddgcllkaaProg
namespace Go.Proofs.Ytjjmdiddgcllkaa
open Go Go.Sy Go.RowKit
set_option linter.unusedVariables false
theorem en4 : Enters Try.prog 4 := fun _ _ => by kernel_rfl
theorem en5 : Enters Try.prog 5 := fun _ _ => by kernel_rfl
theorem en6 : Enters Try.prog 6 := fun _ _ => by kernel_rfl
theorem en7 : Enters Try.prog 7 := fun _ _ => by kernel_rfl
theorem en8 : Enters Try.prog 8 := fun _ _ => by kernel_rfl
theorem en9 : Enters Try.prog 9 := fun _ _ => by kernel_rfl
theorem en10 : Enters Try.prog 10 := fun _ _ => by kernel_rfl
theorem en11 : Enters Try.prog 11 := fun _ _ => by kernel_rfl
theorem en12 : Enters Try.prog 12 := fun _ _ => by kernel_rfl
theorem en13 : Enters Try.prog 13 := fun _ _ => by kernel_rfl
theorem en14 : Enters Try.prog 14 := fun _ _ => by kernel_rfl
theorem en15 : Enters Try.prog 15 := fun _ _ => by kernel_rfl
theorem en16 : Enters Try.prog 16 := fun _ _ => by kernel_rfl
theorem en17 : Enters Try.prog 17 := fun _ _ => by kernel_rfl
theorem en18 : Enters Try.prog 18 := fun _ _ => by kernel_rfl
theorem en19 : Enters Try.prog 19 := fun _ _ => by kernel_rfl
theorem en20 : Enters Try.prog 20 := fun _ _ => by kernel_rfl
theorem en21 : Enters Try.prog 21 := fun _ _ => by kernel_rfl
theorem en22 : Enters Try.prog 22 := fun _ _ => by kernel_rfl
theorem en23 : Enters Try.prog 23 := fun _ _ => by kernel_rfl
theorem en24 : Enters Try.prog 24 := fun _ _ => by kernel_rfl
theorem en25 : Enters Try.prog 25 := fun _ _ => by kernel_rfl
theorem en26 : Enters Try.prog 26 := fun _ _ => by kernel_rfl
theorem en27 : Enters Try.prog 27 := fun _ _ => by kernel_rfl
theorem en28 : Enters Try.prog 28 := fun _ _ => by kernel_rfl
theorem en29 : Enters Try.prog 29 := fun _ _ => by kernel_rfl
theorem en30 : Enters Try.prog 30 := fun _ _ => by kernel_rfl
theorem en31 : Enters Try.prog 31 := fun _ _ => by kernel_rfl
theorem en32 : Enters Try.prog 32 := fun _ _ => by kernel_rfl
theorem en33 : Enters Try.prog 33 := fun _ _ => by kernel_rfl
theorem en34 : Enters Try.prog 34 := fun _ _ => by kernel_rfl
theorem en35 : Enters Try.prog 35 := fun _ _ => by kernel_rfl
theorem en36 : Enters Try.prog 36 := fun _ _ => by kernel_rfl
theorem en37 : Enters Try.prog 37 := fun _ _ => by kernel_rfl
theorem en38 : Enters Try.prog 38 := fun _ _ => by kernel_rfl
theorem en39 : Enters Try.prog 39 := fun _ _ => by kernel_rfl
theorem en40 : Enters Try.prog 40 := fun _ _ => by kernel_rfl
theorem en41 : Enters Try.prog 41 := fun _ _ => by kernel_rfl
theorem en42 : Enters Try.prog 42 := fun _ _ => by kernel_rfl
theorem en43 : Enters Try.prog 43 := fun _ _ => by kernel_rfl
theorem en44 : Enters Try.prog 44 := fun _ _ => by kernel_rfl
theorem en65 : Enters Try.prog 65 := fun _ _ => by kernel_rfl
theorem ta24 : aggT Try.prog 24 2 = true := by kernel_rfl
theorem ta58 : aggT Try.prog 58 4 = true := by kernel_rfl
theorem ta63 : aggT Try.prog 63 2 = true := by kernel_rfl
theorem tb4 : Try.prog.underlying 4 = some .bool := by kernel_rfl
theorem tc3 : cellT Try.prog 3 = true := by kernel_rfl
theorem tc22 : cellT Try.prog 22 = true := by kernel_rfl
theorem tc27 : cellT Try.prog 27 = true := by kernel_rfl
theorem tc31 : cellT Try.prog 31 = true := by kernel_rfl
theorem tc45 : cellT Try.prog 45 = true := by kernel_rfl
theorem tc50 : cellT Try.prog 50 = true := by kernel_rfl
theorem tc53 : cellT Try.prog 53 = true := by kernel_rfl
theorem tk51 : Try.prog.underlying 3 = some keyInt.desc := by kernel_rfl
theorem tm51 : Try.prog.underlying 51 = some (.map 3 50) := by kernel_rfl
theorem tp49 : plainT Try.prog 49 = true := by kernel_rfl
theorem tp58 : plainT Try.prog 58 = true := by kernel_rfl
theorem ts22 : slT Try.prog 22 24 2 32 = true := by kernel_rfl
theorem ts27 : slT Try.prog 27 3 1 8 = true := by kernel_rfl
theorem ts31 : slT Try.prog 31 27 1 24 = true := by kernel_rfl
theorem ts53 : slT Try.prog 53 58 4 64 = true := by kernel_rfl
theorem tu22 : Try.prog.underlying 22 = some (.slice 24) := by kernel_rfl
theorem tu27 : Try.prog.underlying 27 = some (.slice 3) := by kernel_rfl
theorem tu31 : Try.prog.underlying 31 = some (.slice 27) := by kernel_rfl
theorem tu53 : Try.prog.underlying 53 = some (.slice 58) := by kernel_rfl
theorem tz3 : (Try.prog.info? 3).bind TypeInfo.zero = some (.int .i64 0) := by kernel_rfl
theorem tz24 : (Try.prog.info? 24).bind TypeInfo.zero = some (.agg #[.int .i64 0, .slice none 0 0]) := by kernel_rfl
theorem tz27 : (Try.prog.info? 27).bind TypeInfo.zero = some (.slice none 0 0) := by kernel_rfl
theorem tz31 : (Try.prog.info? 31).bind TypeInfo.zero = some (.slice none 0 0) := by kernel_rfl
theorem tz45 : (Try.prog.info? 45).bind TypeInfo.zero = some .nilFunc := by kernel_rfl
theorem tz50 : (Try.prog.info? 50).bind TypeInfo.zero = some .nilFunc := by kernel_rfl
theorem tz58 : (Try.prog.info? 58).bind TypeInfo.zero = some (.agg #[.slice none 0 0, .int .i64 0, .int .i64 0, .slice none 0 0]) := by kernel_rfl
theorem tz63 : (Try.prog.info? 63).bind TypeInfo.zero = some (.agg #[.int .i64 0, .slice none 0 0]) := by kernel_rfl
theorem iv49_Len : Invokes Try.prog 49 "Len" 31 := fun _ _ _ => by kernel_rfl
theorem iv49_Less : Invokes Try.prog 49 "Less" 61 := fun _ _ _ => by kernel_rfl
theorem iv49_Pop : Invokes Try.prog 49 "Pop" 62 := fun _ _ _ => by kernel_rfl
theorem iv49_Push : Invokes Try.prog 49 "Push" 63 := fun _ _ _ => by kernel_rfl
theorem iv49_Swap : Invokes Try.prog 49 "Swap" 64 := fun _ _ _ => by kernel_rfl
theorem hmix : Try.prog.follows .mixedOrders = true := by kernel_rfl
open Go.Mir
def CDSTree : Nat → Kind DSTree
  | 0 => Kind.no 2
  | n + 1 => Kind.iso (Kind.pair (Kind.int .i64) (Kind.pair (Kind.sl 32 (CDSTree n)) Kind.unit)) fun x => (x.N, x.Kids, ())
theorem CDSTree_sz : ∀ n, (CDSTree n).sz = 2
  | 0 => rfl
  | _ + 1 => rfl
def KDSTree : Kind DSTree := Kind.lim CDSTree 2 CDSTree_sz
theorem CDSTree_mono : ∀ n {F : PH} {cs : List Value} {x : DSTree}, (CDSTree n).R F cs x → (CDSTree (n + 1)).R F cs x
  | 0, _, _, _, h => h.elim
  | n + 1, F, cs, x, ⟨_, _, e_0, g0, ⟨_, _, e_1, ⟨A0, c0, e0, h0⟩, u⟩⟩ => ⟨_, _, e_0, g0, ⟨_, _, e_1, ⟨A0, c0, e0, h0.up (CDSTree_mono n) (by simp only [CDSTree_sz])⟩, u⟩⟩
theorem DSTree.opn {F : PH} {cs : List Value} {x : DSTree} (h : KDSTree.R F cs x) : ∃ A0 c0, cs = [.int .i64 x.N, .slice A0 x.Kids.length c0] ∧ Fsl 32 KDSTree F A0 c0 x.Kids := by
  obtain ⟨n, h⟩ := h
  cases n with
  | zero => exact h.elim
  | succ n =>
    obtain ⟨_, _, rfl, rfl, ⟨_, _, rfl, ⟨A0, c0, rfl, h0⟩, rfl⟩⟩ := h
    exact ⟨A0, c0, rfl, h0.up (fun h => ⟨n, h⟩) (CDSTree_sz n)⟩
theorem DSTree.shut {F : PH} {y0 : Int} {y1 : List DSTree} {A0 : Option Addr} {c0 : Nat} (h0 : Fsl 32 KDSTree F A0 c0 y1) : KDSTree.R F [.int .i64 y0, .slice A0 y1.length c0] (DSTree.mk y0 y1) := by
  obtain ⟨n0, g0⟩ := Fsl.lim (fun n _ _ _ h => CDSTree_mono n h) h0
  have h0 := g0.up (Kind.up_le (C := CDSTree) (fun n _ _ _ h => CDSTree_mono n h) (show n0 ≤ n0 by omega)) (by simp only [CDSTree_sz])
  exact ⟨n0 + 1, ⟨_, _, rfl, rfl, ⟨_, _, rfl, ⟨_, _, rfl, h0⟩, rfl⟩⟩⟩
theorem DSTree.of {F : PH} {x : DSTree} {A0 : Option Addr} {c0 : Nat} (h0 : Fsl 32 KDSTree F A0 c0 x.Kids) : KDSTree.R F [.int .i64 x.N, .slice A0 x.Kids.length c0] x := by
  cases x; exact DSTree.shut h0
def KDPlace : Kind DPlace := Kind.iso (Kind.pair (Kind.sl 8 (Kind.int .i64)) (Kind.pair (Kind.int .i64) (Kind.pair KDSTree Kind.unit))) fun x => (x.l, x.rank, x.x, ())
theorem DPlace.opn {F : PH} {cs : List Value} {x : DPlace} (h : KDPlace.R F cs x) : ∃ A0 c0 A1 c1, cs = [.slice A0 x.l.length c0, .int .i64 x.rank, .int .i64 x.x.N, .slice A1 x.x.Kids.length c1] ∧ Fsl 8 (Kind.int .i64) F A0 c0 x.l ∧ Fsl 32 KDSTree F A1 c1 x.x.Kids := by
  obtain ⟨_, _, rfl, ⟨A0, c0, rfl, h0⟩, ⟨_, _, rfl, rfl, ⟨_, _, rfl, g0, rfl⟩⟩⟩ := h
  obtain ⟨A1, c1, rfl, h1⟩ := DSTree.opn g0
  exact ⟨A0, c0, A1, c1, rfl, h0, h1⟩
theorem DPlace.shut {F : PH} {y0 : List Int} {y1 : Int} {y2 : DSTree} {A0 : Option Addr} {c0 : Nat} {A1 : Option Addr} {c1 : Nat} (h0 : Fsl 8 (Kind.int .i64) F A0 c0 y0) (h1 : Fsl 32 KDSTree F A1 c1 y2.Kids) : KDPlace.R F [.slice A0 y0.length c0, .int .i64 y1, .int .i64 y2.N, .slice A1 y2.Kids.length c1] (DPlace.mk y0 y1 y2) := ⟨_, _, rfl, ⟨_, _, rfl, h0⟩, ⟨_, _, rfl, rfl, ⟨_, _, rfl, DSTree.of h1, rfl⟩⟩⟩
theorem DPlace.of {F : PH} {x : DPlace} {A0 : Option Addr} {c0 : Nat} {A1 : Option Addr} {c1 : Nat} (h0 : Fsl 8 (Kind.int .i64) F A0 c0 x.l) (h1 : Fsl 32 KDSTree F A1 c1 x.x.Kids) : KDPlace.R F [.slice A0 x.l.length c0, .int .i64 x.rank, .int .i64 x.x.N, .slice A1 x.x.Kids.length c1] x := by
  cases x; exact DPlace.shut h0 h1
end Go.Proofs.Ytjjmdiddgcllkaa
