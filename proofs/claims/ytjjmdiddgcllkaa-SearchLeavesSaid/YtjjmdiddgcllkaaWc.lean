/- Each function does what its plain words tell. -/
import Derived.Test.YtjjmdiddgcllkaaWb
namespace Go.Proofs.Ytjjmdiddgcllkaa
open Go Go.Sy Go.RowKit
set_option linter.unusedVariables false
open Go.Mir
theorem m_search_Places_sp {F : PH} {g : Nat} {a0 : DSTree} {a1 : Int} {pA0_0 : Option Addr} {pc0_0 : Nat} (ph0_0 : Fsl 32 KDSTree F pA0_0 pc0_0 a0.Kids) {r : List (List Int) × Int} (hm : m_search_Places g a0 a1 = some r) :
    CallSp Try.prog 8 #[.agg #[.int .i64 a0.N, .slice pA0_0 a0.Kids.length pc0_0], .int .i64 a1] F [] (fun u F' H' => ∃ (B0 : Option Addr) (d0 : Nat), u = (.tuple #[.slice B0 r.1.length d0, .int .i64 r.2]) ∧ Fsl 24 (Kind.sl 8 (Kind.int .i64)) F' B0 d0 r.1 ∧ H' = []) := by
  unfold m_search_Places at hm
  refine CallSp.enter (args := [.agg #[.int .i64 a0.N, .slice pA0_0 a0.Kids.length pc0_0], .int .i64 a1]) Try.func8 rfl rfl ?_
  intro w0 m0 hm0
  refine St.seq ?_
  refine St.region ?_
  refine St.box rfl trivial rfl ?_
  intro b2
  refine St.val (v := (.slice none 0 0)) (Yields.assign rfl) trivial rfl rfl ?_
  refine St.val (v := (.int .i64 0)) (Yields.assign rfl) trivial rfl rfl ?_
  refine St.nil ?_
  refine St.norm ?_
  refine St.seq ?_
  refine St.seq ?_
  refine St.region ?_
  refine St.val (v := (.agg #[.int .i64 a0.N, .slice pA0_0 a0.Kids.length pc0_0])) (Yields.load rfl (Loads.Hk (vs := [.int .i64 a0.N, .slice pA0_0 a0.Kids.length pc0_0]) 0 rfl ta24 rfl rfl)) trivial rfl rfl ?_
  obtain ⟨q3, e4, hm⟩ := bS hm
  refine St.call [blk b2 (.cells #[.int .i64 a0.N, .slice pA0_0 a0.Kids.length pc0_0] 24 (0, 0))] (m_search_Validate_sp (a0 := a0) ph0_0 e4) rfl (fun _ ha => ev1 ha rfl) rfl en10 rfl rfl trivial ?_
  rintro _ F5 _ ⟨rfl, rfl⟩ l6
  refine St.val (v := (.int .i64 q3)) (Yields.assign rfl) trivial rfl rfl ?_
  refine St.nil ?_
  refine St.norm ?_
  refine St.seq ?_
  refine St.region ?_
  refine St.val (v := (.int .i64 q3)) (Yields.move rfl) trivial rfl rfl ?_
  refine St.val (v := (.bool (!decide (q3 = 0)))) (Yields.ne rfl rfl) trivial rfl rfl ?_
  refine St.nil ?_
  refine St.norm ?_
  refine St.cond_b rfl ?_ ?_
  · intro q7
    replace q7 : ¬ (q3 = 0) := nd_t q7
    replace hm := iF hm q7
    refine St.seq ?_
    refine St.region ?_
    refine St.val (v := (.int .i64 q3)) (Yields.move rfl) trivial rfl rfl ?_
    refine St.val (v := (.slice none 0 0)) (Yields.assign rfl) trivial rfl rfl ?_
    refine St.val (v := (.int .i64 q3)) (Yields.assign rfl) trivial rfl rfl ?_
    refine St.nil ?_
    refine St.norm ?_
    refine St.ret ?_
    refine St.thenret ?_
    obtain rfl := sI hm
    exact St.doneR2 rfl rfl rfl ⟨none, 0, rfl, Fsl.nil, rfl⟩ (fun w hs => Among.of Among.none w hs)
  · intro q8
    replace q8 : q3 = 0 := nd_f q8
    replace hm := iT hm q8
    refine St.skip ?_
    refine St.norm ?_
    refine St.seq ?_
    refine St.seq ?_
    refine St.region ?_
    refine St.val (v := (.int .i64 a1)) (Yields.move rfl) trivial rfl rfl ?_
    obtain ⟨q9, e10, hm⟩ := bS hm
    refine St.call [blk b2 (.cells #[.int .i64 a0.N, .slice pA0_0 a0.Kids.length pc0_0] 24 (0, 0))] (m_search_isHow_sp e10) rfl (fun _ ha => ev1 ha rfl) rfl en16 rfl rfl trivial ?_
    rintro _ F11 _ ⟨rfl, rfl⟩ l12
    refine St.val (v := (.bool (!q9))) (Yields.not rfl) trivial rfl rfl ?_
    refine St.nil ?_
    refine St.norm ?_
    refine St.cond_b rfl ?_ ?_
    · intro q13
      replace q13 : ¬ (q9 = true) := nb_t q13
      replace hm := iF hm q13
      refine St.seq ?_
      refine St.region ?_
      refine St.val (v := (.slice none 0 0)) (Yields.assign rfl) trivial rfl rfl ?_
      refine St.val (v := (.int .i64 1)) (Yields.assign rfl) trivial rfl rfl ?_
      refine St.nil ?_
      refine St.norm ?_
      refine St.ret ?_
      refine St.thenret ?_
      obtain rfl := sI hm
      exact St.doneR2 rfl rfl rfl ⟨none, 0, rfl, Fsl.nil, rfl⟩ (fun w hs => Among.of Among.none w hs)
    · intro q14
      replace q14 : q9 = true := nb_f q14
      replace hm := iT hm q14
      refine St.skip ?_
      refine St.norm ?_
      refine St.seq ?_
      refine St.region ?_
      refine St.alloc tz31 trivial rfl ?_
      intro b15
      refine St.nil ?_
      refine St.norm ?_
      refine St.seq ?_
      refine St.region ?_
      refine St.val (v := (.int .i64 a1)) (Yields.move rfl) trivial rfl rfl ?_
      refine St.val (v := (.agg #[.int .i64 a0.N, .slice pA0_0 a0.Kids.length pc0_0])) (Yields.load rfl (Loads.Hk (vs := [.int .i64 a0.N, .slice pA0_0 a0.Kids.length pc0_0]) 1 rfl ta24 rfl rfl)) trivial rfl rfl ?_
      refine St.val (v := (.func (.func 22) #[] #[.pointer (some ⟨b15, 0, none⟩)])) (Yields.makeFunc (fun _ _ => ev0) (fun _ ha => ev1 ha rfl)) trivial rfl rfl ?_
      refine St.rowo_new 27 1 ?_
      refine St.pick (R := [blk b15 (.cells #[.slice none ([] : List (List Int)).length 0] 31 (0, 0)), blk b2 (.cells #[.int .i64 a0.N, .slice pA0_0 a0.Kids.length pc0_0] 24 (0, 0))]) 0 rfl rfl ?_
      refine St.pick (R := [rowo none ([] : List (List Int)).length 0 27 1 [], blk b2 (.cells #[.int .i64 a0.N, .slice pA0_0 a0.Kids.length pc0_0] 24 (0, 0))]) 1 rfl rfl ?_
      obtain ⟨q17, e18, hm⟩ := bS hm
      refine St.call [blk b2 (.cells #[.int .i64 a0.N, .slice pA0_0 a0.Kids.length pc0_0] 24 (0, 0))] (m_api_STree_3_sp (a1 := a0) (Fsl.mono (PH.le_trans l6 l12) ph0_0) (show Cat (Kind.sl 8 (Kind.int .i64)) _ [] [] from rfl) Bnd.of_nil e18) rfl (fun _ ha => ev4 ha rfl rfl rfl rfl) rfl en17 rfl rfl trivial ?_
      rintro _ F19 _ ⟨A21, c22, cells25, rfl, h23, b26, rfl⟩ l20
      refine St.nil ?_
      refine St.norm ?_
      refine St.seq ?_
      refine St.region ?_
      refine St.val (v := (.slice A21 q17.2.length c22)) (Yields.load rfl (Loads.H1 0 rfl tc31 rfl)) trivial rfl rfl ?_
      refine St.val (v := (.slice A21 q17.2.length c22)) (Yields.assign rfl) trivial rfl rfl ?_
      refine St.val (v := (.int .i64 0)) (Yields.assign rfl) trivial rfl rfl ?_
      refine St.nil ?_
      refine St.norm ?_
      refine St.ret ?_
      refine St.frz 1 rfl rfl rfl h23 b26 ?_
      intro F27 l28 h29
      obtain rfl := sI hm
      exact St.doneR2 rfl rfl rfl ⟨A21, c22, rfl, h29, rfl⟩ (fun w hs => Among.of Among.none w hs)

theorem m_ref13_Places_sp {F : PH} {g : Nat} {a0 : DSTree} {a1 : Int} {pA0_0 : Option Addr} {pc0_0 : Nat} (ph0_0 : Fsl 32 KDSTree F pA0_0 pc0_0 a0.Kids) {r : List (List Int) × Int} (hm : m_ref13_Places g a0 a1 = some r) :
    CallSp Try.prog 9 #[.agg #[.int .i64 a0.N, .slice pA0_0 a0.Kids.length pc0_0], .int .i64 a1] F [] (fun u F' H' => ∃ (B0 : Option Addr) (d0 : Nat), u = (.tuple #[.slice B0 r.1.length d0, .int .i64 r.2]) ∧ Fsl 24 (Kind.sl 8 (Kind.int .i64)) F' B0 d0 r.1 ∧ H' = []) := by
  unfold m_ref13_Places at hm
  refine CallSp.enter (args := [.agg #[.int .i64 a0.N, .slice pA0_0 a0.Kids.length pc0_0], .int .i64 a1]) Try.func9 rfl rfl ?_
  intro w0 m0 hm0
  refine St.seq ?_
  refine St.region ?_
  refine St.box rfl trivial rfl ?_
  intro b2
  refine St.val (v := (.slice none 0 0)) (Yields.assign rfl) trivial rfl rfl ?_
  refine St.val (v := (.int .i64 0)) (Yields.assign rfl) trivial rfl rfl ?_
  refine St.nil ?_
  refine St.norm ?_
  refine St.seq ?_
  refine St.seq ?_
  refine St.region ?_
  refine St.val (v := (.agg #[.int .i64 a0.N, .slice pA0_0 a0.Kids.length pc0_0])) (Yields.load rfl (Loads.Hk (vs := [.int .i64 a0.N, .slice pA0_0 a0.Kids.length pc0_0]) 0 rfl ta24 rfl rfl)) trivial rfl rfl ?_
  obtain ⟨q3, e4, hm⟩ := bS hm
  refine St.call [blk b2 (.cells #[.int .i64 a0.N, .slice pA0_0 a0.Kids.length pc0_0] 24 (0, 0))] (m_ref13_Validate_sp (a0 := a0) ph0_0 e4) rfl (fun _ ha => ev1 ha rfl) rfl en11 rfl rfl trivial ?_
  rintro _ F5 _ ⟨rfl, rfl⟩ l6
  refine St.val (v := (.int .i64 q3)) (Yields.assign rfl) trivial rfl rfl ?_
  refine St.nil ?_
  refine St.norm ?_
  refine St.seq ?_
  refine St.region ?_
  refine St.val (v := (.int .i64 q3)) (Yields.move rfl) trivial rfl rfl ?_
  refine St.val (v := (.bool (!decide (q3 = 0)))) (Yields.ne rfl rfl) trivial rfl rfl ?_
  refine St.nil ?_
  refine St.norm ?_
  refine St.cond_b rfl ?_ ?_
  · intro q7
    replace q7 : ¬ (q3 = 0) := nd_t q7
    replace hm := iF hm q7
    refine St.seq ?_
    refine St.region ?_
    refine St.val (v := (.int .i64 q3)) (Yields.move rfl) trivial rfl rfl ?_
    refine St.val (v := (.slice none 0 0)) (Yields.assign rfl) trivial rfl rfl ?_
    refine St.val (v := (.int .i64 q3)) (Yields.assign rfl) trivial rfl rfl ?_
    refine St.nil ?_
    refine St.norm ?_
    refine St.ret ?_
    refine St.thenret ?_
    obtain rfl := sI hm
    exact St.doneR2 rfl rfl rfl ⟨none, 0, rfl, Fsl.nil, rfl⟩ (fun w hs => Among.of Among.none w hs)
  · intro q8
    replace q8 : q3 = 0 := nd_f q8
    replace hm := iT hm q8
    refine St.skip ?_
    refine St.norm ?_
    refine St.seq ?_
    obtain ⟨z9, hm, hk10⟩ := bS hm
    refine St.cutI (fun a w => Has Try.f9.ntmps a [(1, .int .i64 a1), (2, .pointer (some ⟨b2, 0, none⟩)), (17, .bool z9)] ∧ Sat ⟨w0, fun b => m0 b ≠ none, F⟩ F5 [blk b2 (.cells #[.int .i64 a0.N, .slice pA0_0 a0.Kids.length pc0_0] 24 (0, 0))] w) ?_ ?_
    · skip
      refine St.region ?_
      refine St.val (v := (.int .i64 a1)) (Yields.move rfl) trivial rfl rfl ?_
      by_cases q11 : a1 < 0
      · replace hm := iT hm q11
        refine St.val (v := (.bool true)) (Yields.is q11 (Yields.lt rfl rfl)) trivial rfl rfl ?_
        refine St.val (v := (.bool true)) (Yields.move rfl) trivial rfl rfl ?_
        refine St.unwanted rfl rfl rfl ?_
        refine St.unwanted rfl rfl rfl ?_
        refine St.val (v := (.bool true)) (Yields.pick_t rfl rfl) trivial rfl rfl ?_
        refine St.nil ?_
        obtain rfl := sI hm
        intro a w ha hs
        exact ⟨ha.covers ⟨rfl, rfl, rfl, trivial⟩, (Among.of (Among.take 0 rfl rfl Among.none) _ hs)⟩
      · replace hm := iF hm q11
        refine St.val (v := (.bool false)) (Yields.isnt q11 (Yields.lt rfl rfl)) trivial rfl rfl ?_
        refine St.val (v := (.bool false)) (Yields.move rfl) trivial rfl rfl ?_
        refine St.val (v := (.int .i64 a1)) (Yields.move rfl) rfl rfl rfl ?_
        refine St.val (v := (.bool (decide (a1 > 4)))) (Yields.gt rfl rfl) rfl rfl rfl ?_
        refine St.val (v := (.bool (decide (a1 > 4)))) (Yields.pick_f rfl rfl) trivial rfl rfl ?_
        refine St.nil ?_
        obtain rfl := sI hm
        intro a w ha hs
        exact ⟨ha.covers ⟨rfl, rfl, rfl, trivial⟩, (Among.of (Among.take 0 rfl rfl Among.none) _ hs)⟩
    · rintro a w ⟨ha, hs⟩
      replace hm := hk10
      refine St.use (?_ : St _ _ _ _ _ _) ha hs
      clear ha hs a w
      refine St.cond_b rfl ?_ ?_
      · intro q12
        replace q12 : z9 = true := q12
        replace hm := iT hm q12
        refine St.seq ?_
        refine St.region ?_
        refine St.val (v := (.slice none 0 0)) (Yields.assign rfl) trivial rfl rfl ?_
        refine St.val (v := (.int .i64 1)) (Yields.assign rfl) trivial rfl rfl ?_
        refine St.nil ?_
        refine St.norm ?_
        refine St.ret ?_
        refine St.thenret ?_
        obtain rfl := sI hm
        exact St.doneR2 rfl rfl rfl ⟨none, 0, rfl, Fsl.nil, rfl⟩ (fun w hs => Among.of Among.none w hs)
      · intro q13
        replace q13 : ¬ (z9 = true) := bf q13
        replace hm := iF hm q13
        refine St.skip ?_
        refine St.norm ?_
        refine St.seq ?_
        refine St.region ?_
        refine St.val (v := (.agg #[.int .i64 a0.N, .slice pA0_0 a0.Kids.length pc0_0])) (Yields.load rfl (Loads.Hk (vs := [.int .i64 a0.N, .slice pA0_0 a0.Kids.length pc0_0]) 0 rfl ta24 rfl rfl)) trivial rfl rfl ?_
        refine St.val (v := (.int .i64 a1)) (Yields.move rfl) trivial rfl rfl ?_
        obtain ⟨q14, e15, hm⟩ := bS hm
        refine St.call [blk b2 (.cells #[.int .i64 a0.N, .slice pA0_0 a0.Kids.length pc0_0] 24 (0, 0))] (m_ref13_places_sp (a0 := a0) (Fsl.mono l6 ph0_0) e15) rfl (fun _ ha => ev2 ha rfl rfl) rfl en20 rfl rfl trivial ?_
        rintro _ F16 _ ⟨A18, c19, rfl, h20, rfl⟩ l17
        refine St.val (v := (.slice A18 q14.length c19)) (Yields.assign rfl) trivial rfl rfl ?_
        refine St.val (v := (.int .i64 0)) (Yields.assign rfl) trivial rfl rfl ?_
        refine St.nil ?_
        refine St.norm ?_
        refine St.ret ?_
        obtain rfl := sI hm
        exact St.doneR2 rfl rfl rfl ⟨A18, c19, rfl, h20, rfl⟩ (fun w hs => Among.of Among.none w hs)

theorem m_ref01_SameInts_sp {F : PH} {g : Nat} {a0 : List Int} {a1 : List Int} {pA0 : Option Addr} {pc0 : Nat} {pA1 : Option Addr} {pc1 : Nat} (ph0 : Fsl 8 (Kind.int .i64) F pA0 pc0 a0) (ph1 : Fsl 8 (Kind.int .i64) F pA1 pc1 a1) {r : Bool} (hm : m_ref01_SameInts g a0 a1 = some r) :
    CallSp Try.prog 12 #[.slice pA0 a0.length pc0, .slice pA1 a1.length pc1] F [] (fun u F' H' => u = (.bool r) ∧ H' = []) := by
  unfold m_ref01_SameInts at hm
  refine CallSp.enter (args := [.slice pA0 a0.length pc0, .slice pA1 a1.length pc1]) Try.func12 rfl rfl ?_
  intro w0 m0 hm0
  refine St.seq ?_
  refine St.region ?_
  refine St.val (v := (.bool false)) (Yields.assign rfl) trivial rfl rfl ?_
  refine St.nil ?_
  refine St.norm ?_
  refine St.seq ?_
  refine St.seq ?_
  refine St.region ?_
  refine St.val (v := (.slice pA0 a0.length pc0)) (Yields.move rfl) trivial rfl rfl ?_
  refine St.val (v := (.int .i64 ((a0.length : Nat) : Int))) (Yields.lenSlice tu27 rfl) trivial rfl rfl ?_
  refine St.val (v := (.slice pA1 a1.length pc1)) (Yields.move rfl) trivial rfl rfl ?_
  refine St.val (v := (.int .i64 ((a1.length : Nat) : Int))) (Yields.lenSlice tu27 rfl) trivial rfl rfl ?_
  refine St.val (v := (.bool (!decide (((a0.length : Nat) : Int) = ((a1.length : Nat) : Int))))) (Yields.ne rfl rfl) trivial rfl rfl ?_
  refine St.nil ?_
  refine St.norm ?_
  refine St.cond_b rfl ?_ ?_
  · intro q3
    replace q3 : ¬ (((a0.length : Nat) : Int) = ((a1.length : Nat) : Int)) := nd_t q3
    replace hm := iF hm q3
    refine St.seq ?_
    refine St.region ?_
    refine St.val (v := (.bool false)) (Yields.assign rfl) trivial rfl rfl ?_
    refine St.nil ?_
    refine St.norm ?_
    refine St.ret ?_
    refine St.thenret ?_
    obtain rfl := sI hm
    exact St.doneR1 rfl rfl ⟨rfl, rfl⟩ (fun w hs => Among.of Among.none w hs)
  · intro q4
    replace q4 : ((a0.length : Nat) : Int) = ((a1.length : Nat) : Int) := nd_f q4
    replace hm := iT hm q4
    refine St.skip ?_
    refine St.norm ?_
    obtain ⟨o6, hm, ho7⟩ := jS hm
    refine St.cutI (fun a w => ∃ z5 : Unit, o6 = .inl z5 ∧ Has Try.f12.ntmps a [] ∧ Sat ⟨w0, fun b => m0 b ≠ none, F⟩ F [] w) ?_ ?_
    · skip
      refine St.seq ?_
      refine St.region ?_
      refine St.val (v := (.int .i64 0)) (Yields.assign rfl) trivial rfl rfl ?_
      refine St.nil ?_
      refine St.norm ?_
      refine St.block ?_
      refine St.loopM hm (fun s9 a w => Has Try.f12.ntmps a [(0, .slice pA0 a0.length pc0), (1, .slice pA1 a1.length pc1), (5, .int .i64 ((s9 : Nat) : Int))] ∧ Sat ⟨w0, fun b => m0 b ≠ none, F⟩ F [] w) ?_ ?_
      · skip
        intro a w ha hs
        exact ⟨ha.covers ⟨rfl, rfl, rfl, trivial⟩, (Among.of Among.none _ hs)⟩
      · rintro s9 o10 co11 hm ho12 a w ⟨ha, hs⟩
        refine St.use (?_ : St _ _ _ _ _ _) ha hs
        clear ha hs a w
        refine St.seq ?_
        refine St.seq ?_
        refine St.region ?_
        refine St.val (v := (.int .i64 ((s9 : Nat) : Int))) (Yields.move rfl) trivial rfl rfl ?_
        refine St.val (v := (.slice pA0 a0.length pc0)) (Yields.move rfl) trivial rfl rfl ?_
        refine St.val (v := (.int .i64 ((a0.length : Nat) : Int))) (Yields.lenSlice tu27 rfl) trivial rfl rfl ?_
        refine St.val (v := (.bool (decide (((s9 : Nat) : Int) < ((a0.length : Nat) : Int))))) (Yields.lt rfl rfl) trivial rfl rfl ?_
        refine St.nil ?_
        refine St.norm ?_
        refine St.cond_b rfl ?_ ?_
        · intro q13
          replace q13 : ((s9 : Nat) : Int) < ((a0.length : Nat) : Int) := of_decide_eq_true q13
          replace hm := iT hm q13
          refine St.skip ?_
          refine St.norm ?_
          refine St.seq ?_
          refine St.block ?_
          refine St.seq ?_
          refine StD.start [] [] hmix ?_
          refine StD.takeP (i := 0) (v := (.slice pA0 a0.length pc0)) rfl (fun _ => Yields.move rfl) rfl rfl trivial (by rintro _ _ _ ⟨_, _, _, _, h, _⟩; cases h) (by kernel_rfl) (listed' := #[true, false, false, false, false, false, false, false, false]) rfl ?_
          refine StD.takeP (i := 1) (v := (.int .i64 ((s9 : Nat) : Int))) rfl (fun _ => Yields.move rfl) rfl rfl trivial (by rintro _ _ _ ⟨_, _, _, _, h, _⟩; cases h) (by kernel_rfl) (listed' := #[true, true, false, false, false, false, false, false, false]) rfl ?_
          obtain ⟨x14, e15, hm⟩ := bS hm
          obtain ⟨p16, cs17, jx18, R19, k20⟩ := ph0.nidx e15
          obtain rfl := R19
          refine StD.takeP (i := 2) (v := (.pointer (some p16))) rfl (fun _ => Yields.idx jx18 ts27 rfl rfl) rfl rfl trivial (by rintro _ _ _ ⟨_, _, _, _, h, _⟩; cases h) (by kernel_rfl) (listed' := #[true, true, true, false, false, false, false, false, false]) rfl ?_
          refine StD.take [0, 1, 2, 4, 5, 6, 8] (i := 3) (v := (.int .i64 x14)) rfl (Yields.load rfl (Loads.Fat k20 tc3 rfl)) rfl rfl trivial Among.refl (by rintro _ _ _ ⟨_, _, _, _, h, _⟩; cases h) (by kernel_rfl) (listed' := #[true, true, true, true, false, false, false, false, false]) rfl ?_
          refine StD.takeP (i := 4) (v := (.slice pA1 a1.length pc1)) rfl (fun _ => Yields.move rfl) rfl rfl trivial (by rintro _ _ _ ⟨_, _, _, _, h, _⟩; cases h) (by kernel_rfl) (listed' := #[true, true, true, true, true, false, false, false, false]) rfl ?_
          refine StD.takeP (i := 5) (v := (.int .i64 ((s9 : Nat) : Int))) rfl (fun _ => Yields.move rfl) rfl rfl trivial (by rintro _ _ _ ⟨_, _, _, _, h, _⟩; cases h) (by kernel_rfl) (listed' := #[true, true, true, true, true, true, false, false, false]) rfl ?_
          obtain ⟨x21, e22, hm⟩ := bS hm
          obtain ⟨p23, cs24, jx25, R26, k27⟩ := ph1.nidx e22
          obtain rfl := R26
          refine StD.takeP (i := 6) (v := (.pointer (some p23))) rfl (fun _ => Yields.idx jx25 ts27 rfl rfl) rfl rfl trivial (by rintro _ _ _ ⟨_, _, _, _, h, _⟩; cases h) (by kernel_rfl) (listed' := #[true, true, true, true, true, true, true, false, false]) rfl ?_
          refine StD.take [0, 1, 2, 4, 5, 6, 8] (i := 7) (v := (.int .i64 x21)) rfl (Yields.load rfl (Loads.Fat k27 tc3 rfl)) rfl rfl trivial Among.refl (by rintro _ _ _ ⟨_, _, _, _, h, _⟩; cases h) (by kernel_rfl) (listed' := #[true, true, true, true, true, true, true, true, false]) rfl ?_
          refine StD.takeP (i := 8) (v := (.bool (!decide (x14 = x21)))) rfl (fun _ => Yields.ne rfl rfl) rfl rfl trivial (by rintro _ _ _ ⟨_, _, _, _, h, _⟩; cases h) (by kernel_rfl) (listed' := #[true, true, true, true, true, true, true, true, true]) rfl ?_
          refine StD.done (by kernel_rfl) ?_
          refine St.norm ?_
          refine St.cond_b rfl ?_ ?_
          · intro q28
            replace q28 : ¬ (x14 = x21) := nd_t q28
            replace hm := iF hm q28
            refine St.seq ?_
            refine St.region ?_
            refine St.val (v := (.bool false)) (Yields.assign rfl) trivial rfl rfl ?_
            refine St.nil ?_
            refine St.norm ?_
            refine St.ret ?_
            refine St.inret ?_
            refine St.thenret ?_
            refine St.thenret ?_
            refine St.inret ?_
            refine St.thenret ?_
            obtain rfl := sI hm
            obtain rfl := aR ho12
            obtain rfl := aR ho7
            exact St.doneR1 rfl rfl ⟨rfl, rfl⟩ (fun w hs => Among.of Among.none w hs)
          · intro q29
            replace q29 : x14 = x21 := nd_f q29
            replace hm := iT hm q29
            refine St.skip ?_
            refine St.innorm ?_
            refine St.norm ?_
            refine St.region ?_
            refine St.val (v := (.int .i64 ((s9 : Nat) : Int))) (Yields.move rfl) trivial rfl rfl ?_
            refine St.val (v := (.int .i64 ((s9 + 1 : Nat) : Int))) (Yields.addn (j := 1) rfl rfl rfl (by have q_0 := q13; have q_1 := ph0.bnd.2; omega)) trivial rfl rfl ?_
            refine St.val (v := (.int .i64 ((s9 + 1 : Nat) : Int))) (Yields.assign rfl) trivial rfl rfl ?_
            refine St.nil ?_
            refine St.norm ?_
            obtain rfl := sI hm
            intro a w ha hs
            exact ⟨s9 + 1, aL ho12, ha.covers ⟨rfl, rfl, rfl, trivial⟩, (Among.of Among.none _ hs)⟩
        · intro q30
          replace q30 : ¬ (((s9 : Nat) : Int) < ((a0.length : Nat) : Int)) := of_decide_eq_false q30
          replace hm := iF hm q30
          refine St.exit ?_
          refine St.thenexit ?_
          refine St.thenexit ?_
          refine St.inexit ?_
          obtain rfl := sI hm
          obtain rfl := aR ho12
          intro a w ha hs
          exact ⟨(), rfl, ha.covers trivial, (Among.of Among.none _ hs)⟩
    · rintro a w ⟨z5, rfl, ha, hs⟩
      replace hm := aL ho7
      refine St.use (?_ : St _ _ _ _ _ _) ha hs
      clear ha hs a w
      refine St.seq ?_
      refine St.region ?_
      refine St.val (v := (.bool true)) (Yields.assign rfl) trivial rfl rfl ?_
      refine St.nil ?_
      refine St.norm ?_
      refine St.ret ?_
      obtain rfl := sI hm
      exact St.doneR1 rfl rfl ⟨rfl, rfl⟩ (fun w hs => Among.of Among.none w hs)

theorem m_ref01_SameRows_sp {F : PH} {g : Nat} {a0 : List (List Int)} {a1 : List (List Int)} {pA0 : Option Addr} {pc0 : Nat} {pA1 : Option Addr} {pc1 : Nat} (ph0 : Fsl 24 (Kind.sl 8 (Kind.int .i64)) F pA0 pc0 a0) (ph1 : Fsl 24 (Kind.sl 8 (Kind.int .i64)) F pA1 pc1 a1) {r : Bool} (hm : m_ref01_SameRows g a0 a1 = some r) :
    CallSp Try.prog 13 #[.slice pA0 a0.length pc0, .slice pA1 a1.length pc1] F [] (fun u F' H' => u = (.bool r) ∧ H' = []) := by
  unfold m_ref01_SameRows at hm
  refine CallSp.enter (args := [.slice pA0 a0.length pc0, .slice pA1 a1.length pc1]) Try.func13 rfl rfl ?_
  intro w0 m0 hm0
  refine St.seq ?_
  refine St.region ?_
  refine St.val (v := (.bool false)) (Yields.assign rfl) trivial rfl rfl ?_
  refine St.nil ?_
  refine St.norm ?_
  refine St.seq ?_
  refine St.seq ?_
  refine St.region ?_
  refine St.val (v := (.slice pA0 a0.length pc0)) (Yields.move rfl) trivial rfl rfl ?_
  refine St.val (v := (.int .i64 ((a0.length : Nat) : Int))) (Yields.lenSlice tu31 rfl) trivial rfl rfl ?_
  refine St.val (v := (.slice pA1 a1.length pc1)) (Yields.move rfl) trivial rfl rfl ?_
  refine St.val (v := (.int .i64 ((a1.length : Nat) : Int))) (Yields.lenSlice tu31 rfl) trivial rfl rfl ?_
  refine St.val (v := (.bool (!decide (((a0.length : Nat) : Int) = ((a1.length : Nat) : Int))))) (Yields.ne rfl rfl) trivial rfl rfl ?_
  refine St.nil ?_
  refine St.norm ?_
  refine St.cond_b rfl ?_ ?_
  · intro q3
    replace q3 : ¬ (((a0.length : Nat) : Int) = ((a1.length : Nat) : Int)) := nd_t q3
    replace hm := iF hm q3
    refine St.seq ?_
    refine St.region ?_
    refine St.val (v := (.bool false)) (Yields.assign rfl) trivial rfl rfl ?_
    refine St.nil ?_
    refine St.norm ?_
    refine St.ret ?_
    refine St.thenret ?_
    obtain rfl := sI hm
    exact St.doneR1 rfl rfl ⟨rfl, rfl⟩ (fun w hs => Among.of Among.none w hs)
  · intro q4
    replace q4 : ((a0.length : Nat) : Int) = ((a1.length : Nat) : Int) := nd_f q4
    replace hm := iT hm q4
    refine St.skip ?_
    refine St.norm ?_
    obtain ⟨o8, hm, ho9⟩ := jS hm
    refine St.cutI (fun a w => ∃ z5 : Unit, o8 = .inl z5 ∧ ∃ (F6 : PH), PH.le F F6 ∧ Has Try.f13.ntmps a [] ∧ Sat ⟨w0, fun b => m0 b ≠ none, F⟩ F6 [] w) ?_ ?_
    · skip
      refine St.seq ?_
      refine St.region ?_
      refine St.val (v := (.int .i64 0)) (Yields.assign rfl) trivial rfl rfl ?_
      refine St.nil ?_
      refine St.norm ?_
      refine St.block ?_
      refine St.loopM hm (fun s12 a w => ∃ (F16 : PH), PH.le F F16 ∧ Has Try.f13.ntmps a [(0, .slice pA0 a0.length pc0), (1, .slice pA1 a1.length pc1), (5, .int .i64 ((s12 : Nat) : Int))] ∧ Sat ⟨w0, fun b => m0 b ≠ none, F⟩ F16 [] w) ?_ ?_
      · skip
        intro a w ha hs
        exact ⟨F, (PH.le_refl _), ha.covers ⟨rfl, rfl, rfl, trivial⟩, (Among.of Among.none _ hs)⟩
      · rintro s12 o13 co14 hm ho15 a w ⟨F16, l17, ha, hs⟩
        refine St.use (?_ : St _ _ _ _ _ _) ha hs
        clear ha hs a w
        refine St.seq ?_
        refine St.seq ?_
        refine St.region ?_
        refine St.val (v := (.int .i64 ((s12 : Nat) : Int))) (Yields.move rfl) trivial rfl rfl ?_
        refine St.val (v := (.slice pA0 a0.length pc0)) (Yields.move rfl) trivial rfl rfl ?_
        refine St.val (v := (.int .i64 ((a0.length : Nat) : Int))) (Yields.lenSlice tu31 rfl) trivial rfl rfl ?_
        refine St.val (v := (.bool (decide (((s12 : Nat) : Int) < ((a0.length : Nat) : Int))))) (Yields.lt rfl rfl) trivial rfl rfl ?_
        refine St.nil ?_
        refine St.norm ?_
        refine St.cond_b rfl ?_ ?_
        · intro q18
          replace q18 : ((s12 : Nat) : Int) < ((a0.length : Nat) : Int) := of_decide_eq_true q18
          replace hm := iT hm q18
          refine St.skip ?_
          refine St.norm ?_
          refine St.seq ?_
          refine St.block ?_
          refine St.seq ?_
          refine StD.start [8] [] hmix ?_
          refine StD.takeP (i := 0) (v := (.slice pA0 a0.length pc0)) rfl (fun _ => Yields.move rfl) rfl rfl trivial (by rintro _ _ _ ⟨_, _, _, _, h, _⟩; cases h) (by kernel_rfl) (listed' := #[true, false, false, false, false, false, false, false, false, false]) rfl ?_
          refine StD.takeP (i := 1) (v := (.int .i64 ((s12 : Nat) : Int))) rfl (fun _ => Yields.move rfl) rfl rfl trivial (by rintro _ _ _ ⟨_, _, _, _, h, _⟩; cases h) (by kernel_rfl) (listed' := #[true, true, false, false, false, false, false, false, false, false]) rfl ?_
          obtain ⟨x19, e20, hm⟩ := bS hm
          obtain ⟨p21, cs22, jx23, R24, k25⟩ := (Fsl.mono l17 ph0).nidx e20
          obtain ⟨A26, c27, rfl, h28⟩ := R24
          refine StD.takeP (i := 2) (v := (.pointer (some p21))) rfl (fun _ => Yields.idx jx23 ts31 rfl rfl) rfl rfl trivial (by rintro _ _ _ ⟨_, _, _, _, h, _⟩; cases h) (by kernel_rfl) (listed' := #[true, true, true, false, false, false, false, false, false, false]) rfl ?_
          refine StD.take [0, 1, 2, 4, 5, 6, 9] (i := 3) (v := (.slice A26 x19.length c27)) rfl (Yields.load rfl (Loads.Fat k25 tc27 rfl)) rfl rfl trivial Among.refl (by rintro _ _ _ ⟨_, _, _, _, h, _⟩; cases h) (by kernel_rfl) (listed' := #[true, true, true, true, false, false, false, false, false, false]) rfl ?_
          refine StD.takeP (i := 4) (v := (.slice pA1 a1.length pc1)) rfl (fun _ => Yields.move rfl) rfl rfl trivial (by rintro _ _ _ ⟨_, _, _, _, h, _⟩; cases h) (by kernel_rfl) (listed' := #[true, true, true, true, true, false, false, false, false, false]) rfl ?_
          refine StD.takeP (i := 5) (v := (.int .i64 ((s12 : Nat) : Int))) rfl (fun _ => Yields.move rfl) rfl rfl trivial (by rintro _ _ _ ⟨_, _, _, _, h, _⟩; cases h) (by kernel_rfl) (listed' := #[true, true, true, true, true, true, false, false, false, false]) rfl ?_
          obtain ⟨x30, e31, hm⟩ := bS hm
          obtain ⟨p32, cs33, jx34, R35, k36⟩ := (Fsl.mono l17 ph1).nidx e31
          obtain ⟨A37, c38, rfl, h39⟩ := R35
          refine StD.takeP (i := 6) (v := (.pointer (some p32))) rfl (fun _ => Yields.idx jx34 ts31 rfl rfl) rfl rfl trivial (by rintro _ _ _ ⟨_, _, _, _, h, _⟩; cases h) (by kernel_rfl) (listed' := #[true, true, true, true, true, true, true, false, false, false]) rfl ?_
          refine StD.take [0, 1, 2, 4, 5, 6, 9] (i := 7) (v := (.slice A37 x30.length c38)) rfl (Yields.load rfl (Loads.Fat k36 tc27 rfl)) rfl rfl trivial Among.refl (by rintro _ _ _ ⟨_, _, _, _, h, _⟩; cases h) (by kernel_rfl) (listed' := #[true, true, true, true, true, true, true, true, false, false]) rfl ?_
          refine StD.only (i := 8) rfl (by kernel_rfl) (listed' := #[true, true, true, true, true, true, true, true, true, false]) rfl ?_
          intro hcl41
          obtain ⟨q42, e43, hm⟩ := bS hm
          refine St.call [] (m_ref01_SameInts_sp h28 h39 e43) rfl (fun _ ha => ev2 ha rfl rfl) rfl en12 rfl rfl trivial ?_
          rintro _ F44 _ ⟨rfl, rfl⟩ l45
          refine StD.next hcl41 (fun h => by cases h) ?_
          refine StD.takeP (i := 9) (v := (.bool (!q42))) rfl (fun _ => Yields.not rfl) rfl rfl trivial (by rintro _ _ _ ⟨_, _, _, _, h, _⟩; cases h) (by kernel_rfl) (listed' := #[true, true, true, true, true, true, true, true, true, true]) rfl ?_
          refine StD.done (by kernel_rfl) ?_
          refine St.norm ?_
          refine St.cond_b rfl ?_ ?_
          · intro q46
            replace q46 : ¬ (q42 = true) := nb_t q46
            replace hm := iF hm q46
            refine St.seq ?_
            refine St.region ?_
            refine St.val (v := (.bool false)) (Yields.assign rfl) trivial rfl rfl ?_
            refine St.nil ?_
            refine St.norm ?_
            refine St.ret ?_
            refine St.inret ?_
            refine St.thenret ?_
            refine St.thenret ?_
            refine St.inret ?_
            refine St.thenret ?_
            obtain rfl := sI hm
            obtain rfl := aR ho15
            obtain rfl := aR ho9
            exact St.doneR1 rfl rfl ⟨rfl, rfl⟩ (fun w hs => Among.of Among.none w hs)
          · intro q47
            replace q47 : q42 = true := nb_f q47
            replace hm := iT hm q47
            refine St.skip ?_
            refine St.innorm ?_
            refine St.norm ?_
            refine St.region ?_
            refine St.val (v := (.int .i64 ((s12 : Nat) : Int))) (Yields.move rfl) trivial rfl rfl ?_
            refine St.val (v := (.int .i64 ((s12 + 1 : Nat) : Int))) (Yields.addn (j := 1) rfl rfl rfl (by have q_0 := q18; have q_1 := ph0.bnd.2; omega)) trivial rfl rfl ?_
            refine St.val (v := (.int .i64 ((s12 + 1 : Nat) : Int))) (Yields.assign rfl) trivial rfl rfl ?_
            refine St.nil ?_
            refine St.norm ?_
            obtain rfl := sI hm
            intro a w ha hs
            exact ⟨s12 + 1, aL ho15, F44, (PH.le_trans l17 l45), ha.covers ⟨rfl, rfl, rfl, trivial⟩, (Among.of Among.none _ hs)⟩
        · intro q48
          replace q48 : ¬ (((s12 : Nat) : Int) < ((a0.length : Nat) : Int)) := of_decide_eq_false q48
          replace hm := iF hm q48
          refine St.exit ?_
          refine St.thenexit ?_
          refine St.thenexit ?_
          refine St.inexit ?_
          obtain rfl := sI hm
          obtain rfl := aR ho15
          intro a w ha hs
          exact ⟨(), rfl, F16, l17, ha.covers trivial, (Among.of Among.none _ hs)⟩
    · rintro a w ⟨z5, rfl, F6, l7, ha, hs⟩
      replace hm := aL ho9
      refine St.use (?_ : St _ _ _ _ _ _) ha hs
      clear ha hs a w
      refine St.seq ?_
      refine St.region ?_
      refine St.val (v := (.bool true)) (Yields.assign rfl) trivial rfl rfl ?_
      refine St.nil ?_
      refine St.norm ?_
      refine St.ret ?_
      obtain rfl := sI hm
      exact St.doneR1 rfl rfl ⟨rfl, rfl⟩ (fun w hs => Among.of Among.none w hs)

theorem m_law13_leaf_sp {F : PH} {g : Nat} {a0 : Int} {r : Int} (hm : m_law13_leaf g a0 = some r) :
    CallSp Try.prog 27 #[.int .i64 a0] F [] (fun u F' H' => u = (.agg #[.int .i64 r, .slice none 0 0]) ∧ H' = []) := by
  unfold m_law13_leaf at hm
  refine CallSp.enter (args := [.int .i64 a0]) Try.func27 rfl rfl ?_
  intro w0 m0 hm0
  refine St.seq ?_
  refine St.region ?_
  refine St.alloc tz24 trivial rfl ?_
  intro b1
  refine St.nil ?_
  refine St.norm ?_
  refine St.seq ?_
  refine St.region ?_
  refine St.val (v := (.int .i64 a0)) (Yields.move rfl) trivial rfl rfl ?_
  refine St.val (v := (.agg #[.int .i64 a0, .slice none 0 0])) (Yields.build (v := (.agg #[.int .i64 a0, .slice none 0 0])) (vs := #[(0, .int .i64 a0)]) (fun _ ha => evp1 ha rfl) (fun _ => by kernel_rfl)) trivial rfl rfl ?_
  refine St.storen (R := []) rfl rfl 0 rfl rfl ta24 rfl rfl rfl trivial (cs' := #[.int .i64 a0, .slice none 0 0]) rfl ?_
  refine St.nil ?_
  refine St.norm ?_
  refine St.ret ?_
  obtain rfl := sI hm
  exact St.doneR1 rfl (ResOk.cell rfl (Loads.Hk (vs := [.int .i64 a0, .slice none 0 0]) 0 rfl ta24 rfl rfl)) ⟨rfl, rfl⟩ (fun w hs => Among.of Among.none w hs)

theorem m_law13_known_sp {F : PH} {g : Nat} {r : Bool} (hm : m_law13_known g = some r) :
    CallSp Try.prog 14 #[] F [] (fun u F' H' => u = (.bool r) ∧ H' = []) := by
  unfold m_law13_known at hm
  refine CallSp.enter (args := []) Try.func14 rfl rfl ?_
  intro w0 m0 hm0
  refine St.seq ?_
  refine St.region ?_
  refine St.val (v := (.bool false)) (Yields.assign rfl) trivial rfl rfl ?_
  refine St.nil ?_
  refine St.norm ?_
  refine St.seq ?_
  refine St.region ?_
  obtain ⟨q1, e2, hm⟩ := bS hm
  refine St.call [] (m_law13_leaf_sp e2) rfl (fun _ ha => ev1 ha rfl) rfl en27 rfl rfl trivial ?_
  rintro _ F3 _ ⟨rfl, rfl⟩ l4
  obtain ⟨q5, e6, hm⟩ := bS hm
  refine St.call [] (m_law13_leaf_sp e6) rfl (fun _ ha => ev1 ha rfl) rfl en27 rfl rfl trivial ?_
  rintro _ F7 _ ⟨rfl, rfl⟩ l8
  refine St.buildSlice (e := 24) (cells := #[.int .i64 q1, .slice none 0 0, .int .i64 q5, .slice none 0 0]) (vs := #[(0, .agg #[.int .i64 q1, .slice none 0 0]), (1, .agg #[.int .i64 q5, .slice none 0 0])]) (fun _ ha => evp2 ha rfl rfl) (fun _ => by kernel_rfl) rfl trivial ?_
  intro b9
  refine St.weak (R := []) (c' := rowo (some ⟨b9, 0, none⟩) ([(DSTree.mk q1 ([] : List DSTree)), (DSTree.mk q5 ([] : List DSTree))] : List DSTree).length 2 24 2 [.int .i64 q1, .slice none 0 0, .int .i64 q5, .slice none 0 0]) 0 rfl rfl (fun m hm => rowo_of_row (row_of_blk (k := 2) rfl (by decide) hm)) ?_
  refine St.val (v := (.agg #[.int .i64 0, .slice (some ⟨b9, 0, none⟩) ([(DSTree.mk q1 ([] : List DSTree)), (DSTree.mk q5 ([] : List DSTree))] : List DSTree).length 2])) (Yields.build (v := (.agg #[.int .i64 0, .slice (some ⟨b9, 0, none⟩) ([(DSTree.mk q1 ([] : List DSTree)), (DSTree.mk q5 ([] : List DSTree))] : List DSTree).length 2])) (vs := #[(1, .slice (some ⟨b9, 0, none⟩) ([(DSTree.mk q1 ([] : List DSTree)), (DSTree.mk q5 ([] : List DSTree))] : List DSTree).length 2)]) (fun _ ha => evp1 ha rfl) (fun _ => by kernel_rfl)) trivial rfl rfl ?_
  obtain ⟨q11, e12, hm⟩ := bS hm
  refine St.call [rowo (some ⟨b9, 0, none⟩) ([(DSTree.mk q1 ([] : List DSTree)), (DSTree.mk q5 ([] : List DSTree))] : List DSTree).length 2 24 2 [.int .i64 q1, .slice none 0 0, .int .i64 q5, .slice none 0 0]] (m_law13_leaf_sp e12) rfl (fun _ ha => ev1 ha rfl) rfl en27 rfl rfl trivial ?_
  rintro _ F13 _ ⟨rfl, rfl⟩ l14
  refine St.frz 0 rfl rfl rfl (Cat.mono l14 (show Cat KDSTree F7 [.int .i64 q1, .slice none 0 0, .int .i64 q5, .slice none 0 0] ([(DSTree.mk q1 ([] : List DSTree)), (DSTree.mk q5 ([] : List DSTree))] : List DSTree) from ⟨[.int .i64 q1, .slice none 0 0], _, rfl, (DSTree.shut Fsl.nil), ⟨[.int .i64 q5, .slice none 0 0], _, rfl, (DSTree.shut Fsl.nil), rfl⟩⟩)) (show Bnd 32 ([(DSTree.mk q1 ([] : List DSTree)), (DSTree.mk q5 ([] : List DSTree))] : List DSTree) from ⟨by simp, by simp⟩) ?_
  intro F15 l16 h17
  refine St.buildSlice (e := 24) (cells := #[.int .i64 0, .slice (some ⟨b9, 0, none⟩) ([(DSTree.mk q1 ([] : List DSTree)), (DSTree.mk q5 ([] : List DSTree))] : List DSTree).length 2, .int .i64 q11, .slice none 0 0]) (vs := #[(0, .agg #[.int .i64 0, .slice (some ⟨b9, 0, none⟩) ([(DSTree.mk q1 ([] : List DSTree)), (DSTree.mk q5 ([] : List DSTree))] : List DSTree).length 2]), (1, .agg #[.int .i64 q11, .slice none 0 0])]) (fun _ ha => evp2 ha rfl rfl) (fun _ => by kernel_rfl) rfl trivial ?_
  intro b18
  refine St.weak (R := []) (c' := rowo (some ⟨b18, 0, none⟩) ([(DSTree.mk 0 ([(DSTree.mk q1 ([] : List DSTree)), (DSTree.mk q5 ([] : List DSTree))] : List DSTree)), (DSTree.mk q11 ([] : List DSTree))] : List DSTree).length 2 24 2 [.int .i64 0, .slice (some ⟨b9, 0, none⟩) ([(DSTree.mk q1 ([] : List DSTree)), (DSTree.mk q5 ([] : List DSTree))] : List DSTree).length 2, .int .i64 q11, .slice none 0 0]) 0 rfl rfl (fun m hm => rowo_of_row (row_of_blk (k := 2) rfl (by decide) hm)) ?_
  refine St.val (v := (.agg #[.int .i64 0, .slice (some ⟨b18, 0, none⟩) ([(DSTree.mk 0 ([(DSTree.mk q1 ([] : List DSTree)), (DSTree.mk q5 ([] : List DSTree))] : List DSTree)), (DSTree.mk q11 ([] : List DSTree))] : List DSTree).length 2])) (Yields.build (v := (.agg #[.int .i64 0, .slice (some ⟨b18, 0, none⟩) ([(DSTree.mk 0 ([(DSTree.mk q1 ([] : List DSTree)), (DSTree.mk q5 ([] : List DSTree))] : List DSTree)), (DSTree.mk q11 ([] : List DSTree))] : List DSTree).length 2])) (vs := #[(1, .slice (some ⟨b18, 0, none⟩) ([(DSTree.mk 0 ([(DSTree.mk q1 ([] : List DSTree)), (DSTree.mk q5 ([] : List DSTree))] : List DSTree)), (DSTree.mk q11 ([] : List DSTree))] : List DSTree).length 2)]) (fun _ ha => evp1 ha rfl) (fun _ => by kernel_rfl)) trivial rfl rfl ?_
  refine St.alloc tz24 trivial rfl ?_
  intro b20
  refine St.storen (R := [rowo (some ⟨b18, 0, none⟩) ([(DSTree.mk 0 ([(DSTree.mk q1 ([] : List DSTree)), (DSTree.mk q5 ([] : List DSTree))] : List DSTree)), (DSTree.mk q11 ([] : List DSTree))] : List DSTree).length 2 24 2 [.int .i64 0, .slice (some ⟨b9, 0, none⟩) ([(DSTree.mk q1 ([] : List DSTree)), (DSTree.mk q5 ([] : List DSTree))] : List DSTree).length 2, .int .i64 q11, .slice none 0 0]]) rfl rfl 0 rfl rfl ta24 rfl rfl rfl trivial (cs' := #[.int .i64 0, .slice (some ⟨b18, 0, none⟩) ([(DSTree.mk 0 ([(DSTree.mk q1 ([] : List DSTree)), (DSTree.mk q5 ([] : List DSTree))] : List DSTree)), (DSTree.mk q11 ([] : List DSTree))] : List DSTree).length 2]) rfl ?_
  refine St.nil ?_
  refine St.norm ?_
  refine St.seq ?_
  refine St.region ?_
  refine St.val (v := (.agg #[.int .i64 0, .slice (some ⟨b18, 0, none⟩) ([(DSTree.mk 0 ([(DSTree.mk q1 ([] : List DSTree)), (DSTree.mk q5 ([] : List DSTree))] : List DSTree)), (DSTree.mk q11 ([] : List DSTree))] : List DSTree).length 2])) (Yields.load rfl (Loads.Hk (vs := [.int .i64 0, .slice (some ⟨b18, 0, none⟩) ([(DSTree.mk 0 ([(DSTree.mk q1 ([] : List DSTree)), (DSTree.mk q5 ([] : List DSTree))] : List DSTree)), (DSTree.mk q11 ([] : List DSTree))] : List DSTree).length 2]) 0 rfl ta24 rfl rfl)) trivial rfl rfl ?_
  refine St.frz 1 rfl rfl rfl (show Cat KDSTree F15 [.int .i64 0, .slice (some ⟨b9, 0, none⟩) ([(DSTree.mk q1 ([] : List DSTree)), (DSTree.mk q5 ([] : List DSTree))] : List DSTree).length 2, .int .i64 q11, .slice none 0 0] ([(DSTree.mk 0 ([(DSTree.mk q1 ([] : List DSTree)), (DSTree.mk q5 ([] : List DSTree))] : List DSTree)), (DSTree.mk q11 ([] : List DSTree))] : List DSTree) from ⟨[.int .i64 0, .slice (some ⟨b9, 0, none⟩) ([(DSTree.mk q1 ([] : List DSTree)), (DSTree.mk q5 ([] : List DSTree))] : List DSTree).length 2], _, rfl, (DSTree.shut h17), ⟨[.int .i64 q11, .slice none 0 0], _, rfl, (DSTree.shut Fsl.nil), rfl⟩⟩) (show Bnd 32 ([(DSTree.mk 0 ([(DSTree.mk q1 ([] : List DSTree)), (DSTree.mk q5 ([] : List DSTree))] : List DSTree)), (DSTree.mk q11 ([] : List DSTree))] : List DSTree) from ⟨by simp, by simp⟩) ?_
  intro F21 l22 h23
  obtain ⟨q24, e25, hm⟩ := bS hm
  refine St.call [blk b20 (.cells #[.int .i64 0, .slice (some ⟨b18, 0, none⟩) ([(DSTree.mk 0 ([(DSTree.mk q1 ([] : List DSTree)), (DSTree.mk q5 ([] : List DSTree))] : List DSTree)), (DSTree.mk q11 ([] : List DSTree))] : List DSTree).length 2] 24 (0, 0))] (m_search_Leaves_sp (a0 := (DSTree.mk 0 ([(DSTree.mk 0 ([(DSTree.mk q1 ([] : List DSTree)), (DSTree.mk q5 ([] : List DSTree))] : List DSTree)), (DSTree.mk q11 ([] : List DSTree))] : List DSTree))) h23 e25) rfl (fun _ ha => ev3 ha rfl rfl rfl) rfl en6 rfl rfl trivial ?_
  rintro _ F26 _ ⟨A28, c29, rfl, h30, rfl⟩ l27
  refine St.val (v := (.tuple #[.slice A28 q24.1.length c29, .bool q24.2.1, .int .i64 q24.2.2])) (Yields.move rfl) trivial rfl rfl ?_
  refine St.val (v := (.slice A28 q24.1.length c29)) (Yields.extract rfl rfl) trivial rfl rfl ?_
  refine St.val (v := (.bool q24.2.1)) (Yields.extract rfl rfl) trivial rfl rfl ?_
  refine St.val (v := (.int .i64 q24.2.2)) (Yields.extract rfl rfl) trivial rfl rfl ?_
  refine St.val (v := (.slice A28 q24.1.length c29)) (Yields.assign rfl) trivial rfl rfl ?_
  refine St.val (v := (.bool q24.2.1)) (Yields.assign rfl) trivial rfl rfl ?_
  refine St.val (v := (.int .i64 q24.2.2)) (Yields.assign rfl) trivial rfl rfl ?_
  refine St.nil ?_
  refine St.norm ?_
  obtain ⟨z32, hm, hk35⟩ := bS hm
  refine St.cutI (fun a w => ∃ (F33 : PH), PH.le F26 F33 ∧ Has Try.f14.ntmps a [(0, .bool z32)] ∧ Sat ⟨w0, fun b => m0 b ≠ none, F⟩ F33 [] w) ?_ ?_
  · skip
    refine St.region ?_
    refine St.val (v := (.int .i64 q24.2.2)) (Yields.move rfl) trivial rfl rfl ?_
    by_cases q36 : q24.2.2 = 0
    · replace hm := iT hm q36
      refine St.val (v := (.bool true)) (Yields.is q36 (Yields.eq rfl rfl)) trivial rfl rfl ?_
      refine St.val (v := (.bool true)) (Yields.move rfl) trivial rfl rfl ?_
      by_cases q37 : q24.2.1 = true
      · replace hm := iT hm q37
        have hb38 : (q24.2.1) = true := q37
        try rw [hb38]
        refine St.val (v := (.bool true)) (Yields.move rfl) rfl rfl rfl ?_
        refine St.val (v := (.bool false)) (Yields.not_t rfl) rfl rfl rfl ?_
        refine St.val (v := (.bool false)) (Yields.pick_t rfl rfl) trivial rfl rfl ?_
        refine St.val (v := (.bool false)) (Yields.move rfl) trivial rfl rfl ?_
        refine St.unwanted rfl rfl rfl ?_
        refine St.unwanted rfl rfl rfl ?_
        refine St.unwanted rfl rfl rfl ?_
        refine St.val (v := (.bool false)) (Yields.pick_f rfl rfl) trivial rfl rfl ?_
        refine St.val (v := (.bool false)) (Yields.assign rfl) trivial rfl rfl ?_
        refine St.nil ?_
        obtain rfl := sI hm
        intro a w ha hs
        exact ⟨F26, (PH.le_refl _), ha.covers ⟨rfl, trivial⟩, (Among.of Among.none _ hs)⟩
      · replace hm := iF hm q37
        have hb39 : (q24.2.1) = false := eq_false_of_ne_true q37
        try rw [hb39]
        refine St.val (v := (.bool false)) (Yields.move rfl) rfl rfl rfl ?_
        refine St.val (v := (.bool true)) (Yields.not_f rfl) rfl rfl rfl ?_
        refine St.val (v := (.bool true)) (Yields.pick_t rfl rfl) trivial rfl rfl ?_
        refine St.val (v := (.bool true)) (Yields.move rfl) trivial rfl rfl ?_
        refine St.val (v := (.slice A28 q24.1.length c29)) (Yields.move rfl) rfl rfl rfl ?_
        refine St.buildSlice (e := 3) (cells := #[.int .i64 0, .int .i64 2, .int .i64 1]) (vs := #[(0, .int .i64 0), (1, .int .i64 2), (2, .int .i64 1)]) (fun a _ => by simp only [List.map_toArray, List.map_cons, List.map_nil, Act.eval] <;> rfl) (fun _ => by kernel_rfl) rfl rfl ?_
        intro b40
        refine St.weak (R := [blk b20 (.cells #[.int .i64 0, .slice (some ⟨b18, 0, none⟩) ([(DSTree.mk 0 ([(DSTree.mk q1 ([] : List DSTree)), (DSTree.mk q5 ([] : List DSTree))] : List DSTree)), (DSTree.mk q11 ([] : List DSTree))] : List DSTree).length 2] 24 (0, 0))]) (c' := rowo (some ⟨b40, 0, none⟩) ([0, 2, 1] : List Int).length 3 3 1 [.int .i64 0, .int .i64 2, .int .i64 1]) 0 rfl rfl (fun m hm => rowo_of_row (row_of_blk (k := 3) rfl (by decide) hm)) ?_
        refine St.pick (R := [blk b20 (.cells #[.int .i64 0, .slice (some ⟨b18, 0, none⟩) ([(DSTree.mk 0 ([(DSTree.mk q1 ([] : List DSTree)), (DSTree.mk q5 ([] : List DSTree))] : List DSTree)), (DSTree.mk q11 ([] : List DSTree))] : List DSTree).length 2] 24 (0, 0))]) 0 rfl rfl ?_
        obtain ⟨q42, e43, hm⟩ := bS hm
        refine St.call [blk b20 (.cells #[.int .i64 0, .slice (some ⟨b18, 0, none⟩) ([(DSTree.mk 0 ([(DSTree.mk q1 ([] : List DSTree)), (DSTree.mk q5 ([] : List DSTree))] : List DSTree)), (DSTree.mk q11 ([] : List DSTree))] : List DSTree).length 2] 24 (0, 0))] (CallSp.lend (Hl := [rowo (some ⟨b40, 0, none⟩) ([0, 2, 1] : List Int).length 3 3 1 [.int .i64 0, .int .i64 2, .int .i64 1]]) (fun m_ hm_ hd_ h1_ h2_ => (m_ref01_SameInts_sp (Fsl.mono h1_ h30) (lentR hm_ 0 rfl rfl (show Cat (Kind.int .i64) F26 [.int .i64 0, .int .i64 2, .int .i64 1] ([0, 2, 1] : List Int) from ⟨[.int .i64 0], _, rfl, rfl, ⟨[.int .i64 2], _, rfl, rfl, ⟨[.int .i64 1], _, rfl, rfl, rfl⟩⟩⟩) (show Bnd 8 ([0, 2, 1] : List Int) from ⟨by simp, by simp⟩) h1_ h2_) e43).mono (fun _ _ _ h_ _ _ => h_))) rfl (fun _ ha => ev2 ha rfl rfl) rfl en12 rfl rfl rfl ?_
        rintro _ F44 _ ⟨_, rfl, rfl, rfl⟩ l45
        refine St.val (v := (.bool q42)) (Yields.pick_t rfl rfl) trivial rfl rfl ?_
        refine St.val (v := (.bool q42)) (Yields.assign rfl) trivial rfl rfl ?_
        refine St.nil ?_
        obtain rfl := sI hm
        intro a w ha hs
        exact ⟨F44, l45, ha.covers ⟨rfl, trivial⟩, (Among.of Among.none _ hs)⟩
    · replace hm := iF hm q36
      refine St.val (v := (.bool false)) (Yields.isnt q36 (Yields.eq rfl rfl)) trivial rfl rfl ?_
      refine St.val (v := (.bool false)) (Yields.move rfl) trivial rfl rfl ?_
      refine St.unwanted rfl rfl rfl ?_
      refine St.unwanted rfl rfl rfl ?_
      refine St.val (v := (.bool false)) (Yields.pick_f rfl rfl) trivial rfl rfl ?_
      refine St.val (v := (.bool false)) (Yields.move rfl) trivial rfl rfl ?_
      refine St.unwanted rfl rfl rfl ?_
      refine St.unwanted rfl rfl rfl ?_
      refine St.unwanted rfl rfl rfl ?_
      refine St.val (v := (.bool false)) (Yields.pick_f rfl rfl) trivial rfl rfl ?_
      refine St.val (v := (.bool false)) (Yields.assign rfl) trivial rfl rfl ?_
      refine St.nil ?_
      obtain rfl := sI hm
      intro a w ha hs
      exact ⟨F26, (PH.le_refl _), ha.covers ⟨rfl, trivial⟩, (Among.of Among.none _ hs)⟩
  · rintro a w ⟨F33, l34, ha, hs⟩
    replace hm := hk35
    refine St.use (?_ : St _ _ _ _ _ _) ha hs
    clear ha hs a w
    refine St.ret ?_
    obtain rfl := sI hm
    exact St.doneR1 rfl rfl ⟨rfl, rfl⟩ (fun w hs => Among.of Among.none w hs)

theorem m_law13_leaves_sp {F : PH} {g : Nat} {a0 : DSTree} {a1 : Int} {a2 : Int} {pA0_0 : Option Addr} {pc0_0 : Nat} (ph0_0 : Fsl 32 KDSTree F pA0_0 pc0_0 a0.Kids) {r : Bool} (hm : m_law13_leaves g a0 a1 a2 = some r) :
    CallSp Try.prog 4 #[.agg #[.int .i64 a0.N, .slice pA0_0 a0.Kids.length pc0_0], .int .i64 a1, .int .i64 a2] F [] (fun u F' H' => u = (.bool r) ∧ H' = []) := by
  unfold m_law13_leaves at hm
  refine CallSp.enter (args := [.agg #[.int .i64 a0.N, .slice pA0_0 a0.Kids.length pc0_0], .int .i64 a1, .int .i64 a2]) Try.func4 rfl rfl ?_
  intro w0 m0 hm0
  refine St.seq ?_
  refine St.region ?_
  refine St.box rfl trivial rfl ?_
  intro b2
  refine St.val (v := (.bool false)) (Yields.assign rfl) trivial rfl rfl ?_
  refine St.nil ?_
  refine St.norm ?_
  refine St.seq ?_
  refine St.region ?_
  refine St.val (v := (.agg #[.int .i64 a0.N, .slice pA0_0 a0.Kids.length pc0_0])) (Yields.load rfl (Loads.Hk (vs := [.int .i64 a0.N, .slice pA0_0 a0.Kids.length pc0_0]) 0 rfl ta24 rfl rfl)) trivial rfl rfl ?_
  refine St.val (v := (.int .i64 a1)) (Yields.move rfl) trivial rfl rfl ?_
  refine St.val (v := (.int .i64 a2)) (Yields.move rfl) trivial rfl rfl ?_
  obtain ⟨q3, e4, hm⟩ := bS hm
  refine St.call [blk b2 (.cells #[.int .i64 a0.N, .slice pA0_0 a0.Kids.length pc0_0] 24 (0, 0))] (m_search_Leaves_sp (a0 := a0) ph0_0 e4) rfl (fun _ ha => ev3 ha rfl rfl rfl) rfl en6 rfl rfl trivial ?_
  rintro _ F5 _ ⟨A7, c8, rfl, h9, rfl⟩ l6
  refine St.val (v := (.tuple #[.slice A7 q3.1.length c8, .bool q3.2.1, .int .i64 q3.2.2])) (Yields.move rfl) trivial rfl rfl ?_
  refine St.val (v := (.slice A7 q3.1.length c8)) (Yields.extract rfl rfl) trivial rfl rfl ?_
  refine St.val (v := (.bool q3.2.1)) (Yields.extract rfl rfl) trivial rfl rfl ?_
  refine St.val (v := (.int .i64 q3.2.2)) (Yields.extract rfl rfl) trivial rfl rfl ?_
  refine St.val (v := (.slice A7 q3.1.length c8)) (Yields.assign rfl) trivial rfl rfl ?_
  refine St.val (v := (.bool q3.2.1)) (Yields.assign rfl) trivial rfl rfl ?_
  refine St.val (v := (.int .i64 q3.2.2)) (Yields.assign rfl) trivial rfl rfl ?_
  refine St.nil ?_
  refine St.norm ?_
  refine St.seq ?_
  refine St.region ?_
  refine St.val (v := (.agg #[.int .i64 a0.N, .slice pA0_0 a0.Kids.length pc0_0])) (Yields.load rfl (Loads.Hk (vs := [.int .i64 a0.N, .slice pA0_0 a0.Kids.length pc0_0]) 0 rfl ta24 rfl rfl)) trivial rfl rfl ?_
  refine St.val (v := (.int .i64 a1)) (Yields.move rfl) trivial rfl rfl ?_
  refine St.val (v := (.int .i64 a2)) (Yields.move rfl) trivial rfl rfl ?_
  obtain ⟨q11, e12, hm⟩ := bS hm
  refine St.call [blk b2 (.cells #[.int .i64 a0.N, .slice pA0_0 a0.Kids.length pc0_0] 24 (0, 0))] (m_ref13_Leaves_sp (a0 := a0) (Fsl.mono l6 ph0_0) e12) rfl (fun _ ha => ev3 ha rfl rfl rfl) rfl en7 rfl rfl trivial ?_
  rintro _ F13 _ ⟨A15, c16, rfl, h17, rfl⟩ l14
  refine St.val (v := (.tuple #[.slice A15 q11.1.length c16, .bool q11.2.1, .int .i64 q11.2.2])) (Yields.move rfl) trivial rfl rfl ?_
  refine St.val (v := (.slice A15 q11.1.length c16)) (Yields.extract rfl rfl) trivial rfl rfl ?_
  refine St.val (v := (.bool q11.2.1)) (Yields.extract rfl rfl) trivial rfl rfl ?_
  refine St.val (v := (.int .i64 q11.2.2)) (Yields.extract rfl rfl) trivial rfl rfl ?_
  refine St.val (v := (.slice A15 q11.1.length c16)) (Yields.assign rfl) trivial rfl rfl ?_
  refine St.val (v := (.bool q11.2.1)) (Yields.assign rfl) trivial rfl rfl ?_
  refine St.val (v := (.int .i64 q11.2.2)) (Yields.assign rfl) trivial rfl rfl ?_
  refine St.nil ?_
  refine St.norm ?_
  refine St.seq ?_
  refine St.region ?_
  refine St.val (v := (.agg #[.int .i64 a0.N, .slice pA0_0 a0.Kids.length pc0_0])) (Yields.load rfl (Loads.Hk (vs := [.int .i64 a0.N, .slice pA0_0 a0.Kids.length pc0_0]) 0 rfl ta24 rfl rfl)) trivial rfl rfl ?_
  refine St.val (v := (.int .i64 a1)) (Yields.move rfl) trivial rfl rfl ?_
  obtain ⟨q19, e20, hm⟩ := bS hm
  refine St.call [blk b2 (.cells #[.int .i64 a0.N, .slice pA0_0 a0.Kids.length pc0_0] 24 (0, 0))] (m_search_Places_sp (a0 := a0) (Fsl.mono (PH.le_trans l6 l14) ph0_0) e20) rfl (fun _ ha => ev2 ha rfl rfl) rfl en8 rfl rfl trivial ?_
  rintro _ F21 _ ⟨A23, c24, rfl, h25, rfl⟩ l22
  refine St.val (v := (.tuple #[.slice A23 q19.1.length c24, .int .i64 q19.2])) (Yields.move rfl) trivial rfl rfl ?_
  refine St.val (v := (.slice A23 q19.1.length c24)) (Yields.extract rfl rfl) trivial rfl rfl ?_
  refine St.val (v := (.int .i64 q19.2)) (Yields.extract rfl rfl) trivial rfl rfl ?_
  refine St.val (v := (.slice A23 q19.1.length c24)) (Yields.assign rfl) trivial rfl rfl ?_
  refine St.val (v := (.int .i64 q19.2)) (Yields.assign rfl) trivial rfl rfl ?_
  refine St.nil ?_
  refine St.norm ?_
  refine St.seq ?_
  refine St.region ?_
  refine St.val (v := (.agg #[.int .i64 a0.N, .slice pA0_0 a0.Kids.length pc0_0])) (Yields.load rfl (Loads.Hk (vs := [.int .i64 a0.N, .slice pA0_0 a0.Kids.length pc0_0]) 0 rfl ta24 rfl rfl)) trivial rfl rfl ?_
  refine St.val (v := (.int .i64 a1)) (Yields.move rfl) trivial rfl rfl ?_
  obtain ⟨q27, e28, hm⟩ := bS hm
  refine St.call [blk b2 (.cells #[.int .i64 a0.N, .slice pA0_0 a0.Kids.length pc0_0] 24 (0, 0))] (m_ref13_Places_sp (a0 := a0) (Fsl.mono (PH.le_trans l6 (PH.le_trans l14 l22)) ph0_0) e28) rfl (fun _ ha => ev2 ha rfl rfl) rfl en9 rfl rfl trivial ?_
  rintro _ F29 _ ⟨A31, c32, rfl, h33, rfl⟩ l30
  refine St.val (v := (.tuple #[.slice A31 q27.1.length c32, .int .i64 q27.2])) (Yields.move rfl) trivial rfl rfl ?_
  refine St.val (v := (.slice A31 q27.1.length c32)) (Yields.extract rfl rfl) trivial rfl rfl ?_
  refine St.val (v := (.int .i64 q27.2)) (Yields.extract rfl rfl) trivial rfl rfl ?_
  refine St.val (v := (.slice A31 q27.1.length c32)) (Yields.assign rfl) trivial rfl rfl ?_
  refine St.val (v := (.int .i64 q27.2)) (Yields.assign rfl) trivial rfl rfl ?_
  refine St.nil ?_
  refine St.norm ?_
  obtain ⟨z35, hm, hk38⟩ := bS hm
  refine St.cutI (fun a w => ∃ (F36 : PH), PH.le F29 F36 ∧ Has Try.f4.ntmps a [(6, .bool z35)] ∧ Sat ⟨w0, fun b => m0 b ≠ none, F⟩ F36 [] w) ?_ ?_
  · skip
    refine StD.start [3, 8, 23, 31] [blk b2 (.cells #[.int .i64 a0.N, .slice pA0_0 a0.Kids.length pc0_0] 24 (0, 0))] hmix ?_
    refine StD.take [4, 5, 6, 7, 9, 10, 11, 12, 13, 14, 15, 16, 17, 18, 19, 20, 21, 22, 24, 25, 26, 27, 28, 29, 30, 32, 33] (i := 0) (v := (.agg #[.int .i64 a0.N, .slice pA0_0 a0.Kids.length pc0_0])) rfl (Yields.load rfl (Loads.Hk (vs := [.int .i64 a0.N, .slice pA0_0 a0.Kids.length pc0_0]) 0 rfl ta24 rfl rfl)) rfl rfl trivial Among.refl (by rintro _ _ _ ⟨_, _, _, _, h, _⟩; cases h) (by kernel_rfl) (listed' := #[true, false, false, false, false, false, false, false, false, false, false, false, false, false, false, false, false, false, false, false, false, false, false, false, false, false, false, false, false, false, false, false, false, false]) rfl ?_
    refine StD.take [4, 5, 6, 7, 9, 10, 11, 12, 13, 14, 15, 16, 17, 18, 19, 20, 21, 22, 24, 25, 26, 27, 28, 29, 30, 32, 33] (i := 2) (v := (.agg #[.int .i64 a0.N, .slice pA0_0 a0.Kids.length pc0_0])) rfl (Yields.load rfl (Loads.Hk (vs := [.int .i64 a0.N, .slice pA0_0 a0.Kids.length pc0_0]) 0 rfl ta24 rfl rfl)) rfl rfl trivial Among.refl (by rintro _ _ _ ⟨_, _, _, _, h, _⟩; cases h) (by kernel_rfl) (listed' := #[true, false, true, false, false, false, false, false, false, false, false, false, false, false, false, false, false, false, false, false, false, false, false, false, false, false, false, false, false, false, false, false, false, false]) rfl ?_
    refine StD.only (i := 1) rfl (by kernel_rfl) (listed' := #[true, true, true, false, false, false, false, false, false, false, false, false, false, false, false, false, false, false, false, false, false, false, false, false, false, false, false, false, false, false, false, false, false, false]) rfl ?_
    intro hcl39
    obtain ⟨q40, e41, hm⟩ := bS hm
    refine St.call [blk b2 (.cells #[.int .i64 a0.N, .slice pA0_0 a0.Kids.length pc0_0] 24 (0, 0))] (m_search_Validate_sp (a0 := a0) (Fsl.mono (PH.le_trans l6 (PH.le_trans l14 (PH.le_trans l22 l30))) ph0_0) e41) rfl (fun _ ha => ev1 ha rfl) rfl en10 rfl rfl trivial ?_
    rintro _ F42 _ ⟨rfl, rfl⟩ l43
    refine StD.next hcl39 (fun _ => (Among.of_le l43 (PH.le_trans l6 (PH.le_trans l14 (PH.le_trans l22 l30))) (Among.take 0 rfl rfl Among.none))) ?_
    refine StD.only (i := 3) rfl (by kernel_rfl) (listed' := #[true, true, true, true, false, false, false, false, false, false, false, false, false, false, false, false, false, false, false, false, false, false, false, false, false, false, false, false, false, false, false, false, false, false]) rfl ?_
    intro hcl44
    obtain ⟨q45, e46, hm⟩ := bS hm
    refine St.call [blk b2 (.cells #[.int .i64 a0.N, .slice pA0_0 a0.Kids.length pc0_0] 24 (0, 0))] (m_ref13_Validate_sp (a0 := a0) (Fsl.mono (PH.le_trans l6 (PH.le_trans l14 (PH.le_trans l22 (PH.le_trans l30 l43)))) ph0_0) e46) rfl (fun _ ha => ev1 ha rfl) rfl en11 rfl rfl trivial ?_
    rintro _ F47 _ ⟨rfl, rfl⟩ l48
    refine StD.next hcl44 (fun h => by cases h) ?_
    by_cases q49 : q40 = q45
    · replace hm := iT hm q49
      refine StD.takeP (i := 4) (v := (.bool true)) rfl (fun _ => Yields.is q49 (Yields.eq rfl rfl)) rfl rfl trivial (by rintro _ _ _ ⟨_, _, _, _, h, _⟩; cases h) (by kernel_rfl) (listed' := #[true, true, true, true, true, false, false, false, false, false, false, false, false, false, false, false, false, false, false, false, false, false, false, false, false, false, false, false, false, false, false, false, false, false]) rfl ?_
      refine StD.takeP (i := 5) (v := (.bool true)) rfl (fun _ => Yields.move rfl) rfl rfl trivial (by rintro _ _ _ ⟨_, _, _, _, h, _⟩; cases h) (by kernel_rfl) (listed' := #[true, true, true, true, true, true, false, false, false, false, false, false, false, false, false, false, false, false, false, false, false, false, false, false, false, false, false, false, false, false, false, false, false, false]) rfl ?_
      refine StD.takeP (i := 6) (v := (.slice A7 q3.1.length c8)) rfl (fun _ => Yields.move rfl) rfl rfl rfl (by rintro _ _ _ ⟨_, _, _, _, h, _⟩; cases h) (by kernel_rfl) (listed' := #[true, true, true, true, true, true, true, false, false, false, false, false, false, false, false, false, false, false, false, false, false, false, false, false, false, false, false, false, false, false, false, false, false, false]) rfl ?_
      refine StD.takeP (i := 7) (v := (.slice A15 q11.1.length c16)) rfl (fun _ => Yields.move rfl) rfl rfl rfl (by rintro _ _ _ ⟨_, _, _, _, h, _⟩; cases h) (by kernel_rfl) (listed' := #[true, true, true, true, true, true, true, true, false, false, false, false, false, false, false, false, false, false, false, false, false, false, false, false, false, false, false, false, false, false, false, false, false, false]) rfl ?_
      refine StD.only (i := 8) rfl (by kernel_rfl) (listed' := #[true, true, true, true, true, true, true, true, true, false, false, false, false, false, false, false, false, false, false, false, false, false, false, false, false, false, false, false, false, false, false, false, false, false]) rfl ?_
      intro hcl50
      obtain ⟨q51, e52, hm⟩ := bS hm
      refine St.call [blk b2 (.cells #[.int .i64 a0.N, .slice pA0_0 a0.Kids.length pc0_0] 24 (0, 0))] (m_ref01_SameInts_sp (Fsl.mono (PH.le_trans l14 (PH.le_trans l22 (PH.le_trans l30 (PH.le_trans l43 l48)))) h9) (Fsl.mono (PH.le_trans l22 (PH.le_trans l30 (PH.le_trans l43 l48))) h17) e52) rfl (fun _ ha => ev2 ha rfl rfl) rfl en12 rfl rfl rfl ?_
      rintro _ F53 _ ⟨rfl, rfl⟩ l54
      refine StD.next hcl50 (fun h => by cases h) ?_
      by_cases q55 : q51 = true
      · replace hm := iT hm q55
        have hb56 : (q51) = true := q55
        try rw [hb56]
        refine StD.takeP (i := 9) (v := (.bool true)) rfl (fun _ => Yields.pick_t rfl rfl) rfl rfl trivial (by rintro _ _ _ ⟨_, _, _, _, h, _⟩; cases h) (by kernel_rfl) (listed' := #[true, true, true, true, true, true, true, true, true, true, false, false, false, false, false, false, false, false, false, false, false, false, false, false, false, false, false, false, false, false, false, false, false, false]) rfl ?_
        refine StD.takeP (i := 10) (v := (.bool true)) rfl (fun _ => Yields.move rfl) rfl rfl trivial (by rintro _ _ _ ⟨_, _, _, _, h, _⟩; cases h) (by kernel_rfl) (listed' := #[true, true, true, true, true, true, true, true, true, true, true, false, false, false, false, false, false, false, false, false, false, false, false, false, false, false, false, false, false, false, false, false, false, false]) rfl ?_
        by_cases q57 : q3.2.1 = true
        · replace hm := iT hm q57
          have hb58 : (q3.2.1) = true := q57
          try rw [hb58]
          refine StD.takeP (i := 11) (v := (.bool true)) rfl (fun _ => Yields.move rfl) rfl rfl rfl (by rintro _ _ _ ⟨_, _, _, _, h, _⟩; cases h) (by kernel_rfl) (listed' := #[true, true, true, true, true, true, true, true, true, true, true, true, false, false, false, false, false, false, false, false, false, false, false, false, false, false, false, false, false, false, false, false, false, false]) rfl ?_
          by_cases q59 : q11.2.1 = true
          · replace hm := iT hm q59
            have hb60 : (q11.2.1) = true := q59
            try rw [hb60]
            refine StD.takeP (i := 12) (v := (.bool true)) rfl (fun _ => Yields.move rfl) rfl rfl rfl (by rintro _ _ _ ⟨_, _, _, _, h, _⟩; cases h) (by kernel_rfl) (listed' := #[true, true, true, true, true, true, true, true, true, true, true, true, true, false, false, false, false, false, false, false, false, false, false, false, false, false, false, false, false, false, false, false, false, false]) rfl ?_
            refine StD.takeP (i := 13) (v := (.bool true)) rfl (fun _ => Yields.is (by decide) (Yields.beqd tb4 rfl rfl)) rfl rfl rfl (by rintro _ _ _ ⟨_, _, _, _, h, _⟩; cases h) (by kernel_rfl) (listed' := #[true, true, true, true, true, true, true, true, true, true, true, true, true, true, false, false, false, false, false, false, false, false, false, false, false, false, false, false, false, false, false, false, false, false]) rfl ?_
            refine StD.takeP (i := 14) (v := (.bool true)) rfl (fun _ => Yields.pick_t rfl rfl) rfl rfl trivial (by rintro _ _ _ ⟨_, _, _, _, h, _⟩; cases h) (by kernel_rfl) (listed' := #[true, true, true, true, true, true, true, true, true, true, true, true, true, true, true, false, false, false, false, false, false, false, false, false, false, false, false, false, false, false, false, false, false, false]) rfl ?_
            refine StD.takeP (i := 15) (v := (.bool true)) rfl (fun _ => Yields.move rfl) rfl rfl trivial (by rintro _ _ _ ⟨_, _, _, _, h, _⟩; cases h) (by kernel_rfl) (listed' := #[true, true, true, true, true, true, true, true, true, true, true, true, true, true, true, true, false, false, false, false, false, false, false, false, false, false, false, false, false, false, false, false, false, false]) rfl ?_
            refine StD.takeP (i := 16) (v := (.int .i64 q3.2.2)) rfl (fun _ => Yields.move rfl) rfl rfl rfl (by rintro _ _ _ ⟨_, _, _, _, h, _⟩; cases h) (by kernel_rfl) (listed' := #[true, true, true, true, true, true, true, true, true, true, true, true, true, true, true, true, true, false, false, false, false, false, false, false, false, false, false, false, false, false, false, false, false, false]) rfl ?_
            refine StD.takeP (i := 17) (v := (.int .i64 q11.2.2)) rfl (fun _ => Yields.move rfl) rfl rfl rfl (by rintro _ _ _ ⟨_, _, _, _, h, _⟩; cases h) (by kernel_rfl) (listed' := #[true, true, true, true, true, true, true, true, true, true, true, true, true, true, true, true, true, true, false, false, false, false, false, false, false, false, false, false, false, false, false, false, false, false]) rfl ?_
            by_cases q61 : q3.2.2 = q11.2.2
            · replace hm := iT hm q61
              refine StD.takeP (i := 18) (v := (.bool true)) rfl (fun _ => Yields.is q61 (Yields.eq rfl rfl)) rfl rfl rfl (by rintro _ _ _ ⟨_, _, _, _, h, _⟩; cases h) (by kernel_rfl) (listed' := #[true, true, true, true, true, true, true, true, true, true, true, true, true, true, true, true, true, true, true, false, false, false, false, false, false, false, false, false, false, false, false, false, false, false]) rfl ?_
              refine StD.takeP (i := 19) (v := (.bool true)) rfl (fun _ => Yields.pick_t rfl rfl) rfl rfl trivial (by rintro _ _ _ ⟨_, _, _, _, h, _⟩; cases h) (by kernel_rfl) (listed' := #[true, true, true, true, true, true, true, true, true, true, true, true, true, true, true, true, true, true, true, true, false, false, false, false, false, false, false, false, false, false, false, false, false, false]) rfl ?_
              refine StD.takeP (i := 20) (v := (.bool true)) rfl (fun _ => Yields.move rfl) rfl rfl trivial (by rintro _ _ _ ⟨_, _, _, _, h, _⟩; cases h) (by kernel_rfl) (listed' := #[true, true, true, true, true, true, true, true, true, true, true, true, true, true, true, true, true, true, true, true, true, false, false, false, false, false, false, false, false, false, false, false, false, false]) rfl ?_
              refine StD.takeP (i := 21) (v := (.slice A23 q19.1.length c24)) rfl (fun _ => Yields.move rfl) rfl rfl rfl (by rintro _ _ _ ⟨_, _, _, _, h, _⟩; cases h) (by kernel_rfl) (listed' := #[true, true, true, true, true, true, true, true, true, true, true, true, true, true, true, true, true, true, true, true, true, true, false, false, false, false, false, false, false, false, false, false, false, false]) rfl ?_
              refine StD.takeP (i := 22) (v := (.slice A31 q27.1.length c32)) rfl (fun _ => Yields.move rfl) rfl rfl rfl (by rintro _ _ _ ⟨_, _, _, _, h, _⟩; cases h) (by kernel_rfl) (listed' := #[true, true, true, true, true, true, true, true, true, true, true, true, true, true, true, true, true, true, true, true, true, true, true, false, false, false, false, false, false, false, false, false, false, false]) rfl ?_
              refine StD.only (i := 23) rfl (by kernel_rfl) (listed' := #[true, true, true, true, true, true, true, true, true, true, true, true, true, true, true, true, true, true, true, true, true, true, true, true, false, false, false, false, false, false, false, false, false, false]) rfl ?_
              intro hcl62
              obtain ⟨q63, e64, hm⟩ := bS hm
              refine St.call [blk b2 (.cells #[.int .i64 a0.N, .slice pA0_0 a0.Kids.length pc0_0] 24 (0, 0))] (m_ref01_SameRows_sp (Fsl.mono (PH.le_trans l30 (PH.le_trans l43 (PH.le_trans l48 l54))) h25) (Fsl.mono (PH.le_trans l43 (PH.le_trans l48 l54)) h33) e64) rfl (fun _ ha => ev2 ha rfl rfl) rfl en13 rfl rfl rfl ?_
              rintro _ F65 _ ⟨rfl, rfl⟩ l66
              refine StD.next hcl62 (fun h => by cases h) ?_
              by_cases q67 : q63 = true
              · replace hm := iT hm q67
                have hb68 : (q63) = true := q67
                try rw [hb68]
                refine StD.takeP (i := 24) (v := (.bool true)) rfl (fun _ => Yields.pick_t rfl rfl) rfl rfl trivial (by rintro _ _ _ ⟨_, _, _, _, h, _⟩; cases h) (by kernel_rfl) (listed' := #[true, true, true, true, true, true, true, true, true, true, true, true, true, true, true, true, true, true, true, true, true, true, true, true, true, false, false, false, false, false, false, false, false, false]) rfl ?_
                refine StD.takeP (i := 25) (v := (.bool true)) rfl (fun _ => Yields.move rfl) rfl rfl trivial (by rintro _ _ _ ⟨_, _, _, _, h, _⟩; cases h) (by kernel_rfl) (listed' := #[true, true, true, true, true, true, true, true, true, true, true, true, true, true, true, true, true, true, true, true, true, true, true, true, true, true, false, false, false, false, false, false, false, false]) rfl ?_
                refine StD.takeP (i := 26) (v := (.int .i64 q19.2)) rfl (fun _ => Yields.move rfl) rfl rfl rfl (by rintro _ _ _ ⟨_, _, _, _, h, _⟩; cases h) (by kernel_rfl) (listed' := #[true, true, true, true, true, true, true, true, true, true, true, true, true, true, true, true, true, true, true, true, true, true, true, true, true, true, true, false, false, false, false, false, false, false]) rfl ?_
                refine StD.takeP (i := 27) (v := (.int .i64 q27.2)) rfl (fun _ => Yields.move rfl) rfl rfl rfl (by rintro _ _ _ ⟨_, _, _, _, h, _⟩; cases h) (by kernel_rfl) (listed' := #[true, true, true, true, true, true, true, true, true, true, true, true, true, true, true, true, true, true, true, true, true, true, true, true, true, true, true, true, false, false, false, false, false, false]) rfl ?_
                by_cases q69 : q19.2 = q27.2
                · replace hm := iT hm q69
                  refine StD.takeP (i := 28) (v := (.bool true)) rfl (fun _ => Yields.is q69 (Yields.eq rfl rfl)) rfl rfl rfl (by rintro _ _ _ ⟨_, _, _, _, h, _⟩; cases h) (by kernel_rfl) (listed' := #[true, true, true, true, true, true, true, true, true, true, true, true, true, true, true, true, true, true, true, true, true, true, true, true, true, true, true, true, true, false, false, false, false, false]) rfl ?_
                  refine StD.takeP (i := 29) (v := (.bool true)) rfl (fun _ => Yields.pick_t rfl rfl) rfl rfl trivial (by rintro _ _ _ ⟨_, _, _, _, h, _⟩; cases h) (by kernel_rfl) (listed' := #[true, true, true, true, true, true, true, true, true, true, true, true, true, true, true, true, true, true, true, true, true, true, true, true, true, true, true, true, true, true, false, false, false, false]) rfl ?_
                  refine StD.takeP (i := 30) (v := (.bool true)) rfl (fun _ => Yields.move rfl) rfl rfl trivial (by rintro _ _ _ ⟨_, _, _, _, h, _⟩; cases h) (by kernel_rfl) (listed' := #[true, true, true, true, true, true, true, true, true, true, true, true, true, true, true, true, true, true, true, true, true, true, true, true, true, true, true, true, true, true, true, false, false, false]) rfl ?_
                  refine StD.only (i := 31) rfl (by kernel_rfl) (listed' := #[true, true, true, true, true, true, true, true, true, true, true, true, true, true, true, true, true, true, true, true, true, true, true, true, true, true, true, true, true, true, true, true, false, false]) rfl ?_
                  intro hcl70
                  obtain ⟨q71, e72, hm⟩ := bS hm
                  refine St.call [blk b2 (.cells #[.int .i64 a0.N, .slice pA0_0 a0.Kids.length pc0_0] 24 (0, 0))] (m_law13_known_sp e72) rfl (fun _ _ => ev0) rfl en14 rfl rfl rfl ?_
                  rintro _ F73 _ ⟨rfl, rfl⟩ l74
                  refine StD.next hcl70 (fun h => by cases h) ?_
                  refine StD.takeP (i := 32) (v := (.bool q71)) rfl (fun _ => Yields.pick_t rfl rfl) rfl rfl trivial (by rintro _ _ _ ⟨_, _, _, _, h, _⟩; cases h) (by kernel_rfl) (listed' := #[true, true, true, true, true, true, true, true, true, true, true, true, true, true, true, true, true, true, true, true, true, true, true, true, true, true, true, true, true, true, true, true, true, false]) rfl ?_
                  refine StD.takeP (i := 33) (v := (.bool q71)) rfl (fun _ => Yields.assign rfl) rfl rfl trivial (by rintro _ _ _ ⟨_, _, _, _, h, _⟩; cases h) (by kernel_rfl) (listed' := #[true, true, true, true, true, true, true, true, true, true, true, true, true, true, true, true, true, true, true, true, true, true, true, true, true, true, true, true, true, true, true, true, true, true]) rfl ?_
                  refine StD.done (by kernel_rfl) ?_
                  obtain rfl := sI hm
                  intro a w ha hs
                  exact ⟨F73, (PH.le_trans l43 (PH.le_trans l48 (PH.le_trans l54 (PH.le_trans l66 l74)))), ha.covers ⟨rfl, trivial⟩, (Among.of Among.none _ hs)⟩
                · replace hm := iF hm q69
                  refine StD.takeP (i := 28) (v := (.bool false)) rfl (fun _ => Yields.isnt q69 (Yields.eq rfl rfl)) rfl rfl rfl (by rintro _ _ _ ⟨_, _, _, _, h, _⟩; cases h) (by kernel_rfl) (listed' := #[true, true, true, true, true, true, true, true, true, true, true, true, true, true, true, true, true, true, true, true, true, true, true, true, true, true, true, true, true, false, false, false, false, false]) rfl ?_
                  refine StD.takeP (i := 29) (v := (.bool false)) rfl (fun _ => Yields.pick_t rfl rfl) rfl rfl trivial (by rintro _ _ _ ⟨_, _, _, _, h, _⟩; cases h) (by kernel_rfl) (listed' := #[true, true, true, true, true, true, true, true, true, true, true, true, true, true, true, true, true, true, true, true, true, true, true, true, true, true, true, true, true, true, false, false, false, false]) rfl ?_
                  refine StD.takeP (i := 30) (v := (.bool false)) rfl (fun _ => Yields.move rfl) rfl rfl trivial (by rintro _ _ _ ⟨_, _, _, _, h, _⟩; cases h) (by kernel_rfl) (listed' := #[true, true, true, true, true, true, true, true, true, true, true, true, true, true, true, true, true, true, true, true, true, true, true, true, true, true, true, true, true, true, true, false, false, false]) rfl ?_
                  refine StD.only (i := 31) rfl (by kernel_rfl) (listed' := #[true, true, true, true, true, true, true, true, true, true, true, true, true, true, true, true, true, true, true, true, true, true, true, true, true, true, true, true, true, true, true, true, false, false]) rfl ?_
                  intro hcl75
                  refine St.unwanted rfl rfl rfl ?_
                  refine StD.next hcl75 (fun h => by cases h) ?_
                  refine StD.takeP (i := 32) (v := (.bool false)) rfl (fun _ => Yields.pick_f rfl rfl) rfl rfl trivial (by rintro _ _ _ ⟨_, _, _, _, h, _⟩; cases h) (by kernel_rfl) (listed' := #[true, true, true, true, true, true, true, true, true, true, true, true, true, true, true, true, true, true, true, true, true, true, true, true, true, true, true, true, true, true, true, true, true, false]) rfl ?_
                  refine StD.takeP (i := 33) (v := (.bool false)) rfl (fun _ => Yields.assign rfl) rfl rfl trivial (by rintro _ _ _ ⟨_, _, _, _, h, _⟩; cases h) (by kernel_rfl) (listed' := #[true, true, true, true, true, true, true, true, true, true, true, true, true, true, true, true, true, true, true, true, true, true, true, true, true, true, true, true, true, true, true, true, true, true]) rfl ?_
                  refine StD.done (by kernel_rfl) ?_
                  obtain rfl := sI hm
                  intro a w ha hs
                  exact ⟨F65, (PH.le_trans l43 (PH.le_trans l48 (PH.le_trans l54 l66))), ha.covers ⟨rfl, trivial⟩, (Among.of Among.none _ hs)⟩
              · replace hm := iF hm q67
                have hb76 : (q63) = false := eq_false_of_ne_true q67
                try rw [hb76]
                refine StD.takeP (i := 24) (v := (.bool false)) rfl (fun _ => Yields.pick_t rfl rfl) rfl rfl trivial (by rintro _ _ _ ⟨_, _, _, _, h, _⟩; cases h) (by kernel_rfl) (listed' := #[true, true, true, true, true, true, true, true, true, true, true, true, true, true, true, true, true, true, true, true, true, true, true, true, true, false, false, false, false, false, false, false, false, false]) rfl ?_
                refine StD.takeP (i := 25) (v := (.bool false)) rfl (fun _ => Yields.move rfl) rfl rfl trivial (by rintro _ _ _ ⟨_, _, _, _, h, _⟩; cases h) (by kernel_rfl) (listed' := #[true, true, true, true, true, true, true, true, true, true, true, true, true, true, true, true, true, true, true, true, true, true, true, true, true, true, false, false, false, false, false, false, false, false]) rfl ?_
                refine StD.takeNot (i := 26) rfl rfl rfl rfl (by rintro _ _ _ ⟨_, _, _, _, h, _⟩; cases h) (by kernel_rfl) (listed' := #[true, true, true, true, true, true, true, true, true, true, true, true, true, true, true, true, true, true, true, true, true, true, true, true, true, true, true, false, false, false, false, false, false, false]) rfl ?_
                refine StD.takeNot (i := 27) rfl rfl rfl rfl (by rintro _ _ _ ⟨_, _, _, _, h, _⟩; cases h) (by kernel_rfl) (listed' := #[true, true, true, true, true, true, true, true, true, true, true, true, true, true, true, true, true, true, true, true, true, true, true, true, true, true, true, true, false, false, false, false, false, false]) rfl ?_
                refine StD.takeNot (i := 28) rfl rfl rfl rfl (by rintro _ _ _ ⟨_, _, _, _, h, _⟩; cases h) (by kernel_rfl) (listed' := #[true, true, true, true, true, true, true, true, true, true, true, true, true, true, true, true, true, true, true, true, true, true, true, true, true, true, true, true, true, false, false, false, false, false]) rfl ?_
                refine StD.takeP (i := 29) (v := (.bool false)) rfl (fun _ => Yields.pick_f rfl rfl) rfl rfl trivial (by rintro _ _ _ ⟨_, _, _, _, h, _⟩; cases h) (by kernel_rfl) (listed' := #[true, true, true, true, true, true, true, true, true, true, true, true, true, true, true, true, true, true, true, true, true, true, true, true, true, true, true, true, true, true, false, false, false, false]) rfl ?_
                refine StD.takeP (i := 30) (v := (.bool false)) rfl (fun _ => Yields.move rfl) rfl rfl trivial (by rintro _ _ _ ⟨_, _, _, _, h, _⟩; cases h) (by kernel_rfl) (listed' := #[true, true, true, true, true, true, true, true, true, true, true, true, true, true, true, true, true, true, true, true, true, true, true, true, true, true, true, true, true, true, true, false, false, false]) rfl ?_
                refine StD.only (i := 31) rfl (by kernel_rfl) (listed' := #[true, true, true, true, true, true, true, true, true, true, true, true, true, true, true, true, true, true, true, true, true, true, true, true, true, true, true, true, true, true, true, true, false, false]) rfl ?_
                intro hcl77
                refine St.unwanted rfl rfl rfl ?_
                refine StD.next hcl77 (fun h => by cases h) ?_
                refine StD.takeP (i := 32) (v := (.bool false)) rfl (fun _ => Yields.pick_f rfl rfl) rfl rfl trivial (by rintro _ _ _ ⟨_, _, _, _, h, _⟩; cases h) (by kernel_rfl) (listed' := #[true, true, true, true, true, true, true, true, true, true, true, true, true, true, true, true, true, true, true, true, true, true, true, true, true, true, true, true, true, true, true, true, true, false]) rfl ?_
                refine StD.takeP (i := 33) (v := (.bool false)) rfl (fun _ => Yields.assign rfl) rfl rfl trivial (by rintro _ _ _ ⟨_, _, _, _, h, _⟩; cases h) (by kernel_rfl) (listed' := #[true, true, true, true, true, true, true, true, true, true, true, true, true, true, true, true, true, true, true, true, true, true, true, true, true, true, true, true, true, true, true, true, true, true]) rfl ?_
                refine StD.done (by kernel_rfl) ?_
                obtain rfl := sI hm
                intro a w ha hs
                exact ⟨F65, (PH.le_trans l43 (PH.le_trans l48 (PH.le_trans l54 l66))), ha.covers ⟨rfl, trivial⟩, (Among.of Among.none _ hs)⟩
            · replace hm := iF hm q61
              refine StD.takeP (i := 18) (v := (.bool false)) rfl (fun _ => Yields.isnt q61 (Yields.eq rfl rfl)) rfl rfl rfl (by rintro _ _ _ ⟨_, _, _, _, h, _⟩; cases h) (by kernel_rfl) (listed' := #[true, true, true, true, true, true, true, true, true, true, true, true, true, true, true, true, true, true, true, false, false, false, false, false, false, false, false, false, false, false, false, false, false, false]) rfl ?_
              refine StD.takeP (i := 19) (v := (.bool false)) rfl (fun _ => Yields.pick_t rfl rfl) rfl rfl trivial (by rintro _ _ _ ⟨_, _, _, _, h, _⟩; cases h) (by kernel_rfl) (listed' := #[true, true, true, true, true, true, true, true, true, true, true, true, true, true, true, true, true, true, true, true, false, false, false, false, false, false, false, false, false, false, false, false, false, false]) rfl ?_
              refine StD.takeP (i := 20) (v := (.bool false)) rfl (fun _ => Yields.move rfl) rfl rfl trivial (by rintro _ _ _ ⟨_, _, _, _, h, _⟩; cases h) (by kernel_rfl) (listed' := #[true, true, true, true, true, true, true, true, true, true, true, true, true, true, true, true, true, true, true, true, true, false, false, false, false, false, false, false, false, false, false, false, false, false]) rfl ?_
              refine StD.takeNot (i := 21) rfl rfl rfl rfl (by rintro _ _ _ ⟨_, _, _, _, h, _⟩; cases h) (by kernel_rfl) (listed' := #[true, true, true, true, true, true, true, true, true, true, true, true, true, true, true, true, true, true, true, true, true, true, false, false, false, false, false, false, false, false, false, false, false, false]) rfl ?_
              refine StD.takeNot (i := 22) rfl rfl rfl rfl (by rintro _ _ _ ⟨_, _, _, _, h, _⟩; cases h) (by kernel_rfl) (listed' := #[true, true, true, true, true, true, true, true, true, true, true, true, true, true, true, true, true, true, true, true, true, true, true, false, false, false, false, false, false, false, false, false, false, false]) rfl ?_
              refine StD.only (i := 23) rfl (by kernel_rfl) (listed' := #[true, true, true, true, true, true, true, true, true, true, true, true, true, true, true, true, true, true, true, true, true, true, true, true, false, false, false, false, false, false, false, false, false, false]) rfl ?_
              intro hcl78
              refine St.unwanted rfl rfl rfl ?_
              refine StD.next hcl78 (fun h => by cases h) ?_
              refine StD.takeP (i := 24) (v := (.bool false)) rfl (fun _ => Yields.pick_f rfl rfl) rfl rfl trivial (by rintro _ _ _ ⟨_, _, _, _, h, _⟩; cases h) (by kernel_rfl) (listed' := #[true, true, true, true, true, true, true, true, true, true, true, true, true, true, true, true, true, true, true, true, true, true, true, true, true, false, false, false, false, false, false, false, false, false]) rfl ?_
              refine StD.takeP (i := 25) (v := (.bool false)) rfl (fun _ => Yields.move rfl) rfl rfl trivial (by rintro _ _ _ ⟨_, _, _, _, h, _⟩; cases h) (by kernel_rfl) (listed' := #[true, true, true, true, true, true, true, true, true, true, true, true, true, true, true, true, true, true, true, true, true, true, true, true, true, true, false, false, false, false, false, false, false, false]) rfl ?_
              refine StD.takeNot (i := 26) rfl rfl rfl rfl (by rintro _ _ _ ⟨_, _, _, _, h, _⟩; cases h) (by kernel_rfl) (listed' := #[true, true, true, true, true, true, true, true, true, true, true, true, true, true, true, true, true, true, true, true, true, true, true, true, true, true, true, false, false, false, false, false, false, false]) rfl ?_
              refine StD.takeNot (i := 27) rfl rfl rfl rfl (by rintro _ _ _ ⟨_, _, _, _, h, _⟩; cases h) (by kernel_rfl) (listed' := #[true, true, true, true, true, true, true, true, true, true, true, true, true, true, true, true, true, true, true, true, true, true, true, true, true, true, true, true, false, false, false, false, false, false]) rfl ?_
              refine StD.takeNot (i := 28) rfl rfl rfl rfl (by rintro _ _ _ ⟨_, _, _, _, h, _⟩; cases h) (by kernel_rfl) (listed' := #[true, true, true, true, true, true, true, true, true, true, true, true, true, true, true, true, true, true, true, true, true, true, true, true, true, true, true, true, true, false, false, false, false, false]) rfl ?_
              refine StD.takeP (i := 29) (v := (.bool false)) rfl (fun _ => Yields.pick_f rfl rfl) rfl rfl trivial (by rintro _ _ _ ⟨_, _, _, _, h, _⟩; cases h) (by kernel_rfl) (listed' := #[true, true, true, true, true, true, true, true, true, true, true, true, true, true, true, true, true, true, true, true, true, true, true, true, true, true, true, true, true, true, false, false, false, false]) rfl ?_
              refine StD.takeP (i := 30) (v := (.bool false)) rfl (fun _ => Yields.move rfl) rfl rfl trivial (by rintro _ _ _ ⟨_, _, _, _, h, _⟩; cases h) (by kernel_rfl) (listed' := #[true, true, true, true, true, true, true, true, true, true, true, true, true, true, true, true, true, true, true, true, true, true, true, true, true, true, true, true, true, true, true, false, false, false]) rfl ?_
              refine StD.only (i := 31) rfl (by kernel_rfl) (listed' := #[true, true, true, true, true, true, true, true, true, true, true, true, true, true, true, true, true, true, true, true, true, true, true, true, true, true, true, true, true, true, true, true, false, false]) rfl ?_
              intro hcl79
              refine St.unwanted rfl rfl rfl ?_
              refine StD.next hcl79 (fun h => by cases h) ?_
              refine StD.takeP (i := 32) (v := (.bool false)) rfl (fun _ => Yields.pick_f rfl rfl) rfl rfl trivial (by rintro _ _ _ ⟨_, _, _, _, h, _⟩; cases h) (by kernel_rfl) (listed' := #[true, true, true, true, true, true, true, true, true, true, true, true, true, true, true, true, true, true, true, true, true, true, true, true, true, true, true, true, true, true, true, true, true, false]) rfl ?_
              refine StD.takeP (i := 33) (v := (.bool false)) rfl (fun _ => Yields.assign rfl) rfl rfl trivial (by rintro _ _ _ ⟨_, _, _, _, h, _⟩; cases h) (by kernel_rfl) (listed' := #[true, true, true, true, true, true, true, true, true, true, true, true, true, true, true, true, true, true, true, true, true, true, true, true, true, true, true, true, true, true, true, true, true, true]) rfl ?_
              refine StD.done (by kernel_rfl) ?_
              obtain rfl := sI hm
              intro a w ha hs
              exact ⟨F53, (PH.le_trans l43 (PH.le_trans l48 l54)), ha.covers ⟨rfl, trivial⟩, (Among.of Among.none _ hs)⟩
          · replace hm := iF hm q59
            have hb80 : (q11.2.1) = false := eq_false_of_ne_true q59
            try rw [hb80]
            refine StD.takeP (i := 12) (v := (.bool false)) rfl (fun _ => Yields.move rfl) rfl rfl rfl (by rintro _ _ _ ⟨_, _, _, _, h, _⟩; cases h) (by kernel_rfl) (listed' := #[true, true, true, true, true, true, true, true, true, true, true, true, true, false, false, false, false, false, false, false, false, false, false, false, false, false, false, false, false, false, false, false, false, false]) rfl ?_
            refine StD.takeP (i := 13) (v := (.bool false)) rfl (fun _ => Yields.isnt (by decide) (Yields.beqd tb4 rfl rfl)) rfl rfl rfl (by rintro _ _ _ ⟨_, _, _, _, h, _⟩; cases h) (by kernel_rfl) (listed' := #[true, true, true, true, true, true, true, true, true, true, true, true, true, true, false, false, false, false, false, false, false, false, false, false, false, false, false, false, false, false, false, false, false, false]) rfl ?_
            refine StD.takeP (i := 14) (v := (.bool false)) rfl (fun _ => Yields.pick_t rfl rfl) rfl rfl trivial (by rintro _ _ _ ⟨_, _, _, _, h, _⟩; cases h) (by kernel_rfl) (listed' := #[true, true, true, true, true, true, true, true, true, true, true, true, true, true, true, false, false, false, false, false, false, false, false, false, false, false, false, false, false, false, false, false, false, false]) rfl ?_
            refine StD.takeP (i := 15) (v := (.bool false)) rfl (fun _ => Yields.move rfl) rfl rfl trivial (by rintro _ _ _ ⟨_, _, _, _, h, _⟩; cases h) (by kernel_rfl) (listed' := #[true, true, true, true, true, true, true, true, true, true, true, true, true, true, true, true, false, false, false, false, false, false, false, false, false, false, false, false, false, false, false, false, false, false]) rfl ?_
            refine StD.takeNot (i := 16) rfl rfl rfl rfl (by rintro _ _ _ ⟨_, _, _, _, h, _⟩; cases h) (by kernel_rfl) (listed' := #[true, true, true, true, true, true, true, true, true, true, true, true, true, true, true, true, true, false, false, false, false, false, false, false, false, false, false, false, false, false, false, false, false, false]) rfl ?_
            refine StD.takeNot (i := 17) rfl rfl rfl rfl (by rintro _ _ _ ⟨_, _, _, _, h, _⟩; cases h) (by kernel_rfl) (listed' := #[true, true, true, true, true, true, true, true, true, true, true, true, true, true, true, true, true, true, false, false, false, false, false, false, false, false, false, false, false, false, false, false, false, false]) rfl ?_
            refine StD.takeNot (i := 18) rfl rfl rfl rfl (by rintro _ _ _ ⟨_, _, _, _, h, _⟩; cases h) (by kernel_rfl) (listed' := #[true, true, true, true, true, true, true, true, true, true, true, true, true, true, true, true, true, true, true, false, false, false, false, false, false, false, false, false, false, false, false, false, false, false]) rfl ?_
            refine StD.takeP (i := 19) (v := (.bool false)) rfl (fun _ => Yields.pick_f rfl rfl) rfl rfl trivial (by rintro _ _ _ ⟨_, _, _, _, h, _⟩; cases h) (by kernel_rfl) (listed' := #[true, true, true, true, true, true, true, true, true, true, true, true, true, true, true, true, true, true, true, true, false, false, false, false, false, false, false, false, false, false, false, false, false, false]) rfl ?_
            refine StD.takeP (i := 20) (v := (.bool false)) rfl (fun _ => Yields.move rfl) rfl rfl trivial (by rintro _ _ _ ⟨_, _, _, _, h, _⟩; cases h) (by kernel_rfl) (listed' := #[true, true, true, true, true, true, true, true, true, true, true, true, true, true, true, true, true, true, true, true, true, false, false, false, false, false, false, false, false, false, false, false, false, false]) rfl ?_
            refine StD.takeNot (i := 21) rfl rfl rfl rfl (by rintro _ _ _ ⟨_, _, _, _, h, _⟩; cases h) (by kernel_rfl) (listed' := #[true, true, true, true, true, true, true, true, true, true, true, true, true, true, true, true, true, true, true, true, true, true, false, false, false, false, false, false, false, false, false, false, false, false]) rfl ?_
            refine StD.takeNot (i := 22) rfl rfl rfl rfl (by rintro _ _ _ ⟨_, _, _, _, h, _⟩; cases h) (by kernel_rfl) (listed' := #[true, true, true, true, true, true, true, true, true, true, true, true, true, true, true, true, true, true, true, true, true, true, true, false, false, false, false, false, false, false, false, false, false, false]) rfl ?_
            refine StD.only (i := 23) rfl (by kernel_rfl) (listed' := #[true, true, true, true, true, true, true, true, true, true, true, true, true, true, true, true, true, true, true, true, true, true, true, true, false, false, false, false, false, false, false, false, false, false]) rfl ?_
            intro hcl81
            refine St.unwanted rfl rfl rfl ?_
            refine StD.next hcl81 (fun h => by cases h) ?_
            refine StD.takeP (i := 24) (v := (.bool false)) rfl (fun _ => Yields.pick_f rfl rfl) rfl rfl trivial (by rintro _ _ _ ⟨_, _, _, _, h, _⟩; cases h) (by kernel_rfl) (listed' := #[true, true, true, true, true, true, true, true, true, true, true, true, true, true, true, true, true, true, true, true, true, true, true, true, true, false, false, false, false, false, false, false, false, false]) rfl ?_
            refine StD.takeP (i := 25) (v := (.bool false)) rfl (fun _ => Yields.move rfl) rfl rfl trivial (by rintro _ _ _ ⟨_, _, _, _, h, _⟩; cases h) (by kernel_rfl) (listed' := #[true, true, true, true, true, true, true, true, true, true, true, true, true, true, true, true, true, true, true, true, true, true, true, true, true, true, false, false, false, false, false, false, false, false]) rfl ?_
            refine StD.takeNot (i := 26) rfl rfl rfl rfl (by rintro _ _ _ ⟨_, _, _, _, h, _⟩; cases h) (by kernel_rfl) (listed' := #[true, true, true, true, true, true, true, true, true, true, true, true, true, true, true, true, true, true, true, true, true, true, true, true, true, true, true, false, false, false, false, false, false, false]) rfl ?_
            refine StD.takeNot (i := 27) rfl rfl rfl rfl (by rintro _ _ _ ⟨_, _, _, _, h, _⟩; cases h) (by kernel_rfl) (listed' := #[true, true, true, true, true, true, true, true, true, true, true, true, true, true, true, true, true, true, true, true, true, true, true, true, true, true, true, true, false, false, false, false, false, false]) rfl ?_
            refine StD.takeNot (i := 28) rfl rfl rfl rfl (by rintro _ _ _ ⟨_, _, _, _, h, _⟩; cases h) (by kernel_rfl) (listed' := #[true, true, true, true, true, true, true, true, true, true, true, true, true, true, true, true, true, true, true, true, true, true, true, true, true, true, true, true, true, false, false, false, false, false]) rfl ?_
            refine StD.takeP (i := 29) (v := (.bool false)) rfl (fun _ => Yields.pick_f rfl rfl) rfl rfl trivial (by rintro _ _ _ ⟨_, _, _, _, h, _⟩; cases h) (by kernel_rfl) (listed' := #[true, true, true, true, true, true, true, true, true, true, true, true, true, true, true, true, true, true, true, true, true, true, true, true, true, true, true, true, true, true, false, false, false, false]) rfl ?_
            refine StD.takeP (i := 30) (v := (.bool false)) rfl (fun _ => Yields.move rfl) rfl rfl trivial (by rintro _ _ _ ⟨_, _, _, _, h, _⟩; cases h) (by kernel_rfl) (listed' := #[true, true, true, true, true, true, true, true, true, true, true, true, true, true, true, true, true, true, true, true, true, true, true, true, true, true, true, true, true, true, true, false, false, false]) rfl ?_
            refine StD.only (i := 31) rfl (by kernel_rfl) (listed' := #[true, true, true, true, true, true, true, true, true, true, true, true, true, true, true, true, true, true, true, true, true, true, true, true, true, true, true, true, true, true, true, true, false, false]) rfl ?_
            intro hcl82
            refine St.unwanted rfl rfl rfl ?_
            refine StD.next hcl82 (fun h => by cases h) ?_
            refine StD.takeP (i := 32) (v := (.bool false)) rfl (fun _ => Yields.pick_f rfl rfl) rfl rfl trivial (by rintro _ _ _ ⟨_, _, _, _, h, _⟩; cases h) (by kernel_rfl) (listed' := #[true, true, true, true, true, true, true, true, true, true, true, true, true, true, true, true, true, true, true, true, true, true, true, true, true, true, true, true, true, true, true, true, true, false]) rfl ?_
            refine StD.takeP (i := 33) (v := (.bool false)) rfl (fun _ => Yields.assign rfl) rfl rfl trivial (by rintro _ _ _ ⟨_, _, _, _, h, _⟩; cases h) (by kernel_rfl) (listed' := #[true, true, true, true, true, true, true, true, true, true, true, true, true, true, true, true, true, true, true, true, true, true, true, true, true, true, true, true, true, true, true, true, true, true]) rfl ?_
            refine StD.done (by kernel_rfl) ?_
            obtain rfl := sI hm
            intro a w ha hs
            exact ⟨F53, (PH.le_trans l43 (PH.le_trans l48 l54)), ha.covers ⟨rfl, trivial⟩, (Among.of Among.none _ hs)⟩
        · replace hm := iF hm q57
          have hb83 : (q3.2.1) = false := eq_false_of_ne_true q57
          try rw [hb83]
          refine StD.takeP (i := 11) (v := (.bool false)) rfl (fun _ => Yields.move rfl) rfl rfl rfl (by rintro _ _ _ ⟨_, _, _, _, h, _⟩; cases h) (by kernel_rfl) (listed' := #[true, true, true, true, true, true, true, true, true, true, true, true, false, false, false, false, false, false, false, false, false, false, false, false, false, false, false, false, false, false, false, false, false, false]) rfl ?_
          by_cases q84 : q11.2.1 = true
          · replace hm := iT hm q84
            have hb85 : (q11.2.1) = true := q84
            try rw [hb85]
            refine StD.takeP (i := 12) (v := (.bool true)) rfl (fun _ => Yields.move rfl) rfl rfl rfl (by rintro _ _ _ ⟨_, _, _, _, h, _⟩; cases h) (by kernel_rfl) (listed' := #[true, true, true, true, true, true, true, true, true, true, true, true, true, false, false, false, false, false, false, false, false, false, false, false, false, false, false, false, false, false, false, false, false, false]) rfl ?_
            refine StD.takeP (i := 13) (v := (.bool false)) rfl (fun _ => Yields.isnt (by decide) (Yields.beqd tb4 rfl rfl)) rfl rfl rfl (by rintro _ _ _ ⟨_, _, _, _, h, _⟩; cases h) (by kernel_rfl) (listed' := #[true, true, true, true, true, true, true, true, true, true, true, true, true, true, false, false, false, false, false, false, false, false, false, false, false, false, false, false, false, false, false, false, false, false]) rfl ?_
            refine StD.takeP (i := 14) (v := (.bool false)) rfl (fun _ => Yields.pick_t rfl rfl) rfl rfl trivial (by rintro _ _ _ ⟨_, _, _, _, h, _⟩; cases h) (by kernel_rfl) (listed' := #[true, true, true, true, true, true, true, true, true, true, true, true, true, true, true, false, false, false, false, false, false, false, false, false, false, false, false, false, false, false, false, false, false, false]) rfl ?_
            refine StD.takeP (i := 15) (v := (.bool false)) rfl (fun _ => Yields.move rfl) rfl rfl trivial (by rintro _ _ _ ⟨_, _, _, _, h, _⟩; cases h) (by kernel_rfl) (listed' := #[true, true, true, true, true, true, true, true, true, true, true, true, true, true, true, true, false, false, false, false, false, false, false, false, false, false, false, false, false, false, false, false, false, false]) rfl ?_
            refine StD.takeNot (i := 16) rfl rfl rfl rfl (by rintro _ _ _ ⟨_, _, _, _, h, _⟩; cases h) (by kernel_rfl) (listed' := #[true, true, true, true, true, true, true, true, true, true, true, true, true, true, true, true, true, false, false, false, false, false, false, false, false, false, false, false, false, false, false, false, false, false]) rfl ?_
            refine StD.takeNot (i := 17) rfl rfl rfl rfl (by rintro _ _ _ ⟨_, _, _, _, h, _⟩; cases h) (by kernel_rfl) (listed' := #[true, true, true, true, true, true, true, true, true, true, true, true, true, true, true, true, true, true, false, false, false, false, false, false, false, false, false, false, false, false, false, false, false, false]) rfl ?_
            refine StD.takeNot (i := 18) rfl rfl rfl rfl (by rintro _ _ _ ⟨_, _, _, _, h, _⟩; cases h) (by kernel_rfl) (listed' := #[true, true, true, true, true, true, true, true, true, true, true, true, true, true, true, true, true, true, true, false, false, false, false, false, false, false, false, false, false, false, false, false, false, false]) rfl ?_
            refine StD.takeP (i := 19) (v := (.bool false)) rfl (fun _ => Yields.pick_f rfl rfl) rfl rfl trivial (by rintro _ _ _ ⟨_, _, _, _, h, _⟩; cases h) (by kernel_rfl) (listed' := #[true, true, true, true, true, true, true, true, true, true, true, true, true, true, true, true, true, true, true, true, false, false, false, false, false, false, false, false, false, false, false, false, false, false]) rfl ?_
            refine StD.takeP (i := 20) (v := (.bool false)) rfl (fun _ => Yields.move rfl) rfl rfl trivial (by rintro _ _ _ ⟨_, _, _, _, h, _⟩; cases h) (by kernel_rfl) (listed' := #[true, true, true, true, true, true, true, true, true, true, true, true, true, true, true, true, true, true, true, true, true, false, false, false, false, false, false, false, false, false, false, false, false, false]) rfl ?_
            refine StD.takeNot (i := 21) rfl rfl rfl rfl (by rintro _ _ _ ⟨_, _, _, _, h, _⟩; cases h) (by kernel_rfl) (listed' := #[true, true, true, true, true, true, true, true, true, true, true, true, true, true, true, true, true, true, true, true, true, true, false, false, false, false, false, false, false, false, false, false, false, false]) rfl ?_
            refine StD.takeNot (i := 22) rfl rfl rfl rfl (by rintro _ _ _ ⟨_, _, _, _, h, _⟩; cases h) (by kernel_rfl) (listed' := #[true, true, true, true, true, true, true, true, true, true, true, true, true, true, true, true, true, true, true, true, true, true, true, false, false, false, false, false, false, false, false, false, false, false]) rfl ?_
            refine StD.only (i := 23) rfl (by kernel_rfl) (listed' := #[true, true, true, true, true, true, true, true, true, true, true, true, true, true, true, true, true, true, true, true, true, true, true, true, false, false, false, false, false, false, false, false, false, false]) rfl ?_
            intro hcl86
            refine St.unwanted rfl rfl rfl ?_
            refine StD.next hcl86 (fun h => by cases h) ?_
            refine StD.takeP (i := 24) (v := (.bool false)) rfl (fun _ => Yields.pick_f rfl rfl) rfl rfl trivial (by rintro _ _ _ ⟨_, _, _, _, h, _⟩; cases h) (by kernel_rfl) (listed' := #[true, true, true, true, true, true, true, true, true, true, true, true, true, true, true, true, true, true, true, true, true, true, true, true, true, false, false, false, false, false, false, false, false, false]) rfl ?_
            refine StD.takeP (i := 25) (v := (.bool false)) rfl (fun _ => Yields.move rfl) rfl rfl trivial (by rintro _ _ _ ⟨_, _, _, _, h, _⟩; cases h) (by kernel_rfl) (listed' := #[true, true, true, true, true, true, true, true, true, true, true, true, true, true, true, true, true, true, true, true, true, true, true, true, true, true, false, false, false, false, false, false, false, false]) rfl ?_
            refine StD.takeNot (i := 26) rfl rfl rfl rfl (by rintro _ _ _ ⟨_, _, _, _, h, _⟩; cases h) (by kernel_rfl) (listed' := #[true, true, true, true, true, true, true, true, true, true, true, true, true, true, true, true, true, true, true, true, true, true, true, true, true, true, true, false, false, false, false, false, false, false]) rfl ?_
            refine StD.takeNot (i := 27) rfl rfl rfl rfl (by rintro _ _ _ ⟨_, _, _, _, h, _⟩; cases h) (by kernel_rfl) (listed' := #[true, true, true, true, true, true, true, true, true, true, true, true, true, true, true, true, true, true, true, true, true, true, true, true, true, true, true, true, false, false, false, false, false, false]) rfl ?_
            refine StD.takeNot (i := 28) rfl rfl rfl rfl (by rintro _ _ _ ⟨_, _, _, _, h, _⟩; cases h) (by kernel_rfl) (listed' := #[true, true, true, true, true, true, true, true, true, true, true, true, true, true, true, true, true, true, true, true, true, true, true, true, true, true, true, true, true, false, false, false, false, false]) rfl ?_
            refine StD.takeP (i := 29) (v := (.bool false)) rfl (fun _ => Yields.pick_f rfl rfl) rfl rfl trivial (by rintro _ _ _ ⟨_, _, _, _, h, _⟩; cases h) (by kernel_rfl) (listed' := #[true, true, true, true, true, true, true, true, true, true, true, true, true, true, true, true, true, true, true, true, true, true, true, true, true, true, true, true, true, true, false, false, false, false]) rfl ?_
            refine StD.takeP (i := 30) (v := (.bool false)) rfl (fun _ => Yields.move rfl) rfl rfl trivial (by rintro _ _ _ ⟨_, _, _, _, h, _⟩; cases h) (by kernel_rfl) (listed' := #[true, true, true, true, true, true, true, true, true, true, true, true, true, true, true, true, true, true, true, true, true, true, true, true, true, true, true, true, true, true, true, false, false, false]) rfl ?_
            refine StD.only (i := 31) rfl (by kernel_rfl) (listed' := #[true, true, true, true, true, true, true, true, true, true, true, true, true, true, true, true, true, true, true, true, true, true, true, true, true, true, true, true, true, true, true, true, false, false]) rfl ?_
            intro hcl87
            refine St.unwanted rfl rfl rfl ?_
            refine StD.next hcl87 (fun h => by cases h) ?_
            refine StD.takeP (i := 32) (v := (.bool false)) rfl (fun _ => Yields.pick_f rfl rfl) rfl rfl trivial (by rintro _ _ _ ⟨_, _, _, _, h, _⟩; cases h) (by kernel_rfl) (listed' := #[true, true, true, true, true, true, true, true, true, true, true, true, true, true, true, true, true, true, true, true, true, true, true, true, true, true, true, true, true, true, true, true, true, false]) rfl ?_
            refine StD.takeP (i := 33) (v := (.bool false)) rfl (fun _ => Yields.assign rfl) rfl rfl trivial (by rintro _ _ _ ⟨_, _, _, _, h, _⟩; cases h) (by kernel_rfl) (listed' := #[true, true, true, true, true, true, true, true, true, true, true, true, true, true, true, true, true, true, true, true, true, true, true, true, true, true, true, true, true, true, true, true, true, true]) rfl ?_
            refine StD.done (by kernel_rfl) ?_
            obtain rfl := sI hm
            intro a w ha hs
            exact ⟨F53, (PH.le_trans l43 (PH.le_trans l48 l54)), ha.covers ⟨rfl, trivial⟩, (Among.of Among.none _ hs)⟩
          · replace hm := iF hm q84
            have hb88 : (q11.2.1) = false := eq_false_of_ne_true q84
            try rw [hb88]
            refine StD.takeP (i := 12) (v := (.bool false)) rfl (fun _ => Yields.move rfl) rfl rfl rfl (by rintro _ _ _ ⟨_, _, _, _, h, _⟩; cases h) (by kernel_rfl) (listed' := #[true, true, true, true, true, true, true, true, true, true, true, true, true, false, false, false, false, false, false, false, false, false, false, false, false, false, false, false, false, false, false, false, false, false]) rfl ?_
            refine StD.takeP (i := 13) (v := (.bool true)) rfl (fun _ => Yields.is (by decide) (Yields.beqd tb4 rfl rfl)) rfl rfl rfl (by rintro _ _ _ ⟨_, _, _, _, h, _⟩; cases h) (by kernel_rfl) (listed' := #[true, true, true, true, true, true, true, true, true, true, true, true, true, true, false, false, false, false, false, false, false, false, false, false, false, false, false, false, false, false, false, false, false, false]) rfl ?_
            refine StD.takeP (i := 14) (v := (.bool true)) rfl (fun _ => Yields.pick_t rfl rfl) rfl rfl trivial (by rintro _ _ _ ⟨_, _, _, _, h, _⟩; cases h) (by kernel_rfl) (listed' := #[true, true, true, true, true, true, true, true, true, true, true, true, true, true, true, false, false, false, false, false, false, false, false, false, false, false, false, false, false, false, false, false, false, false]) rfl ?_
            refine StD.takeP (i := 15) (v := (.bool true)) rfl (fun _ => Yields.move rfl) rfl rfl trivial (by rintro _ _ _ ⟨_, _, _, _, h, _⟩; cases h) (by kernel_rfl) (listed' := #[true, true, true, true, true, true, true, true, true, true, true, true, true, true, true, true, false, false, false, false, false, false, false, false, false, false, false, false, false, false, false, false, false, false]) rfl ?_
            refine StD.takeP (i := 16) (v := (.int .i64 q3.2.2)) rfl (fun _ => Yields.move rfl) rfl rfl rfl (by rintro _ _ _ ⟨_, _, _, _, h, _⟩; cases h) (by kernel_rfl) (listed' := #[true, true, true, true, true, true, true, true, true, true, true, true, true, true, true, true, true, false, false, false, false, false, false, false, false, false, false, false, false, false, false, false, false, false]) rfl ?_
            refine StD.takeP (i := 17) (v := (.int .i64 q11.2.2)) rfl (fun _ => Yields.move rfl) rfl rfl rfl (by rintro _ _ _ ⟨_, _, _, _, h, _⟩; cases h) (by kernel_rfl) (listed' := #[true, true, true, true, true, true, true, true, true, true, true, true, true, true, true, true, true, true, false, false, false, false, false, false, false, false, false, false, false, false, false, false, false, false]) rfl ?_
            by_cases q89 : q3.2.2 = q11.2.2
            · replace hm := iT hm q89
              refine StD.takeP (i := 18) (v := (.bool true)) rfl (fun _ => Yields.is q89 (Yields.eq rfl rfl)) rfl rfl rfl (by rintro _ _ _ ⟨_, _, _, _, h, _⟩; cases h) (by kernel_rfl) (listed' := #[true, true, true, true, true, true, true, true, true, true, true, true, true, true, true, true, true, true, true, false, false, false, false, false, false, false, false, false, false, false, false, false, false, false]) rfl ?_
              refine StD.takeP (i := 19) (v := (.bool true)) rfl (fun _ => Yields.pick_t rfl rfl) rfl rfl trivial (by rintro _ _ _ ⟨_, _, _, _, h, _⟩; cases h) (by kernel_rfl) (listed' := #[true, true, true, true, true, true, true, true, true, true, true, true, true, true, true, true, true, true, true, true, false, false, false, false, false, false, false, false, false, false, false, false, false, false]) rfl ?_
              refine StD.takeP (i := 20) (v := (.bool true)) rfl (fun _ => Yields.move rfl) rfl rfl trivial (by rintro _ _ _ ⟨_, _, _, _, h, _⟩; cases h) (by kernel_rfl) (listed' := #[true, true, true, true, true, true, true, true, true, true, true, true, true, true, true, true, true, true, true, true, true, false, false, false, false, false, false, false, false, false, false, false, false, false]) rfl ?_
              refine StD.takeP (i := 21) (v := (.slice A23 q19.1.length c24)) rfl (fun _ => Yields.move rfl) rfl rfl rfl (by rintro _ _ _ ⟨_, _, _, _, h, _⟩; cases h) (by kernel_rfl) (listed' := #[true, true, true, true, true, true, true, true, true, true, true, true, true, true, true, true, true, true, true, true, true, true, false, false, false, false, false, false, false, false, false, false, false, false]) rfl ?_
              refine StD.takeP (i := 22) (v := (.slice A31 q27.1.length c32)) rfl (fun _ => Yields.move rfl) rfl rfl rfl (by rintro _ _ _ ⟨_, _, _, _, h, _⟩; cases h) (by kernel_rfl) (listed' := #[true, true, true, true, true, true, true, true, true, true, true, true, true, true, true, true, true, true, true, true, true, true, true, false, false, false, false, false, false, false, false, false, false, false]) rfl ?_
              refine StD.only (i := 23) rfl (by kernel_rfl) (listed' := #[true, true, true, true, true, true, true, true, true, true, true, true, true, true, true, true, true, true, true, true, true, true, true, true, false, false, false, false, false, false, false, false, false, false]) rfl ?_
              intro hcl90
              obtain ⟨q91, e92, hm⟩ := bS hm
              refine St.call [blk b2 (.cells #[.int .i64 a0.N, .slice pA0_0 a0.Kids.length pc0_0] 24 (0, 0))] (m_ref01_SameRows_sp (Fsl.mono (PH.le_trans l30 (PH.le_trans l43 (PH.le_trans l48 l54))) h25) (Fsl.mono (PH.le_trans l43 (PH.le_trans l48 l54)) h33) e92) rfl (fun _ ha => ev2 ha rfl rfl) rfl en13 rfl rfl rfl ?_
              rintro _ F93 _ ⟨rfl, rfl⟩ l94
              refine StD.next hcl90 (fun h => by cases h) ?_
              by_cases q95 : q91 = true
              · replace hm := iT hm q95
                have hb96 : (q91) = true := q95
                try rw [hb96]
                refine StD.takeP (i := 24) (v := (.bool true)) rfl (fun _ => Yields.pick_t rfl rfl) rfl rfl trivial (by rintro _ _ _ ⟨_, _, _, _, h, _⟩; cases h) (by kernel_rfl) (listed' := #[true, true, true, true, true, true, true, true, true, true, true, true, true, true, true, true, true, true, true, true, true, true, true, true, true, false, false, false, false, false, false, false, false, false]) rfl ?_
                refine StD.takeP (i := 25) (v := (.bool true)) rfl (fun _ => Yields.move rfl) rfl rfl trivial (by rintro _ _ _ ⟨_, _, _, _, h, _⟩; cases h) (by kernel_rfl) (listed' := #[true, true, true, true, true, true, true, true, true, true, true, true, true, true, true, true, true, true, true, true, true, true, true, true, true, true, false, false, false, false, false, false, false, false]) rfl ?_
                refine StD.takeP (i := 26) (v := (.int .i64 q19.2)) rfl (fun _ => Yields.move rfl) rfl rfl rfl (by rintro _ _ _ ⟨_, _, _, _, h, _⟩; cases h) (by kernel_rfl) (listed' := #[true, true, true, true, true, true, true, true, true, true, true, true, true, true, true, true, true, true, true, true, true, true, true, true, true, true, true, false, false, false, false, false, false, false]) rfl ?_
                refine StD.takeP (i := 27) (v := (.int .i64 q27.2)) rfl (fun _ => Yields.move rfl) rfl rfl rfl (by rintro _ _ _ ⟨_, _, _, _, h, _⟩; cases h) (by kernel_rfl) (listed' := #[true, true, true, true, true, true, true, true, true, true, true, true, true, true, true, true, true, true, true, true, true, true, true, true, true, true, true, true, false, false, false, false, false, false]) rfl ?_
                by_cases q97 : q19.2 = q27.2
                · replace hm := iT hm q97
                  refine StD.takeP (i := 28) (v := (.bool true)) rfl (fun _ => Yields.is q97 (Yields.eq rfl rfl)) rfl rfl rfl (by rintro _ _ _ ⟨_, _, _, _, h, _⟩; cases h) (by kernel_rfl) (listed' := #[true, true, true, true, true, true, true, true, true, true, true, true, true, true, true, true, true, true, true, true, true, true, true, true, true, true, true, true, true, false, false, false, false, false]) rfl ?_
                  refine StD.takeP (i := 29) (v := (.bool true)) rfl (fun _ => Yields.pick_t rfl rfl) rfl rfl trivial (by rintro _ _ _ ⟨_, _, _, _, h, _⟩; cases h) (by kernel_rfl) (listed' := #[true, true, true, true, true, true, true, true, true, true, true, true, true, true, true, true, true, true, true, true, true, true, true, true, true, true, true, true, true, true, false, false, false, false]) rfl ?_
                  refine StD.takeP (i := 30) (v := (.bool true)) rfl (fun _ => Yields.move rfl) rfl rfl trivial (by rintro _ _ _ ⟨_, _, _, _, h, _⟩; cases h) (by kernel_rfl) (listed' := #[true, true, true, true, true, true, true, true, true, true, true, true, true, true, true, true, true, true, true, true, true, true, true, true, true, true, true, true, true, true, true, false, false, false]) rfl ?_
                  refine StD.only (i := 31) rfl (by kernel_rfl) (listed' := #[true, true, true, true, true, true, true, true, true, true, true, true, true, true, true, true, true, true, true, true, true, true, true, true, true, true, true, true, true, true, true, true, false, false]) rfl ?_
                  intro hcl98
                  obtain ⟨q99, e100, hm⟩ := bS hm
                  refine St.call [blk b2 (.cells #[.int .i64 a0.N, .slice pA0_0 a0.Kids.length pc0_0] 24 (0, 0))] (m_law13_known_sp e100) rfl (fun _ _ => ev0) rfl en14 rfl rfl rfl ?_
                  rintro _ F101 _ ⟨rfl, rfl⟩ l102
                  refine StD.next hcl98 (fun h => by cases h) ?_
                  refine StD.takeP (i := 32) (v := (.bool q99)) rfl (fun _ => Yields.pick_t rfl rfl) rfl rfl trivial (by rintro _ _ _ ⟨_, _, _, _, h, _⟩; cases h) (by kernel_rfl) (listed' := #[true, true, true, true, true, true, true, true, true, true, true, true, true, true, true, true, true, true, true, true, true, true, true, true, true, true, true, true, true, true, true, true, true, false]) rfl ?_
                  refine StD.takeP (i := 33) (v := (.bool q99)) rfl (fun _ => Yields.assign rfl) rfl rfl trivial (by rintro _ _ _ ⟨_, _, _, _, h, _⟩; cases h) (by kernel_rfl) (listed' := #[true, true, true, true, true, true, true, true, true, true, true, true, true, true, true, true, true, true, true, true, true, true, true, true, true, true, true, true, true, true, true, true, true, true]) rfl ?_
                  refine StD.done (by kernel_rfl) ?_
                  obtain rfl := sI hm
                  intro a w ha hs
                  exact ⟨F101, (PH.le_trans l43 (PH.le_trans l48 (PH.le_trans l54 (PH.le_trans l94 l102)))), ha.covers ⟨rfl, trivial⟩, (Among.of Among.none _ hs)⟩
                · replace hm := iF hm q97
                  refine StD.takeP (i := 28) (v := (.bool false)) rfl (fun _ => Yields.isnt q97 (Yields.eq rfl rfl)) rfl rfl rfl (by rintro _ _ _ ⟨_, _, _, _, h, _⟩; cases h) (by kernel_rfl) (listed' := #[true, true, true, true, true, true, true, true, true, true, true, true, true, true, true, true, true, true, true, true, true, true, true, true, true, true, true, true, true, false, false, false, false, false]) rfl ?_
                  refine StD.takeP (i := 29) (v := (.bool false)) rfl (fun _ => Yields.pick_t rfl rfl) rfl rfl trivial (by rintro _ _ _ ⟨_, _, _, _, h, _⟩; cases h) (by kernel_rfl) (listed' := #[true, true, true, true, true, true, true, true, true, true, true, true, true, true, true, true, true, true, true, true, true, true, true, true, true, true, true, true, true, true, false, false, false, false]) rfl ?_
                  refine StD.takeP (i := 30) (v := (.bool false)) rfl (fun _ => Yields.move rfl) rfl rfl trivial (by rintro _ _ _ ⟨_, _, _, _, h, _⟩; cases h) (by kernel_rfl) (listed' := #[true, true, true, true, true, true, true, true, true, true, true, true, true, true, true, true, true, true, true, true, true, true, true, true, true, true, true, true, true, true, true, false, false, false]) rfl ?_
                  refine StD.only (i := 31) rfl (by kernel_rfl) (listed' := #[true, true, true, true, true, true, true, true, true, true, true, true, true, true, true, true, true, true, true, true, true, true, true, true, true, true, true, true, true, true, true, true, false, false]) rfl ?_
                  intro hcl103
                  refine St.unwanted rfl rfl rfl ?_
                  refine StD.next hcl103 (fun h => by cases h) ?_
                  refine StD.takeP (i := 32) (v := (.bool false)) rfl (fun _ => Yields.pick_f rfl rfl) rfl rfl trivial (by rintro _ _ _ ⟨_, _, _, _, h, _⟩; cases h) (by kernel_rfl) (listed' := #[true, true, true, true, true, true, true, true, true, true, true, true, true, true, true, true, true, true, true, true, true, true, true, true, true, true, true, true, true, true, true, true, true, false]) rfl ?_
                  refine StD.takeP (i := 33) (v := (.bool false)) rfl (fun _ => Yields.assign rfl) rfl rfl trivial (by rintro _ _ _ ⟨_, _, _, _, h, _⟩; cases h) (by kernel_rfl) (listed' := #[true, true, true, true, true, true, true, true, true, true, true, true, true, true, true, true, true, true, true, true, true, true, true, true, true, true, true, true, true, true, true, true, true, true]) rfl ?_
                  refine StD.done (by kernel_rfl) ?_
                  obtain rfl := sI hm
                  intro a w ha hs
                  exact ⟨F93, (PH.le_trans l43 (PH.le_trans l48 (PH.le_trans l54 l94))), ha.covers ⟨rfl, trivial⟩, (Among.of Among.none _ hs)⟩
              · replace hm := iF hm q95
                have hb104 : (q91) = false := eq_false_of_ne_true q95
                try rw [hb104]
                refine StD.takeP (i := 24) (v := (.bool false)) rfl (fun _ => Yields.pick_t rfl rfl) rfl rfl trivial (by rintro _ _ _ ⟨_, _, _, _, h, _⟩; cases h) (by kernel_rfl) (listed' := #[true, true, true, true, true, true, true, true, true, true, true, true, true, true, true, true, true, true, true, true, true, true, true, true, true, false, false, false, false, false, false, false, false, false]) rfl ?_
                refine StD.takeP (i := 25) (v := (.bool false)) rfl (fun _ => Yields.move rfl) rfl rfl trivial (by rintro _ _ _ ⟨_, _, _, _, h, _⟩; cases h) (by kernel_rfl) (listed' := #[true, true, true, true, true, true, true, true, true, true, true, true, true, true, true, true, true, true, true, true, true, true, true, true, true, true, false, false, false, false, false, false, false, false]) rfl ?_
                refine StD.takeNot (i := 26) rfl rfl rfl rfl (by rintro _ _ _ ⟨_, _, _, _, h, _⟩; cases h) (by kernel_rfl) (listed' := #[true, true, true, true, true, true, true, true, true, true, true, true, true, true, true, true, true, true, true, true, true, true, true, true, true, true, true, false, false, false, false, false, false, false]) rfl ?_
                refine StD.takeNot (i := 27) rfl rfl rfl rfl (by rintro _ _ _ ⟨_, _, _, _, h, _⟩; cases h) (by kernel_rfl) (listed' := #[true, true, true, true, true, true, true, true, true, true, true, true, true, true, true, true, true, true, true, true, true, true, true, true, true, true, true, true, false, false, false, false, false, false]) rfl ?_
                refine StD.takeNot (i := 28) rfl rfl rfl rfl (by rintro _ _ _ ⟨_, _, _, _, h, _⟩; cases h) (by kernel_rfl) (listed' := #[true, true, true, true, true, true, true, true, true, true, true, true, true, true, true, true, true, true, true, true, true, true, true, true, true, true, true, true, true, false, false, false, false, false]) rfl ?_
                refine StD.takeP (i := 29) (v := (.bool false)) rfl (fun _ => Yields.pick_f rfl rfl) rfl rfl trivial (by rintro _ _ _ ⟨_, _, _, _, h, _⟩; cases h) (by kernel_rfl) (listed' := #[true, true, true, true, true, true, true, true, true, true, true, true, true, true, true, true, true, true, true, true, true, true, true, true, true, true, true, true, true, true, false, false, false, false]) rfl ?_
                refine StD.takeP (i := 30) (v := (.bool false)) rfl (fun _ => Yields.move rfl) rfl rfl trivial (by rintro _ _ _ ⟨_, _, _, _, h, _⟩; cases h) (by kernel_rfl) (listed' := #[true, true, true, true, true, true, true, true, true, true, true, true, true, true, true, true, true, true, true, true, true, true, true, true, true, true, true, true, true, true, true, false, false, false]) rfl ?_
                refine StD.only (i := 31) rfl (by kernel_rfl) (listed' := #[true, true, true, true, true, true, true, true, true, true, true, true, true, true, true, true, true, true, true, true, true, true, true, true, true, true, true, true, true, true, true, true, false, false]) rfl ?_
                intro hcl105
                refine St.unwanted rfl rfl rfl ?_
                refine StD.next hcl105 (fun h => by cases h) ?_
                refine StD.takeP (i := 32) (v := (.bool false)) rfl (fun _ => Yields.pick_f rfl rfl) rfl rfl trivial (by rintro _ _ _ ⟨_, _, _, _, h, _⟩; cases h) (by kernel_rfl) (listed' := #[true, true, true, true, true, true, true, true, true, true, true, true, true, true, true, true, true, true, true, true, true, true, true, true, true, true, true, true, true, true, true, true, true, false]) rfl ?_
                refine StD.takeP (i := 33) (v := (.bool false)) rfl (fun _ => Yields.assign rfl) rfl rfl trivial (by rintro _ _ _ ⟨_, _, _, _, h, _⟩; cases h) (by kernel_rfl) (listed' := #[true, true, true, true, true, true, true, true, true, true, true, true, true, true, true, true, true, true, true, true, true, true, true, true, true, true, true, true, true, true, true, true, true, true]) rfl ?_
                refine StD.done (by kernel_rfl) ?_
                obtain rfl := sI hm
                intro a w ha hs
                exact ⟨F93, (PH.le_trans l43 (PH.le_trans l48 (PH.le_trans l54 l94))), ha.covers ⟨rfl, trivial⟩, (Among.of Among.none _ hs)⟩
            · replace hm := iF hm q89
              refine StD.takeP (i := 18) (v := (.bool false)) rfl (fun _ => Yields.isnt q89 (Yields.eq rfl rfl)) rfl rfl rfl (by rintro _ _ _ ⟨_, _, _, _, h, _⟩; cases h) (by kernel_rfl) (listed' := #[true, true, true, true, true, true, true, true, true, true, true, true, true, true, true, true, true, true, true, false, false, false, false, false, false, false, false, false, false, false, false, false, false, false]) rfl ?_
              refine StD.takeP (i := 19) (v := (.bool false)) rfl (fun _ => Yields.pick_t rfl rfl) rfl rfl trivial (by rintro _ _ _ ⟨_, _, _, _, h, _⟩; cases h) (by kernel_rfl) (listed' := #[true, true, true, true, true, true, true, true, true, true, true, true, true, true, true, true, true, true, true, true, false, false, false, false, false, false, false, false, false, false, false, false, false, false]) rfl ?_
              refine StD.takeP (i := 20) (v := (.bool false)) rfl (fun _ => Yields.move rfl) rfl rfl trivial (by rintro _ _ _ ⟨_, _, _, _, h, _⟩; cases h) (by kernel_rfl) (listed' := #[true, true, true, true, true, true, true, true, true, true, true, true, true, true, true, true, true, true, true, true, true, false, false, false, false, false, false, false, false, false, false, false, false, false]) rfl ?_
              refine StD.takeNot (i := 21) rfl rfl rfl rfl (by rintro _ _ _ ⟨_, _, _, _, h, _⟩; cases h) (by kernel_rfl) (listed' := #[true, true, true, true, true, true, true, true, true, true, true, true, true, true, true, true, true, true, true, true, true, true, false, false, false, false, false, false, false, false, false, false, false, false]) rfl ?_
              refine StD.takeNot (i := 22) rfl rfl rfl rfl (by rintro _ _ _ ⟨_, _, _, _, h, _⟩; cases h) (by kernel_rfl) (listed' := #[true, true, true, true, true, true, true, true, true, true, true, true, true, true, true, true, true, true, true, true, true, true, true, false, false, false, false, false, false, false, false, false, false, false]) rfl ?_
              refine StD.only (i := 23) rfl (by kernel_rfl) (listed' := #[true, true, true, true, true, true, true, true, true, true, true, true, true, true, true, true, true, true, true, true, true, true, true, true, false, false, false, false, false, false, false, false, false, false]) rfl ?_
              intro hcl106
              refine St.unwanted rfl rfl rfl ?_
              refine StD.next hcl106 (fun h => by cases h) ?_
              refine StD.takeP (i := 24) (v := (.bool false)) rfl (fun _ => Yields.pick_f rfl rfl) rfl rfl trivial (by rintro _ _ _ ⟨_, _, _, _, h, _⟩; cases h) (by kernel_rfl) (listed' := #[true, true, true, true, true, true, true, true, true, true, true, true, true, true, true, true, true, true, true, true, true, true, true, true, true, false, false, false, false, false, false, false, false, false]) rfl ?_
              refine StD.takeP (i := 25) (v := (.bool false)) rfl (fun _ => Yields.move rfl) rfl rfl trivial (by rintro _ _ _ ⟨_, _, _, _, h, _⟩; cases h) (by kernel_rfl) (listed' := #[true, true, true, true, true, true, true, true, true, true, true, true, true, true, true, true, true, true, true, true, true, true, true, true, true, true, false, false, false, false, false, false, false, false]) rfl ?_
              refine StD.takeNot (i := 26) rfl rfl rfl rfl (by rintro _ _ _ ⟨_, _, _, _, h, _⟩; cases h) (by kernel_rfl) (listed' := #[true, true, true, true, true, true, true, true, true, true, true, true, true, true, true, true, true, true, true, true, true, true, true, true, true, true, true, false, false, false, false, false, false, false]) rfl ?_
              refine StD.takeNot (i := 27) rfl rfl rfl rfl (by rintro _ _ _ ⟨_, _, _, _, h, _⟩; cases h) (by kernel_rfl) (listed' := #[true, true, true, true, true, true, true, true, true, true, true, true, true, true, true, true, true, true, true, true, true, true, true, true, true, true, true, true, false, false, false, false, false, false]) rfl ?_
              refine StD.takeNot (i := 28) rfl rfl rfl rfl (by rintro _ _ _ ⟨_, _, _, _, h, _⟩; cases h) (by kernel_rfl) (listed' := #[true, true, true, true, true, true, true, true, true, true, true, true, true, true, true, true, true, true, true, true, true, true, true, true, true, true, true, true, true, false, false, false, false, false]) rfl ?_
              refine StD.takeP (i := 29) (v := (.bool false)) rfl (fun _ => Yields.pick_f rfl rfl) rfl rfl trivial (by rintro _ _ _ ⟨_, _, _, _, h, _⟩; cases h) (by kernel_rfl) (listed' := #[true, true, true, true, true, true, true, true, true, true, true, true, true, true, true, true, true, true, true, true, true, true, true, true, true, true, true, true, true, true, false, false, false, false]) rfl ?_
              refine StD.takeP (i := 30) (v := (.bool false)) rfl (fun _ => Yields.move rfl) rfl rfl trivial (by rintro _ _ _ ⟨_, _, _, _, h, _⟩; cases h) (by kernel_rfl) (listed' := #[true, true, true, true, true, true, true, true, true, true, true, true, true, true, true, true, true, true, true, true, true, true, true, true, true, true, true, true, true, true, true, false, false, false]) rfl ?_
              refine StD.only (i := 31) rfl (by kernel_rfl) (listed' := #[true, true, true, true, true, true, true, true, true, true, true, true, true, true, true, true, true, true, true, true, true, true, true, true, true, true, true, true, true, true, true, true, false, false]) rfl ?_
              intro hcl107
              refine St.unwanted rfl rfl rfl ?_
              refine StD.next hcl107 (fun h => by cases h) ?_
              refine StD.takeP (i := 32) (v := (.bool false)) rfl (fun _ => Yields.pick_f rfl rfl) rfl rfl trivial (by rintro _ _ _ ⟨_, _, _, _, h, _⟩; cases h) (by kernel_rfl) (listed' := #[true, true, true, true, true, true, true, true, true, true, true, true, true, true, true, true, true, true, true, true, true, true, true, true, true, true, true, true, true, true, true, true, true, false]) rfl ?_
              refine StD.takeP (i := 33) (v := (.bool false)) rfl (fun _ => Yields.assign rfl) rfl rfl trivial (by rintro _ _ _ ⟨_, _, _, _, h, _⟩; cases h) (by kernel_rfl) (listed' := #[true, true, true, true, true, true, true, true, true, true, true, true, true, true, true, true, true, true, true, true, true, true, true, true, true, true, true, true, true, true, true, true, true, true]) rfl ?_
              refine StD.done (by kernel_rfl) ?_
              obtain rfl := sI hm
              intro a w ha hs
              exact ⟨F53, (PH.le_trans l43 (PH.le_trans l48 l54)), ha.covers ⟨rfl, trivial⟩, (Among.of Among.none _ hs)⟩
      · replace hm := iF hm q55
        have hb108 : (q51) = false := eq_false_of_ne_true q55
        try rw [hb108]
        refine StD.takeP (i := 9) (v := (.bool false)) rfl (fun _ => Yields.pick_t rfl rfl) rfl rfl trivial (by rintro _ _ _ ⟨_, _, _, _, h, _⟩; cases h) (by kernel_rfl) (listed' := #[true, true, true, true, true, true, true, true, true, true, false, false, false, false, false, false, false, false, false, false, false, false, false, false, false, false, false, false, false, false, false, false, false, false]) rfl ?_
        refine StD.takeP (i := 10) (v := (.bool false)) rfl (fun _ => Yields.move rfl) rfl rfl trivial (by rintro _ _ _ ⟨_, _, _, _, h, _⟩; cases h) (by kernel_rfl) (listed' := #[true, true, true, true, true, true, true, true, true, true, true, false, false, false, false, false, false, false, false, false, false, false, false, false, false, false, false, false, false, false, false, false, false, false]) rfl ?_
        refine StD.takeNot (i := 11) rfl rfl rfl rfl (by rintro _ _ _ ⟨_, _, _, _, h, _⟩; cases h) (by kernel_rfl) (listed' := #[true, true, true, true, true, true, true, true, true, true, true, true, false, false, false, false, false, false, false, false, false, false, false, false, false, false, false, false, false, false, false, false, false, false]) rfl ?_
        refine StD.takeNot (i := 12) rfl rfl rfl rfl (by rintro _ _ _ ⟨_, _, _, _, h, _⟩; cases h) (by kernel_rfl) (listed' := #[true, true, true, true, true, true, true, true, true, true, true, true, true, false, false, false, false, false, false, false, false, false, false, false, false, false, false, false, false, false, false, false, false, false]) rfl ?_
        refine StD.takeNot (i := 13) rfl rfl rfl rfl (by rintro _ _ _ ⟨_, _, _, _, h, _⟩; cases h) (by kernel_rfl) (listed' := #[true, true, true, true, true, true, true, true, true, true, true, true, true, true, false, false, false, false, false, false, false, false, false, false, false, false, false, false, false, false, false, false, false, false]) rfl ?_
        refine StD.takeP (i := 14) (v := (.bool false)) rfl (fun _ => Yields.pick_f rfl rfl) rfl rfl trivial (by rintro _ _ _ ⟨_, _, _, _, h, _⟩; cases h) (by kernel_rfl) (listed' := #[true, true, true, true, true, true, true, true, true, true, true, true, true, true, true, false, false, false, false, false, false, false, false, false, false, false, false, false, false, false, false, false, false, false]) rfl ?_
        refine StD.takeP (i := 15) (v := (.bool false)) rfl (fun _ => Yields.move rfl) rfl rfl trivial (by rintro _ _ _ ⟨_, _, _, _, h, _⟩; cases h) (by kernel_rfl) (listed' := #[true, true, true, true, true, true, true, true, true, true, true, true, true, true, true, true, false, false, false, false, false, false, false, false, false, false, false, false, false, false, false, false, false, false]) rfl ?_
        refine StD.takeNot (i := 16) rfl rfl rfl rfl (by rintro _ _ _ ⟨_, _, _, _, h, _⟩; cases h) (by kernel_rfl) (listed' := #[true, true, true, true, true, true, true, true, true, true, true, true, true, true, true, true, true, false, false, false, false, false, false, false, false, false, false, false, false, false, false, false, false, false]) rfl ?_
        refine StD.takeNot (i := 17) rfl rfl rfl rfl (by rintro _ _ _ ⟨_, _, _, _, h, _⟩; cases h) (by kernel_rfl) (listed' := #[true, true, true, true, true, true, true, true, true, true, true, true, true, true, true, true, true, true, false, false, false, false, false, false, false, false, false, false, false, false, false, false, false, false]) rfl ?_
        refine StD.takeNot (i := 18) rfl rfl rfl rfl (by rintro _ _ _ ⟨_, _, _, _, h, _⟩; cases h) (by kernel_rfl) (listed' := #[true, true, true, true, true, true, true, true, true, true, true, true, true, true, true, true, true, true, true, false, false, false, false, false, false, false, false, false, false, false, false, false, false, false]) rfl ?_
        refine StD.takeP (i := 19) (v := (.bool false)) rfl (fun _ => Yields.pick_f rfl rfl) rfl rfl trivial (by rintro _ _ _ ⟨_, _, _, _, h, _⟩; cases h) (by kernel_rfl) (listed' := #[true, true, true, true, true, true, true, true, true, true, true, true, true, true, true, true, true, true, true, true, false, false, false, false, false, false, false, false, false, false, false, false, false, false]) rfl ?_
        refine StD.takeP (i := 20) (v := (.bool false)) rfl (fun _ => Yields.move rfl) rfl rfl trivial (by rintro _ _ _ ⟨_, _, _, _, h, _⟩; cases h) (by kernel_rfl) (listed' := #[true, true, true, true, true, true, true, true, true, true, true, true, true, true, true, true, true, true, true, true, true, false, false, false, false, false, false, false, false, false, false, false, false, false]) rfl ?_
        refine StD.takeNot (i := 21) rfl rfl rfl rfl (by rintro _ _ _ ⟨_, _, _, _, h, _⟩; cases h) (by kernel_rfl) (listed' := #[true, true, true, true, true, true, true, true, true, true, true, true, true, true, true, true, true, true, true, true, true, true, false, false, false, false, false, false, false, false, false, false, false, false]) rfl ?_
        refine StD.takeNot (i := 22) rfl rfl rfl rfl (by rintro _ _ _ ⟨_, _, _, _, h, _⟩; cases h) (by kernel_rfl) (listed' := #[true, true, true, true, true, true, true, true, true, true, true, true, true, true, true, true, true, true, true, true, true, true, true, false, false, false, false, false, false, false, false, false, false, false]) rfl ?_
        refine StD.only (i := 23) rfl (by kernel_rfl) (listed' := #[true, true, true, true, true, true, true, true, true, true, true, true, true, true, true, true, true, true, true, true, true, true, true, true, false, false, false, false, false, false, false, false, false, false]) rfl ?_
        intro hcl109
        refine St.unwanted rfl rfl rfl ?_
        refine StD.next hcl109 (fun h => by cases h) ?_
        refine StD.takeP (i := 24) (v := (.bool false)) rfl (fun _ => Yields.pick_f rfl rfl) rfl rfl trivial (by rintro _ _ _ ⟨_, _, _, _, h, _⟩; cases h) (by kernel_rfl) (listed' := #[true, true, true, true, true, true, true, true, true, true, true, true, true, true, true, true, true, true, true, true, true, true, true, true, true, false, false, false, false, false, false, false, false, false]) rfl ?_
        refine StD.takeP (i := 25) (v := (.bool false)) rfl (fun _ => Yields.move rfl) rfl rfl trivial (by rintro _ _ _ ⟨_, _, _, _, h, _⟩; cases h) (by kernel_rfl) (listed' := #[true, true, true, true, true, true, true, true, true, true, true, true, true, true, true, true, true, true, true, true, true, true, true, true, true, true, false, false, false, false, false, false, false, false]) rfl ?_
        refine StD.takeNot (i := 26) rfl rfl rfl rfl (by rintro _ _ _ ⟨_, _, _, _, h, _⟩; cases h) (by kernel_rfl) (listed' := #[true, true, true, true, true, true, true, true, true, true, true, true, true, true, true, true, true, true, true, true, true, true, true, true, true, true, true, false, false, false, false, false, false, false]) rfl ?_
        refine StD.takeNot (i := 27) rfl rfl rfl rfl (by rintro _ _ _ ⟨_, _, _, _, h, _⟩; cases h) (by kernel_rfl) (listed' := #[true, true, true, true, true, true, true, true, true, true, true, true, true, true, true, true, true, true, true, true, true, true, true, true, true, true, true, true, false, false, false, false, false, false]) rfl ?_
        refine StD.takeNot (i := 28) rfl rfl rfl rfl (by rintro _ _ _ ⟨_, _, _, _, h, _⟩; cases h) (by kernel_rfl) (listed' := #[true, true, true, true, true, true, true, true, true, true, true, true, true, true, true, true, true, true, true, true, true, true, true, true, true, true, true, true, true, false, false, false, false, false]) rfl ?_
        refine StD.takeP (i := 29) (v := (.bool false)) rfl (fun _ => Yields.pick_f rfl rfl) rfl rfl trivial (by rintro _ _ _ ⟨_, _, _, _, h, _⟩; cases h) (by kernel_rfl) (listed' := #[true, true, true, true, true, true, true, true, true, true, true, true, true, true, true, true, true, true, true, true, true, true, true, true, true, true, true, true, true, true, false, false, false, false]) rfl ?_
        refine StD.takeP (i := 30) (v := (.bool false)) rfl (fun _ => Yields.move rfl) rfl rfl trivial (by rintro _ _ _ ⟨_, _, _, _, h, _⟩; cases h) (by kernel_rfl) (listed' := #[true, true, true, true, true, true, true, true, true, true, true, true, true, true, true, true, true, true, true, true, true, true, true, true, true, true, true, true, true, true, true, false, false, false]) rfl ?_
        refine StD.only (i := 31) rfl (by kernel_rfl) (listed' := #[true, true, true, true, true, true, true, true, true, true, true, true, true, true, true, true, true, true, true, true, true, true, true, true, true, true, true, true, true, true, true, true, false, false]) rfl ?_
        intro hcl110
        refine St.unwanted rfl rfl rfl ?_
        refine StD.next hcl110 (fun h => by cases h) ?_
        refine StD.takeP (i := 32) (v := (.bool false)) rfl (fun _ => Yields.pick_f rfl rfl) rfl rfl trivial (by rintro _ _ _ ⟨_, _, _, _, h, _⟩; cases h) (by kernel_rfl) (listed' := #[true, true, true, true, true, true, true, true, true, true, true, true, true, true, true, true, true, true, true, true, true, true, true, true, true, true, true, true, true, true, true, true, true, false]) rfl ?_
        refine StD.takeP (i := 33) (v := (.bool false)) rfl (fun _ => Yields.assign rfl) rfl rfl trivial (by rintro _ _ _ ⟨_, _, _, _, h, _⟩; cases h) (by kernel_rfl) (listed' := #[true, true, true, true, true, true, true, true, true, true, true, true, true, true, true, true, true, true, true, true, true, true, true, true, true, true, true, true, true, true, true, true, true, true]) rfl ?_
        refine StD.done (by kernel_rfl) ?_
        obtain rfl := sI hm
        intro a w ha hs
        exact ⟨F53, (PH.le_trans l43 (PH.le_trans l48 l54)), ha.covers ⟨rfl, trivial⟩, (Among.of Among.none _ hs)⟩
    · replace hm := iF hm q49
      refine StD.takeP (i := 4) (v := (.bool false)) rfl (fun _ => Yields.isnt q49 (Yields.eq rfl rfl)) rfl rfl trivial (by rintro _ _ _ ⟨_, _, _, _, h, _⟩; cases h) (by kernel_rfl) (listed' := #[true, true, true, true, true, false, false, false, false, false, false, false, false, false, false, false, false, false, false, false, false, false, false, false, false, false, false, false, false, false, false, false, false, false]) rfl ?_
      refine StD.takeP (i := 5) (v := (.bool false)) rfl (fun _ => Yields.move rfl) rfl rfl trivial (by rintro _ _ _ ⟨_, _, _, _, h, _⟩; cases h) (by kernel_rfl) (listed' := #[true, true, true, true, true, true, false, false, false, false, false, false, false, false, false, false, false, false, false, false, false, false, false, false, false, false, false, false, false, false, false, false, false, false]) rfl ?_
      refine StD.takeNot (i := 6) rfl rfl rfl rfl (by rintro _ _ _ ⟨_, _, _, _, h, _⟩; cases h) (by kernel_rfl) (listed' := #[true, true, true, true, true, true, true, false, false, false, false, false, false, false, false, false, false, false, false, false, false, false, false, false, false, false, false, false, false, false, false, false, false, false]) rfl ?_
      refine StD.takeNot (i := 7) rfl rfl rfl rfl (by rintro _ _ _ ⟨_, _, _, _, h, _⟩; cases h) (by kernel_rfl) (listed' := #[true, true, true, true, true, true, true, true, false, false, false, false, false, false, false, false, false, false, false, false, false, false, false, false, false, false, false, false, false, false, false, false, false, false]) rfl ?_
      refine StD.only (i := 8) rfl (by kernel_rfl) (listed' := #[true, true, true, true, true, true, true, true, true, false, false, false, false, false, false, false, false, false, false, false, false, false, false, false, false, false, false, false, false, false, false, false, false, false]) rfl ?_
      intro hcl111
      refine St.unwanted rfl rfl rfl ?_
      refine StD.next hcl111 (fun h => by cases h) ?_
      refine StD.takeP (i := 9) (v := (.bool false)) rfl (fun _ => Yields.pick_f rfl rfl) rfl rfl trivial (by rintro _ _ _ ⟨_, _, _, _, h, _⟩; cases h) (by kernel_rfl) (listed' := #[true, true, true, true, true, true, true, true, true, true, false, false, false, false, false, false, false, false, false, false, false, false, false, false, false, false, false, false, false, false, false, false, false, false]) rfl ?_
      refine StD.takeP (i := 10) (v := (.bool false)) rfl (fun _ => Yields.move rfl) rfl rfl trivial (by rintro _ _ _ ⟨_, _, _, _, h, _⟩; cases h) (by kernel_rfl) (listed' := #[true, true, true, true, true, true, true, true, true, true, true, false, false, false, false, false, false, false, false, false, false, false, false, false, false, false, false, false, false, false, false, false, false, false]) rfl ?_
      refine StD.takeNot (i := 11) rfl rfl rfl rfl (by rintro _ _ _ ⟨_, _, _, _, h, _⟩; cases h) (by kernel_rfl) (listed' := #[true, true, true, true, true, true, true, true, true, true, true, true, false, false, false, false, false, false, false, false, false, false, false, false, false, false, false, false, false, false, false, false, false, false]) rfl ?_
      refine StD.takeNot (i := 12) rfl rfl rfl rfl (by rintro _ _ _ ⟨_, _, _, _, h, _⟩; cases h) (by kernel_rfl) (listed' := #[true, true, true, true, true, true, true, true, true, true, true, true, true, false, false, false, false, false, false, false, false, false, false, false, false, false, false, false, false, false, false, false, false, false]) rfl ?_
      refine StD.takeNot (i := 13) rfl rfl rfl rfl (by rintro _ _ _ ⟨_, _, _, _, h, _⟩; cases h) (by kernel_rfl) (listed' := #[true, true, true, true, true, true, true, true, true, true, true, true, true, true, false, false, false, false, false, false, false, false, false, false, false, false, false, false, false, false, false, false, false, false]) rfl ?_
      refine StD.takeP (i := 14) (v := (.bool false)) rfl (fun _ => Yields.pick_f rfl rfl) rfl rfl trivial (by rintro _ _ _ ⟨_, _, _, _, h, _⟩; cases h) (by kernel_rfl) (listed' := #[true, true, true, true, true, true, true, true, true, true, true, true, true, true, true, false, false, false, false, false, false, false, false, false, false, false, false, false, false, false, false, false, false, false]) rfl ?_
      refine StD.takeP (i := 15) (v := (.bool false)) rfl (fun _ => Yields.move rfl) rfl rfl trivial (by rintro _ _ _ ⟨_, _, _, _, h, _⟩; cases h) (by kernel_rfl) (listed' := #[true, true, true, true, true, true, true, true, true, true, true, true, true, true, true, true, false, false, false, false, false, false, false, false, false, false, false, false, false, false, false, false, false, false]) rfl ?_
      refine StD.takeNot (i := 16) rfl rfl rfl rfl (by rintro _ _ _ ⟨_, _, _, _, h, _⟩; cases h) (by kernel_rfl) (listed' := #[true, true, true, true, true, true, true, true, true, true, true, true, true, true, true, true, true, false, false, false, false, false, false, false, false, false, false, false, false, false, false, false, false, false]) rfl ?_
      refine StD.takeNot (i := 17) rfl rfl rfl rfl (by rintro _ _ _ ⟨_, _, _, _, h, _⟩; cases h) (by kernel_rfl) (listed' := #[true, true, true, true, true, true, true, true, true, true, true, true, true, true, true, true, true, true, false, false, false, false, false, false, false, false, false, false, false, false, false, false, false, false]) rfl ?_
      refine StD.takeNot (i := 18) rfl rfl rfl rfl (by rintro _ _ _ ⟨_, _, _, _, h, _⟩; cases h) (by kernel_rfl) (listed' := #[true, true, true, true, true, true, true, true, true, true, true, true, true, true, true, true, true, true, true, false, false, false, false, false, false, false, false, false, false, false, false, false, false, false]) rfl ?_
      refine StD.takeP (i := 19) (v := (.bool false)) rfl (fun _ => Yields.pick_f rfl rfl) rfl rfl trivial (by rintro _ _ _ ⟨_, _, _, _, h, _⟩; cases h) (by kernel_rfl) (listed' := #[true, true, true, true, true, true, true, true, true, true, true, true, true, true, true, true, true, true, true, true, false, false, false, false, false, false, false, false, false, false, false, false, false, false]) rfl ?_
      refine StD.takeP (i := 20) (v := (.bool false)) rfl (fun _ => Yields.move rfl) rfl rfl trivial (by rintro _ _ _ ⟨_, _, _, _, h, _⟩; cases h) (by kernel_rfl) (listed' := #[true, true, true, true, true, true, true, true, true, true, true, true, true, true, true, true, true, true, true, true, true, false, false, false, false, false, false, false, false, false, false, false, false, false]) rfl ?_
      refine StD.takeNot (i := 21) rfl rfl rfl rfl (by rintro _ _ _ ⟨_, _, _, _, h, _⟩; cases h) (by kernel_rfl) (listed' := #[true, true, true, true, true, true, true, true, true, true, true, true, true, true, true, true, true, true, true, true, true, true, false, false, false, false, false, false, false, false, false, false, false, false]) rfl ?_
      refine StD.takeNot (i := 22) rfl rfl rfl rfl (by rintro _ _ _ ⟨_, _, _, _, h, _⟩; cases h) (by kernel_rfl) (listed' := #[true, true, true, true, true, true, true, true, true, true, true, true, true, true, true, true, true, true, true, true, true, true, true, false, false, false, false, false, false, false, false, false, false, false]) rfl ?_
      refine StD.only (i := 23) rfl (by kernel_rfl) (listed' := #[true, true, true, true, true, true, true, true, true, true, true, true, true, true, true, true, true, true, true, true, true, true, true, true, false, false, false, false, false, false, false, false, false, false]) rfl ?_
      intro hcl112
      refine St.unwanted rfl rfl rfl ?_
      refine StD.next hcl112 (fun h => by cases h) ?_
      refine StD.takeP (i := 24) (v := (.bool false)) rfl (fun _ => Yields.pick_f rfl rfl) rfl rfl trivial (by rintro _ _ _ ⟨_, _, _, _, h, _⟩; cases h) (by kernel_rfl) (listed' := #[true, true, true, true, true, true, true, true, true, true, true, true, true, true, true, true, true, true, true, true, true, true, true, true, true, false, false, false, false, false, false, false, false, false]) rfl ?_
      refine StD.takeP (i := 25) (v := (.bool false)) rfl (fun _ => Yields.move rfl) rfl rfl trivial (by rintro _ _ _ ⟨_, _, _, _, h, _⟩; cases h) (by kernel_rfl) (listed' := #[true, true, true, true, true, true, true, true, true, true, true, true, true, true, true, true, true, true, true, true, true, true, true, true, true, true, false, false, false, false, false, false, false, false]) rfl ?_
      refine StD.takeNot (i := 26) rfl rfl rfl rfl (by rintro _ _ _ ⟨_, _, _, _, h, _⟩; cases h) (by kernel_rfl) (listed' := #[true, true, true, true, true, true, true, true, true, true, true, true, true, true, true, true, true, true, true, true, true, true, true, true, true, true, true, false, false, false, false, false, false, false]) rfl ?_
      refine StD.takeNot (i := 27) rfl rfl rfl rfl (by rintro _ _ _ ⟨_, _, _, _, h, _⟩; cases h) (by kernel_rfl) (listed' := #[true, true, true, true, true, true, true, true, true, true, true, true, true, true, true, true, true, true, true, true, true, true, true, true, true, true, true, true, false, false, false, false, false, false]) rfl ?_
      refine StD.takeNot (i := 28) rfl rfl rfl rfl (by rintro _ _ _ ⟨_, _, _, _, h, _⟩; cases h) (by kernel_rfl) (listed' := #[true, true, true, true, true, true, true, true, true, true, true, true, true, true, true, true, true, true, true, true, true, true, true, true, true, true, true, true, true, false, false, false, false, false]) rfl ?_
      refine StD.takeP (i := 29) (v := (.bool false)) rfl (fun _ => Yields.pick_f rfl rfl) rfl rfl trivial (by rintro _ _ _ ⟨_, _, _, _, h, _⟩; cases h) (by kernel_rfl) (listed' := #[true, true, true, true, true, true, true, true, true, true, true, true, true, true, true, true, true, true, true, true, true, true, true, true, true, true, true, true, true, true, false, false, false, false]) rfl ?_
      refine StD.takeP (i := 30) (v := (.bool false)) rfl (fun _ => Yields.move rfl) rfl rfl trivial (by rintro _ _ _ ⟨_, _, _, _, h, _⟩; cases h) (by kernel_rfl) (listed' := #[true, true, true, true, true, true, true, true, true, true, true, true, true, true, true, true, true, true, true, true, true, true, true, true, true, true, true, true, true, true, true, false, false, false]) rfl ?_
      refine StD.only (i := 31) rfl (by kernel_rfl) (listed' := #[true, true, true, true, true, true, true, true, true, true, true, true, true, true, true, true, true, true, true, true, true, true, true, true, true, true, true, true, true, true, true, true, false, false]) rfl ?_
      intro hcl113
      refine St.unwanted rfl rfl rfl ?_
      refine StD.next hcl113 (fun h => by cases h) ?_
      refine StD.takeP (i := 32) (v := (.bool false)) rfl (fun _ => Yields.pick_f rfl rfl) rfl rfl trivial (by rintro _ _ _ ⟨_, _, _, _, h, _⟩; cases h) (by kernel_rfl) (listed' := #[true, true, true, true, true, true, true, true, true, true, true, true, true, true, true, true, true, true, true, true, true, true, true, true, true, true, true, true, true, true, true, true, true, false]) rfl ?_
      refine StD.takeP (i := 33) (v := (.bool false)) rfl (fun _ => Yields.assign rfl) rfl rfl trivial (by rintro _ _ _ ⟨_, _, _, _, h, _⟩; cases h) (by kernel_rfl) (listed' := #[true, true, true, true, true, true, true, true, true, true, true, true, true, true, true, true, true, true, true, true, true, true, true, true, true, true, true, true, true, true, true, true, true, true]) rfl ?_
      refine StD.done (by kernel_rfl) ?_
      obtain rfl := sI hm
      intro a w ha hs
      exact ⟨F47, (PH.le_trans l43 l48), ha.covers ⟨rfl, trivial⟩, (Among.of Among.none _ hs)⟩
  · rintro a w ⟨F36, l37, ha, hs⟩
    replace hm := hk38
    refine St.use (?_ : St _ _ _ _ _ _) ha hs
    clear ha hs a w
    refine St.ret ?_
    obtain rfl := sI hm
    exact St.doneR1 rfl rfl ⟨rfl, rfl⟩ (fun w hs => Among.of Among.none w hs)

theorem m_law13_count_sp {F : PH} {g : Nat} {a0 : List Int} {a1 : Int} {pA0 : Option Addr} {pc0 : Nat} (ph0 : Fsl 8 (Kind.int .i64) F pA0 pc0 a0) {r : Int} (hm : m_law13_count g a0 a1 = some r) :
    CallSp Try.prog 15 #[.slice pA0 a0.length pc0, .int .i64 a1] F [] (fun u F' H' => u = (.int .i64 r) ∧ H' = []) := by
  unfold m_law13_count at hm
  refine CallSp.enter (args := [.slice pA0 a0.length pc0, .int .i64 a1]) Try.func15 rfl rfl ?_
  intro w0 m0 hm0
  refine St.seq ?_
  refine St.region ?_
  refine St.val (v := (.int .i64 0)) (Yields.assign rfl) trivial rfl rfl ?_
  refine St.nil ?_
  refine St.norm ?_
  refine St.seq ?_
  refine St.region ?_
  refine St.val (v := (.int .i64 0)) (Yields.assign rfl) trivial rfl rfl ?_
  refine St.nil ?_
  refine St.norm ?_
  obtain ⟨z2, hm, hk3⟩ := bS hm
  refine St.cutI (fun a w => Has Try.f15.ntmps a [(5, .int .i64 z2)] ∧ Sat ⟨w0, fun b => m0 b ≠ none, F⟩ F [] w) ?_ ?_
  · skip
    refine St.seq ?_
    refine St.region ?_
    refine St.val (v := (.int .i64 0)) (Yields.assign rfl) trivial rfl rfl ?_
    refine St.nil ?_
    refine St.norm ?_
    refine St.block ?_
    refine St.loopM hm (fun s8 a w => Has Try.f15.ntmps a [(0, .slice pA0 a0.length pc0), (1, .int .i64 a1), (5, .int .i64 s8.1), (6, .int .i64 ((s8.2 : Nat) : Int))] ∧ Sat ⟨w0, fun b => m0 b ≠ none, F⟩ F [] w) ?_ ?_
    · skip
      intro a w ha hs
      exact ⟨ha.covers ⟨rfl, rfl, rfl, rfl, trivial⟩, (Among.of Among.none _ hs)⟩
    · rintro s8 o9 co10 hm ho11 a w ⟨ha, hs⟩
      refine St.use (?_ : St _ _ _ _ _ _) ha hs
      clear ha hs a w
      refine St.seq ?_
      refine St.seq ?_
      refine St.region ?_
      refine St.val (v := (.int .i64 ((s8.2 : Nat) : Int))) (Yields.move rfl) trivial rfl rfl ?_
      refine St.val (v := (.slice pA0 a0.length pc0)) (Yields.move rfl) trivial rfl rfl ?_
      refine St.val (v := (.int .i64 ((a0.length : Nat) : Int))) (Yields.lenSlice tu27 rfl) trivial rfl rfl ?_
      refine St.val (v := (.bool (decide (((s8.2 : Nat) : Int) < ((a0.length : Nat) : Int))))) (Yields.lt rfl rfl) trivial rfl rfl ?_
      refine St.nil ?_
      refine St.norm ?_
      refine St.cond_b rfl ?_ ?_
      · intro q12
        replace q12 : ((s8.2 : Nat) : Int) < ((a0.length : Nat) : Int) := of_decide_eq_true q12
        replace hm := iT hm q12
        refine St.skip ?_
        refine St.norm ?_
        obtain ⟨z13, hm, hk14⟩ := bS hm
        refine St.cutI (fun a w => Has Try.f15.ntmps a [(0, .slice pA0 a0.length pc0), (1, .int .i64 a1), (5, .int .i64 z13), (6, .int .i64 ((s8.2 : Nat) : Int))] ∧ Sat ⟨w0, fun b => m0 b ≠ none, F⟩ F [] w) ?_ ?_
        · skip
          refine St.block ?_
          refine St.seq ?_
          refine St.region ?_
          refine St.val (v := (.slice pA0 a0.length pc0)) (Yields.move rfl) trivial rfl rfl ?_
          refine St.val (v := (.int .i64 ((s8.2 : Nat) : Int))) (Yields.move rfl) trivial rfl rfl ?_
          obtain ⟨x15, e16, hm⟩ := bS hm
          obtain ⟨p17, cs18, jx19, R20, k21⟩ := ph0.nidx e16
          obtain rfl := R20
          refine St.val (v := (.pointer (some p17))) (Yields.idx jx19 ts27 rfl rfl) trivial rfl rfl ?_
          refine St.val (v := (.int .i64 x15)) (Yields.load rfl (Loads.Fat k21 tc3 rfl)) trivial rfl rfl ?_
          refine St.val (v := (.int .i64 a1)) (Yields.move rfl) trivial rfl rfl ?_
          refine St.val (v := (.bool (decide (x15 = a1)))) (Yields.eq rfl rfl) trivial rfl rfl ?_
          refine St.nil ?_
          refine St.norm ?_
          refine St.cond_b rfl ?_ ?_
          · intro q22
            replace q22 : x15 = a1 := of_decide_eq_true q22
            replace hm := iT hm q22
            refine St.region ?_
            refine St.val (v := (.int .i64 s8.1)) (Yields.move rfl) trivial rfl rfl ?_
            refine St.val (v := (.int .i64 (Mir.w64 (s8.1 + 1)))) (Yields.addw rfl rfl) trivial rfl rfl ?_
            refine St.val (v := (.int .i64 (Mir.w64 (s8.1 + 1)))) (Yields.assign rfl) trivial rfl rfl ?_
            refine St.nil ?_
            refine St.innorm ?_
            obtain rfl := sI hm
            intro a w ha hs
            exact ⟨ha.covers ⟨rfl, rfl, rfl, rfl, trivial⟩, (Among.of Among.none _ hs)⟩
          · intro q23
            replace q23 : ¬ (x15 = a1) := of_decide_eq_false q23
            replace hm := iF hm q23
            refine St.skip ?_
            refine St.innorm ?_
            obtain rfl := sI hm
            intro a w ha hs
            exact ⟨ha.covers ⟨rfl, rfl, rfl, rfl, trivial⟩, (Among.of Among.none _ hs)⟩
        · rintro a w ⟨ha, hs⟩
          replace hm := hk14
          refine St.use (?_ : St _ _ _ _ _ _) ha hs
          clear ha hs a w
          refine St.region ?_
          refine St.val (v := (.int .i64 ((s8.2 : Nat) : Int))) (Yields.move rfl) trivial rfl rfl ?_
          refine St.val (v := (.int .i64 ((s8.2 + 1 : Nat) : Int))) (Yields.addn (j := 1) rfl rfl rfl (by have q_0 := q12; have q_1 := ph0.bnd.2; omega)) trivial rfl rfl ?_
          refine St.val (v := (.int .i64 ((s8.2 + 1 : Nat) : Int))) (Yields.assign rfl) trivial rfl rfl ?_
          refine St.nil ?_
          refine St.norm ?_
          obtain rfl := sI hm
          intro a w ha hs
          exact ⟨(z13, s8.2 + 1), aL ho11, ha.covers ⟨rfl, rfl, rfl, rfl, trivial⟩, (Among.of Among.none _ hs)⟩
      · intro q24
        replace q24 : ¬ (((s8.2 : Nat) : Int) < ((a0.length : Nat) : Int)) := of_decide_eq_false q24
        replace hm := iF hm q24
        refine St.exit ?_
        refine St.thenexit ?_
        refine St.thenexit ?_
        refine St.inexit ?_
        obtain rfl := sI hm
        obtain rfl := aR ho11
        intro a w ha hs
        exact ⟨ha.covers ⟨rfl, trivial⟩, (Among.of Among.none _ hs)⟩
  · rintro a w ⟨ha, hs⟩
    replace hm := hk3
    refine St.use (?_ : St _ _ _ _ _ _) ha hs
    clear ha hs a w
    refine St.seq ?_
    refine St.region ?_
    refine St.val (v := (.int .i64 z2)) (Yields.move rfl) trivial rfl rfl ?_
    refine St.val (v := (.int .i64 z2)) (Yields.assign rfl) trivial rfl rfl ?_
    refine St.nil ?_
    refine St.norm ?_
    refine St.ret ?_
    obtain rfl := sI hm
    exact St.doneR1 rfl rfl ⟨rfl, rfl⟩ (fun w hs => Among.of Among.none w hs)

theorem m_law13_none_sp {F : PH} {g : Nat} {a0 : DSTree} {pA0_0 : Option Addr} {pc0_0 : Nat} (ph0_0 : Fsl 32 KDSTree F pA0_0 pc0_0 a0.Kids) {r : Bool} (hm : m_law13_none g a0 = some r) :
    CallSp Try.prog 5 #[.agg #[.int .i64 a0.N, .slice pA0_0 a0.Kids.length pc0_0]] F [] (fun u F' H' => u = (.bool r) ∧ H' = []) := by
  unfold m_law13_none at hm
  refine CallSp.enter (args := [.agg #[.int .i64 a0.N, .slice pA0_0 a0.Kids.length pc0_0]]) Try.func5 rfl rfl ?_
  intro w0 m0 hm0
  refine St.seq ?_
  refine St.region ?_
  refine St.box rfl trivial rfl ?_
  intro b2
  refine St.val (v := (.bool false)) (Yields.assign rfl) trivial rfl rfl ?_
  refine St.nil ?_
  refine St.norm ?_
  refine St.seq ?_
  refine St.seq ?_
  refine St.region ?_
  refine St.val (v := (.agg #[.int .i64 a0.N, .slice pA0_0 a0.Kids.length pc0_0])) (Yields.load rfl (Loads.Hk (vs := [.int .i64 a0.N, .slice pA0_0 a0.Kids.length pc0_0]) 0 rfl ta24 rfl rfl)) trivial rfl rfl ?_
  obtain ⟨q3, e4, hm⟩ := bS hm
  refine St.call [blk b2 (.cells #[.int .i64 a0.N, .slice pA0_0 a0.Kids.length pc0_0] 24 (0, 0))] (m_search_Validate_sp (a0 := a0) ph0_0 e4) rfl (fun _ ha => ev1 ha rfl) rfl en10 rfl rfl trivial ?_
  rintro _ F5 _ ⟨rfl, rfl⟩ l6
  refine St.val (v := (.bool (!decide (q3 = 0)))) (Yields.ne rfl rfl) trivial rfl rfl ?_
  refine St.nil ?_
  refine St.norm ?_
  refine St.cond_b rfl ?_ ?_
  · intro q7
    replace q7 : ¬ (q3 = 0) := nd_t q7
    replace hm := iF hm q7
    refine St.seq ?_
    refine St.region ?_
    obtain ⟨q8, e9, hm⟩ := bS hm
    refine St.call [blk b2 (.cells #[.int .i64 a0.N, .slice pA0_0 a0.Kids.length pc0_0] 24 (0, 0))] (m_law13_known_sp e9) rfl (fun _ _ => ev0) rfl en14 rfl rfl trivial ?_
    rintro _ F10 _ ⟨rfl, rfl⟩ l11
    refine St.val (v := (.bool q8)) (Yields.assign rfl) trivial rfl rfl ?_
    refine St.nil ?_
    refine St.norm ?_
    refine St.ret ?_
    refine St.thenret ?_
    obtain rfl := sI hm
    exact St.doneR1 rfl rfl ⟨rfl, rfl⟩ (fun w hs => Among.of Among.none w hs)
  · intro q12
    replace q12 : q3 = 0 := nd_f q12
    replace hm := iT hm q12
    refine St.skip ?_
    refine St.norm ?_
    refine St.seq ?_
    refine St.region ?_
    refine St.val (v := (.agg #[.int .i64 a0.N, .slice pA0_0 a0.Kids.length pc0_0])) (Yields.load rfl (Loads.Hk (vs := [.int .i64 a0.N, .slice pA0_0 a0.Kids.length pc0_0]) 0 rfl ta24 rfl rfl)) trivial rfl rfl ?_
    obtain ⟨q13, e14, hm⟩ := bS hm
    refine St.call [blk b2 (.cells #[.int .i64 a0.N, .slice pA0_0 a0.Kids.length pc0_0] 24 (0, 0))] (m_search_Places_sp (a0 := a0) (Fsl.mono l6 ph0_0) e14) rfl (fun _ ha => ev2 ha rfl rfl) rfl en8 rfl rfl trivial ?_
    rintro _ F15 _ ⟨A17, c18, rfl, h19, rfl⟩ l16
    refine St.val (v := (.tuple #[.slice A17 q13.1.length c18, .int .i64 q13.2])) (Yields.move rfl) trivial rfl rfl ?_
    refine St.val (v := (.slice A17 q13.1.length c18)) (Yields.extract rfl rfl) trivial rfl rfl ?_
    refine St.val (v := (.int .i64 q13.2)) (Yields.extract rfl rfl) trivial rfl rfl ?_
    refine St.val (v := (.slice A17 q13.1.length c18)) (Yields.assign rfl) trivial rfl rfl ?_
    refine St.val (v := (.int .i64 q13.2)) (Yields.assign rfl) trivial rfl rfl ?_
    refine St.nil ?_
    refine St.norm ?_
    refine St.seq ?_
    refine St.region ?_
    refine St.val (v := (.agg #[.int .i64 a0.N, .slice pA0_0 a0.Kids.length pc0_0])) (Yields.load rfl (Loads.Hk (vs := [.int .i64 a0.N, .slice pA0_0 a0.Kids.length pc0_0]) 0 rfl ta24 rfl rfl)) trivial rfl rfl ?_
    obtain ⟨q21, e22, hm⟩ := bS hm
    refine St.call [blk b2 (.cells #[.int .i64 a0.N, .slice pA0_0 a0.Kids.length pc0_0] 24 (0, 0))] (m_search_Leaves_sp (a0 := a0) (Fsl.mono (PH.le_trans l6 l16) ph0_0) e22) rfl (fun _ ha => ev3 ha rfl rfl rfl) rfl en6 rfl rfl trivial ?_
    rintro _ F23 _ ⟨A25, c26, rfl, h27, rfl⟩ l24
    refine St.val (v := (.tuple #[.slice A25 q21.1.length c26, .bool q21.2.1, .int .i64 q21.2.2])) (Yields.move rfl) trivial rfl rfl ?_
    refine St.val (v := (.slice A25 q21.1.length c26)) (Yields.extract rfl rfl) trivial rfl rfl ?_
    refine St.val (v := (.bool q21.2.1)) (Yields.extract rfl rfl) trivial rfl rfl ?_
    refine St.val (v := (.int .i64 q21.2.2)) (Yields.extract rfl rfl) trivial rfl rfl ?_
    refine St.val (v := (.slice A25 q21.1.length c26)) (Yields.assign rfl) trivial rfl rfl ?_
    refine St.val (v := (.bool q21.2.1)) (Yields.assign rfl) trivial rfl rfl ?_
    refine St.val (v := (.int .i64 q21.2.2)) (Yields.assign rfl) trivial rfl rfl ?_
    refine St.nil ?_
    refine St.norm ?_
    refine St.seq ?_
    obtain ⟨z29, hm, hk30⟩ := bS hm
    refine St.cutI (fun a w => Has Try.f5.ntmps a [(1, .pointer (some ⟨b2, 0, none⟩)), (3, .slice A17 q13.1.length c18), (5, .slice A25 q21.1.length c26), (37, .bool z29)] ∧ Sat ⟨w0, fun b => m0 b ≠ none, F⟩ F23 [blk b2 (.cells #[.int .i64 a0.N, .slice pA0_0 a0.Kids.length pc0_0] 24 (0, 0))] w) ?_ ?_
    · skip
      refine St.region ?_
      refine St.val (v := (.int .i64 q13.2)) (Yields.move rfl) trivial rfl rfl ?_
      by_cases q31 : q13.2 = 0
      · replace hm := iT hm q31
        refine St.val (v := (.bool false)) (Yields.nis q31 (Yields.ne rfl rfl)) trivial rfl rfl ?_
        refine St.val (v := (.bool false)) (Yields.move rfl) trivial rfl rfl ?_
        refine St.val (v := (.int .i64 q21.2.2)) (Yields.move rfl) rfl rfl rfl ?_
        refine St.val (v := (.bool (!decide (q21.2.2 = 0)))) (Yields.ne rfl rfl) rfl rfl rfl ?_
        refine St.val (v := (.bool (!decide (q21.2.2 = 0)))) (Yields.pick_f rfl rfl) trivial rfl rfl ?_
        refine St.nil ?_
        obtain rfl := sI hm
        intro a w ha hs
        exact ⟨ha.covers ⟨rfl, rfl, rfl, rfl, trivial⟩, (Among.of (Among.take 0 rfl rfl Among.none) _ hs)⟩
      · replace hm := iF hm q31
        refine St.val (v := (.bool true)) (Yields.nisnt q31 (Yields.ne rfl rfl)) trivial rfl rfl ?_
        refine St.val (v := (.bool true)) (Yields.move rfl) trivial rfl rfl ?_
        refine St.unwanted rfl rfl rfl ?_
        refine St.unwanted rfl rfl rfl ?_
        refine St.val (v := (.bool true)) (Yields.pick_t rfl rfl) trivial rfl rfl ?_
        refine St.nil ?_
        obtain rfl := sI hm
        intro a w ha hs
        exact ⟨ha.covers ⟨rfl, rfl, rfl, rfl, trivial⟩, (Among.of (Among.take 0 rfl rfl Among.none) _ hs)⟩
    · rintro a w ⟨ha, hs⟩
      replace hm := hk30
      refine St.use (?_ : St _ _ _ _ _ _) ha hs
      clear ha hs a w
      refine St.cond_b rfl ?_ ?_
      · intro q32
        replace q32 : z29 = true := q32
        replace hm := iT hm q32
        refine St.seq ?_
        refine St.region ?_
        refine St.val (v := (.bool false)) (Yields.assign rfl) trivial rfl rfl ?_
        refine St.nil ?_
        refine St.norm ?_
        refine St.ret ?_
        refine St.thenret ?_
        obtain rfl := sI hm
        exact St.doneR1 rfl rfl ⟨rfl, rfl⟩ (fun w hs => Among.of Among.none w hs)
      · intro q33
        replace q33 : ¬ (z29 = true) := bf q33
        replace hm := iF hm q33
        refine St.skip ?_
        refine St.norm ?_
        obtain ⟨o37, hm, ho38⟩ := jS hm
        refine St.cutI (fun a w => ∃ z34 : Unit, o37 = .inl z34 ∧ ∃ (F35 : PH), PH.le F23 F35 ∧ Has Try.f5.ntmps a [] ∧ Sat ⟨w0, fun b => m0 b ≠ none, F⟩ F35 [] w) ?_ ?_
        · skip
          refine St.seq ?_
          refine St.region ?_
          refine St.val (v := (.int .i64 0)) (Yields.assign rfl) trivial rfl rfl ?_
          refine St.nil ?_
          refine St.norm ?_
          refine St.block ?_
          refine St.loopM hm (fun s41 a w => ∃ (F45 : PH), PH.le F23 F45 ∧ Has Try.f5.ntmps a [(1, .pointer (some ⟨b2, 0, none⟩)), (3, .slice A17 q13.1.length c18), (5, .slice A25 q21.1.length c26), (8, .int .i64 ((s41 : Nat) : Int))] ∧ Sat ⟨w0, fun b => m0 b ≠ none, F⟩ F45 [blk b2 (.cells #[.int .i64 a0.N, .slice pA0_0 a0.Kids.length pc0_0] 24 (0, 0))] w) ?_ ?_
          · skip
            intro a w ha hs
            exact ⟨F23, (PH.le_refl _), ha.covers ⟨rfl, rfl, rfl, rfl, trivial⟩, (Among.of (Among.take 0 rfl rfl Among.none) _ hs)⟩
          · rintro s41 o42 co43 hm ho44 a w ⟨F45, l46, ha, hs⟩
            refine St.use (?_ : St _ _ _ _ _ _) ha hs
            clear ha hs a w
            refine St.seq ?_
            refine St.seq ?_
            refine St.region ?_
            refine St.val (v := (.int .i64 ((s41 : Nat) : Int))) (Yields.move rfl) trivial rfl rfl ?_
            refine St.val (v := (.bool (decide (((s41 : Nat) : Int) ≤ 4)))) (Yields.le rfl rfl) trivial rfl rfl ?_
            refine St.nil ?_
            refine St.norm ?_
            refine St.cond_b rfl ?_ ?_
            · intro q47
              replace q47 : ((s41 : Nat) : Int) ≤ 4 := of_decide_eq_true q47
              replace hm := iT hm q47
              refine St.skip ?_
              refine St.norm ?_
              obtain ⟨o51, hm, ho52⟩ := jS hm
              refine St.cutI (fun a w => ∃ z48 : Unit, o51 = .inl z48 ∧ ∃ (F49 : PH), PH.le F45 F49 ∧ Has Try.f5.ntmps a [(1, .pointer (some ⟨b2, 0, none⟩)), (3, .slice A17 q13.1.length c18), (5, .slice A25 q21.1.length c26), (8, .int .i64 ((s41 : Nat) : Int))] ∧ Sat ⟨w0, fun b => m0 b ≠ none, F⟩ F49 [blk b2 (.cells #[.int .i64 a0.N, .slice pA0_0 a0.Kids.length pc0_0] 24 (0, 0))] w) ?_ ?_
              · skip
                refine St.block ?_
                refine St.seq ?_
                refine St.region ?_
                refine St.val (v := (.agg #[.int .i64 a0.N, .slice pA0_0 a0.Kids.length pc0_0])) (Yields.load rfl (Loads.Hk (vs := [.int .i64 a0.N, .slice pA0_0 a0.Kids.length pc0_0]) 0 rfl ta24 rfl rfl)) trivial rfl rfl ?_
                refine St.val (v := (.int .i64 ((s41 : Nat) : Int))) (Yields.move rfl) trivial rfl rfl ?_
                obtain ⟨q53, e54, hm⟩ := bS hm
                refine St.call [blk b2 (.cells #[.int .i64 a0.N, .slice pA0_0 a0.Kids.length pc0_0] 24 (0, 0))] (m_search_Places_sp (a0 := a0) (Fsl.mono (PH.le_trans l6 (PH.le_trans l16 (PH.le_trans l24 l46))) ph0_0) e54) rfl (fun _ ha => ev2 ha rfl rfl) rfl en8 rfl rfl trivial ?_
                rintro _ F55 _ ⟨A57, c58, rfl, h59, rfl⟩ l56
                refine St.val (v := (.tuple #[.slice A57 q53.1.length c58, .int .i64 q53.2])) (Yields.move rfl) trivial rfl rfl ?_
                refine St.val (v := (.slice A57 q53.1.length c58)) (Yields.extract rfl rfl) trivial rfl rfl ?_
                refine St.val (v := (.int .i64 q53.2)) (Yields.extract rfl rfl) trivial rfl rfl ?_
                refine St.val (v := (.slice A57 q53.1.length c58)) (Yields.assign rfl) trivial rfl rfl ?_
                refine St.val (v := (.int .i64 q53.2)) (Yields.assign rfl) trivial rfl rfl ?_
                refine St.nil ?_
                refine St.norm ?_
                refine St.seq ?_
                refine St.region ?_
                refine St.val (v := (.agg #[.int .i64 a0.N, .slice pA0_0 a0.Kids.length pc0_0])) (Yields.load rfl (Loads.Hk (vs := [.int .i64 a0.N, .slice pA0_0 a0.Kids.length pc0_0]) 0 rfl ta24 rfl rfl)) trivial rfl rfl ?_
                refine St.val (v := (.int .i64 ((s41 : Nat) : Int))) (Yields.move rfl) trivial rfl rfl ?_
                obtain ⟨q61, e62, hm⟩ := bS hm
                refine St.call [blk b2 (.cells #[.int .i64 a0.N, .slice pA0_0 a0.Kids.length pc0_0] 24 (0, 0))] (m_search_Leaves_sp (a0 := a0) (Fsl.mono (PH.le_trans l6 (PH.le_trans l16 (PH.le_trans l24 (PH.le_trans l46 l56)))) ph0_0) e62) rfl (fun _ ha => ev3 ha rfl rfl rfl) rfl en6 rfl rfl trivial ?_
                rintro _ F63 _ ⟨A65, c66, rfl, h67, rfl⟩ l64
                refine St.val (v := (.tuple #[.slice A65 q61.1.length c66, .bool q61.2.1, .int .i64 q61.2.2])) (Yields.move rfl) trivial rfl rfl ?_
                refine St.val (v := (.slice A65 q61.1.length c66)) (Yields.extract rfl rfl) trivial rfl rfl ?_
                refine St.val (v := (.bool q61.2.1)) (Yields.extract rfl rfl) trivial rfl rfl ?_
                refine St.val (v := (.int .i64 q61.2.2)) (Yields.extract rfl rfl) trivial rfl rfl ?_
                refine St.val (v := (.slice A65 q61.1.length c66)) (Yields.assign rfl) trivial rfl rfl ?_
                refine St.val (v := (.bool q61.2.1)) (Yields.assign rfl) trivial rfl rfl ?_
                refine St.val (v := (.int .i64 q61.2.2)) (Yields.assign rfl) trivial rfl rfl ?_
                refine St.nil ?_
                refine St.norm ?_
                refine St.seq ?_
                obtain ⟨z69, hm, hk70⟩ := bS hm
                refine St.cutI (fun a w => Has Try.f5.ntmps a [(1, .pointer (some ⟨b2, 0, none⟩)), (3, .slice A17 q13.1.length c18), (5, .slice A25 q21.1.length c26), (8, .int .i64 ((s41 : Nat) : Int)), (9, .slice A57 q53.1.length c58), (11, .slice A65 q61.1.length c66), (77, .bool z69)] ∧ Sat ⟨w0, fun b => m0 b ≠ none, F⟩ F63 [blk b2 (.cells #[.int .i64 a0.N, .slice pA0_0 a0.Kids.length pc0_0] 24 (0, 0))] w) ?_ ?_
                · skip
                  refine St.region ?_
                  refine St.val (v := (.int .i64 q53.2)) (Yields.move rfl) trivial rfl rfl ?_
                  by_cases q71 : q53.2 = 0
                  · replace hm := iT hm q71
                    refine St.val (v := (.bool false)) (Yields.nis q71 (Yields.ne rfl rfl)) trivial rfl rfl ?_
                    refine St.val (v := (.bool false)) (Yields.move rfl) trivial rfl rfl ?_
                    refine St.val (v := (.int .i64 q61.2.2)) (Yields.move rfl) rfl rfl rfl ?_
                    by_cases q72 : q61.2.2 = 0
                    · replace hm := iT hm q72
                      refine St.val (v := (.bool false)) (Yields.nis q72 (Yields.ne rfl rfl)) rfl rfl rfl ?_
                      refine St.val (v := (.bool false)) (Yields.pick_f rfl rfl) trivial rfl rfl ?_
                      refine St.val (v := (.bool false)) (Yields.move rfl) trivial rfl rfl ?_
                      by_cases q73 : q61.2.1 = true
                      · replace hm := iT hm q73
                        have hb74 : (q61.2.1) = true := q73
                        try rw [hb74]
                        refine St.val (v := (.bool true)) (Yields.move rfl) rfl rfl rfl ?_
                        refine St.val (v := (.bool true)) (Yields.pick_f rfl rfl) trivial rfl rfl ?_
                        refine St.val (v := (.bool true)) (Yields.move rfl) trivial rfl rfl ?_
                        refine St.unwanted rfl rfl rfl ?_
                        refine St.unwanted rfl rfl rfl ?_
                        refine St.unwanted rfl rfl rfl ?_
                        refine St.unwanted rfl rfl rfl ?_
                        refine St.unwanted rfl rfl rfl ?_
                        refine St.val (v := (.bool true)) (Yields.pick_t rfl rfl) trivial rfl rfl ?_
                        refine St.val (v := (.bool true)) (Yields.move rfl) trivial rfl rfl ?_
                        refine St.unwanted rfl rfl rfl ?_
                        refine St.unwanted rfl rfl rfl ?_
                        refine St.unwanted rfl rfl rfl ?_
                        refine St.unwanted rfl rfl rfl ?_
                        refine St.unwanted rfl rfl rfl ?_
                        refine St.val (v := (.bool true)) (Yields.pick_t rfl rfl) trivial rfl rfl ?_
                        refine St.nil ?_
                        obtain rfl := sI hm
                        intro a w ha hs
                        exact ⟨ha.covers ⟨rfl, rfl, rfl, rfl, rfl, rfl, rfl, trivial⟩, (Among.of (Among.take 0 rfl rfl Among.none) _ hs)⟩
                      · replace hm := iF hm q73
                        have hb75 : (q61.2.1) = false := eq_false_of_ne_true q73
                        try rw [hb75]
                        refine St.val (v := (.bool false)) (Yields.move rfl) rfl rfl rfl ?_
                        refine St.val (v := (.bool false)) (Yields.pick_f rfl rfl) trivial rfl rfl ?_
                        refine St.val (v := (.bool false)) (Yields.move rfl) trivial rfl rfl ?_
                        refine St.val (v := (.slice A57 q53.1.length c58)) (Yields.move rfl) rfl rfl rfl ?_
                        refine St.val (v := (.int .i64 ((q53.1.length : Nat) : Int))) (Yields.lenSlice tu31 rfl) rfl rfl rfl ?_
                        refine St.val (v := (.slice A17 q13.1.length c18)) (Yields.move rfl) rfl rfl rfl ?_
                        refine St.val (v := (.int .i64 ((q13.1.length : Nat) : Int))) (Yields.lenSlice tu31 rfl) rfl rfl rfl ?_
                        by_cases q76 : ((q53.1.length : Nat) : Int) = ((q13.1.length : Nat) : Int)
                        · replace hm := iT hm q76
                          refine St.val (v := (.bool false)) (Yields.nis q76 (Yields.ne rfl rfl)) rfl rfl rfl ?_
                          refine St.val (v := (.bool false)) (Yields.pick_f rfl rfl) trivial rfl rfl ?_
                          refine St.val (v := (.bool false)) (Yields.move rfl) trivial rfl rfl ?_
                          refine St.val (v := (.slice A65 q61.1.length c66)) (Yields.move rfl) rfl rfl rfl ?_
                          refine St.val (v := (.int .i64 ((q61.1.length : Nat) : Int))) (Yields.lenSlice tu27 rfl) rfl rfl rfl ?_
                          refine St.val (v := (.slice A25 q21.1.length c26)) (Yields.move rfl) rfl rfl rfl ?_
                          refine St.val (v := (.int .i64 ((q21.1.length : Nat) : Int))) (Yields.lenSlice tu27 rfl) rfl rfl rfl ?_
                          refine St.val (v := (.bool (!decide (((q61.1.length : Nat) : Int) = ((q21.1.length : Nat) : Int))))) (Yields.ne rfl rfl) rfl rfl rfl ?_
                          refine St.val (v := (.bool (!decide (((q61.1.length : Nat) : Int) = ((q21.1.length : Nat) : Int))))) (Yields.pick_f rfl rfl) trivial rfl rfl ?_
                          refine St.nil ?_
                          obtain rfl := sI hm
                          intro a w ha hs
                          exact ⟨ha.covers ⟨rfl, rfl, rfl, rfl, rfl, rfl, rfl, trivial⟩, (Among.of (Among.take 0 rfl rfl Among.none) _ hs)⟩
                        · replace hm := iF hm q76
                          refine St.val (v := (.bool true)) (Yields.nisnt q76 (Yields.ne rfl rfl)) rfl rfl rfl ?_
                          refine St.val (v := (.bool true)) (Yields.pick_f rfl rfl) trivial rfl rfl ?_
                          refine St.val (v := (.bool true)) (Yields.move rfl) trivial rfl rfl ?_
                          refine St.unwanted rfl rfl rfl ?_
                          refine St.unwanted rfl rfl rfl ?_
                          refine St.unwanted rfl rfl rfl ?_
                          refine St.unwanted rfl rfl rfl ?_
                          refine St.unwanted rfl rfl rfl ?_
                          refine St.val (v := (.bool true)) (Yields.pick_t rfl rfl) trivial rfl rfl ?_
                          refine St.nil ?_
                          obtain rfl := sI hm
                          intro a w ha hs
                          exact ⟨ha.covers ⟨rfl, rfl, rfl, rfl, rfl, rfl, rfl, trivial⟩, (Among.of (Among.take 0 rfl rfl Among.none) _ hs)⟩
                    · replace hm := iF hm q72
                      refine St.val (v := (.bool true)) (Yields.nisnt q72 (Yields.ne rfl rfl)) rfl rfl rfl ?_
                      refine St.val (v := (.bool true)) (Yields.pick_f rfl rfl) trivial rfl rfl ?_
                      refine St.val (v := (.bool true)) (Yields.move rfl) trivial rfl rfl ?_
                      refine St.unwanted rfl rfl rfl ?_
                      refine St.val (v := (.bool true)) (Yields.pick_t rfl rfl) trivial rfl rfl ?_
                      refine St.val (v := (.bool true)) (Yields.move rfl) trivial rfl rfl ?_
                      refine St.unwanted rfl rfl rfl ?_
                      refine St.unwanted rfl rfl rfl ?_
                      refine St.unwanted rfl rfl rfl ?_
                      refine St.unwanted rfl rfl rfl ?_
                      refine St.unwanted rfl rfl rfl ?_
                      refine St.val (v := (.bool true)) (Yields.pick_t rfl rfl) trivial rfl rfl ?_
                      refine St.val (v := (.bool true)) (Yields.move rfl) trivial rfl rfl ?_
                      refine St.unwanted rfl rfl rfl ?_
                      refine St.unwanted rfl rfl rfl ?_
                      refine St.unwanted rfl rfl rfl ?_
                      refine St.unwanted rfl rfl rfl ?_
                      refine St.unwanted rfl rfl rfl ?_
                      refine St.val (v := (.bool true)) (Yields.pick_t rfl rfl) trivial rfl rfl ?_
                      refine St.nil ?_
                      obtain rfl := sI hm
                      intro a w ha hs
                      exact ⟨ha.covers ⟨rfl, rfl, rfl, rfl, rfl, rfl, rfl, trivial⟩, (Among.of (Among.take 0 rfl rfl Among.none) _ hs)⟩
                  · replace hm := iF hm q71
                    refine St.val (v := (.bool true)) (Yields.nisnt q71 (Yields.ne rfl rfl)) trivial rfl rfl ?_
                    refine St.val (v := (.bool true)) (Yields.move rfl) trivial rfl rfl ?_
                    refine St.unwanted rfl rfl rfl ?_
                    refine St.unwanted rfl rfl rfl ?_
                    refine St.val (v := (.bool true)) (Yields.pick_t rfl rfl) trivial rfl rfl ?_
                    refine St.val (v := (.bool true)) (Yields.move rfl) trivial rfl rfl ?_
                    refine St.unwanted rfl rfl rfl ?_
                    refine St.val (v := (.bool true)) (Yields.pick_t rfl rfl) trivial rfl rfl ?_
                    refine St.val (v := (.bool true)) (Yields.move rfl) trivial rfl rfl ?_
                    refine St.unwanted rfl rfl rfl ?_
                    refine St.unwanted rfl rfl rfl ?_
                    refine St.unwanted rfl rfl rfl ?_
                    refine St.unwanted rfl rfl rfl ?_
                    refine St.unwanted rfl rfl rfl ?_
                    refine St.val (v := (.bool true)) (Yields.pick_t rfl rfl) trivial rfl rfl ?_
                    refine St.val (v := (.bool true)) (Yields.move rfl) trivial rfl rfl ?_
                    refine St.unwanted rfl rfl rfl ?_
                    refine St.unwanted rfl rfl rfl ?_
                    refine St.unwanted rfl rfl rfl ?_
                    refine St.unwanted rfl rfl rfl ?_
                    refine St.unwanted rfl rfl rfl ?_
                    refine St.val (v := (.bool true)) (Yields.pick_t rfl rfl) trivial rfl rfl ?_
                    refine St.nil ?_
                    obtain rfl := sI hm
                    intro a w ha hs
                    exact ⟨ha.covers ⟨rfl, rfl, rfl, rfl, rfl, rfl, rfl, trivial⟩, (Among.of (Among.take 0 rfl rfl Among.none) _ hs)⟩
                · rintro a w ⟨ha, hs⟩
                  replace hm := hk70
                  refine St.use (?_ : St _ _ _ _ _ _) ha hs
                  clear ha hs a w
                  refine St.cond_b rfl ?_ ?_
                  · intro q77
                    replace q77 : z69 = true := q77
                    replace hm := iT hm q77
                    refine St.seq ?_
                    refine St.region ?_
                    refine St.val (v := (.bool false)) (Yields.assign rfl) trivial rfl rfl ?_
                    refine St.nil ?_
                    refine St.norm ?_
                    refine St.ret ?_
                    refine St.thenret ?_
                    refine St.inret ?_
                    refine St.thenret ?_
                    refine St.thenret ?_
                    refine St.inret ?_
                    refine St.thenret ?_
                    obtain rfl := sI hm
                    obtain rfl := aR ho52
                    obtain rfl := aR ho44
                    obtain rfl := aR ho38
                    exact St.doneR1 rfl rfl ⟨rfl, rfl⟩ (fun w hs => Among.of Among.none w hs)
                  · intro q78
                    replace q78 : ¬ (z69 = true) := bf q78
                    replace hm := iF hm q78
                    refine St.skip ?_
                    refine St.norm ?_
                    obtain ⟨o82, hm, ho83⟩ := jS hm
                    refine St.cutI (fun a w => ∃ z79 : Unit, o82 = .inl z79 ∧ ∃ (F80 : PH), PH.le F63 F80 ∧ Has Try.f5.ntmps a [(1, .pointer (some ⟨b2, 0, none⟩)), (3, .slice A17 q13.1.length c18), (5, .slice A25 q21.1.length c26), (8, .int .i64 ((s41 : Nat) : Int)), (11, .slice A65 q61.1.length c66)] ∧ Sat ⟨w0, fun b => m0 b ≠ none, F⟩ F80 [blk b2 (.cells #[.int .i64 a0.N, .slice pA0_0 a0.Kids.length pc0_0] 24 (0, 0))] w) ?_ ?_
                    · skip
                      refine St.seq ?_
                      refine St.region ?_
                      refine St.val (v := (.int .i64 0)) (Yields.assign rfl) trivial rfl rfl ?_
                      refine St.nil ?_
                      refine St.norm ?_
                      refine St.block ?_
                      refine St.loopM hm (fun s87 a w => ∃ (F91 : PH), PH.le F63 F91 ∧ Has Try.f5.ntmps a [(1, .pointer (some ⟨b2, 0, none⟩)), (3, .slice A17 q13.1.length c18), (5, .slice A25 q21.1.length c26), (8, .int .i64 ((s41 : Nat) : Int)), (9, .slice A57 q53.1.length c58), (11, .slice A65 q61.1.length c66), (14, .int .i64 ((s87 : Nat) : Int))] ∧ Sat ⟨w0, fun b => m0 b ≠ none, F⟩ F91 [blk b2 (.cells #[.int .i64 a0.N, .slice pA0_0 a0.Kids.length pc0_0] 24 (0, 0))] w) ?_ ?_
                      · skip
                        intro a w ha hs
                        exact ⟨F63, (PH.le_refl _), ha.covers ⟨rfl, rfl, rfl, rfl, rfl, rfl, rfl, trivial⟩, (Among.of (Among.take 0 rfl rfl Among.none) _ hs)⟩
                      · rintro s87 o88 co89 hm ho90 a w ⟨F91, l92, ha, hs⟩
                        refine St.use (?_ : St _ _ _ _ _ _) ha hs
                        clear ha hs a w
                        refine St.seq ?_
                        refine St.seq ?_
                        refine St.region ?_
                        refine St.val (v := (.int .i64 ((s87 : Nat) : Int))) (Yields.move rfl) trivial rfl rfl ?_
                        refine St.val (v := (.slice A57 q53.1.length c58)) (Yields.move rfl) trivial rfl rfl ?_
                        refine St.val (v := (.int .i64 ((q53.1.length : Nat) : Int))) (Yields.lenSlice tu31 rfl) trivial rfl rfl ?_
                        refine St.val (v := (.bool (decide (((s87 : Nat) : Int) < ((q53.1.length : Nat) : Int))))) (Yields.lt rfl rfl) trivial rfl rfl ?_
                        refine St.nil ?_
                        refine St.norm ?_
                        refine St.cond_b rfl ?_ ?_
                        · intro q93
                          replace q93 : ((s87 : Nat) : Int) < ((q53.1.length : Nat) : Int) := of_decide_eq_true q93
                          replace hm := iT hm q93
                          refine St.skip ?_
                          refine St.norm ?_
                          obtain ⟨o97, hm, ho98⟩ := jS hm
                          refine St.cutI (fun a w => ∃ z94 : Unit, o97 = .inl z94 ∧ ∃ (F95 : PH), PH.le F91 F95 ∧ Has Try.f5.ntmps a [(1, .pointer (some ⟨b2, 0, none⟩)), (3, .slice A17 q13.1.length c18), (5, .slice A25 q21.1.length c26), (8, .int .i64 ((s41 : Nat) : Int)), (9, .slice A57 q53.1.length c58), (11, .slice A65 q61.1.length c66), (14, .int .i64 ((s87 : Nat) : Int))] ∧ Sat ⟨w0, fun b => m0 b ≠ none, F⟩ F95 [blk b2 (.cells #[.int .i64 a0.N, .slice pA0_0 a0.Kids.length pc0_0] 24 (0, 0))] w) ?_ ?_
                          · skip
                            refine St.block ?_
                            refine St.seq ?_
                            refine St.region ?_
                            refine St.val (v := (.int .i64 0)) (Yields.assign rfl) trivial rfl rfl ?_
                            refine St.nil ?_
                            refine St.norm ?_
                            refine St.block ?_
                            refine St.loopM hm (fun s101 a w => ∃ (F105 : PH), PH.le F91 F105 ∧ Has Try.f5.ntmps a [(1, .pointer (some ⟨b2, 0, none⟩)), (3, .slice A17 q13.1.length c18), (5, .slice A25 q21.1.length c26), (8, .int .i64 ((s41 : Nat) : Int)), (9, .slice A57 q53.1.length c58), (11, .slice A65 q61.1.length c66), (14, .int .i64 ((s87 : Nat) : Int)), (15, .int .i64 ((s101 : Nat) : Int))] ∧ Sat ⟨w0, fun b => m0 b ≠ none, F⟩ F105 [blk b2 (.cells #[.int .i64 a0.N, .slice pA0_0 a0.Kids.length pc0_0] 24 (0, 0))] w) ?_ ?_
                            · skip
                              intro a w ha hs
                              exact ⟨F91, (PH.le_refl _), ha.covers ⟨rfl, rfl, rfl, rfl, rfl, rfl, rfl, rfl, trivial⟩, (Among.of (Among.take 0 rfl rfl Among.none) _ hs)⟩
                            · rintro s101 o102 co103 hm ho104 a w ⟨F105, l106, ha, hs⟩
                              refine St.use (?_ : St _ _ _ _ _ _) ha hs
                              clear ha hs a w
                              refine St.seq ?_
                              refine St.seq ?_
                              refine St.region ?_
                              refine St.val (v := (.int .i64 ((s101 : Nat) : Int))) (Yields.move rfl) trivial rfl rfl ?_
                              refine St.val (v := (.int .i64 ((s87 : Nat) : Int))) (Yields.move rfl) trivial rfl rfl ?_
                              refine St.val (v := (.bool (decide (((s101 : Nat) : Int) < ((s87 : Nat) : Int))))) (Yields.lt rfl rfl) trivial rfl rfl ?_
                              refine St.nil ?_
                              refine St.norm ?_
                              refine St.cond_b rfl ?_ ?_
                              · intro q107
                                replace q107 : ((s101 : Nat) : Int) < ((s87 : Nat) : Int) := of_decide_eq_true q107
                                replace hm := iT hm q107
                                refine St.skip ?_
                                refine St.norm ?_
                                refine St.seq ?_
                                refine St.block ?_
                                refine St.seq ?_
                                refine StD.start [8] [blk b2 (.cells #[.int .i64 a0.N, .slice pA0_0 a0.Kids.length pc0_0] 24 (0, 0))] hmix ?_
                                refine StD.takeP (i := 0) (v := (.slice A57 q53.1.length c58)) rfl (fun _ => Yields.move rfl) rfl rfl trivial (by rintro _ _ _ ⟨_, _, _, _, h, _⟩; cases h) (by kernel_rfl) (listed' := #[true, false, false, false, false, false, false, false, false]) rfl ?_
                                refine StD.takeP (i := 1) (v := (.int .i64 ((s87 : Nat) : Int))) rfl (fun _ => Yields.move rfl) rfl rfl trivial (by rintro _ _ _ ⟨_, _, _, _, h, _⟩; cases h) (by kernel_rfl) (listed' := #[true, true, false, false, false, false, false, false, false]) rfl ?_
                                obtain ⟨x108, e109, hm⟩ := bS hm
                                obtain ⟨p110, cs111, jx112, R113, k114⟩ := (Fsl.mono (PH.le_trans l64 (PH.le_trans l92 l106)) h59).nidx e109
                                obtain ⟨A115, c116, rfl, h117⟩ := R113
                                refine StD.takeP (i := 2) (v := (.pointer (some p110))) rfl (fun _ => Yields.idx jx112 ts31 rfl rfl) rfl rfl trivial (by rintro _ _ _ ⟨_, _, _, _, h, _⟩; cases h) (by kernel_rfl) (listed' := #[true, true, true, false, false, false, false, false, false]) rfl ?_
                                refine StD.take [0, 1, 2, 4, 5, 6] (i := 3) (v := (.slice A115 x108.length c116)) rfl (Yields.load rfl (Loads.Fat k114 tc27 rfl)) rfl rfl trivial Among.refl (by rintro _ _ _ ⟨_, _, _, _, h, _⟩; cases h) (by kernel_rfl) (listed' := #[true, true, true, true, false, false, false, false, false]) rfl ?_
                                refine StD.takeP (i := 4) (v := (.slice A57 q53.1.length c58)) rfl (fun _ => Yields.move rfl) rfl rfl trivial (by rintro _ _ _ ⟨_, _, _, _, h, _⟩; cases h) (by kernel_rfl) (listed' := #[true, true, true, true, true, false, false, false, false]) rfl ?_
                                refine StD.takeP (i := 5) (v := (.int .i64 ((s101 : Nat) : Int))) rfl (fun _ => Yields.move rfl) rfl rfl trivial (by rintro _ _ _ ⟨_, _, _, _, h, _⟩; cases h) (by kernel_rfl) (listed' := #[true, true, true, true, true, true, false, false, false]) rfl ?_
                                obtain ⟨x119, e120, hm⟩ := bS hm
                                obtain ⟨p121, cs122, jx123, R124, k125⟩ := (Fsl.mono (PH.le_trans l64 (PH.le_trans l92 l106)) h59).nidx e120
                                obtain ⟨A126, c127, rfl, h128⟩ := R124
                                refine StD.takeP (i := 6) (v := (.pointer (some p121))) rfl (fun _ => Yields.idx jx123 ts31 rfl rfl) rfl rfl trivial (by rintro _ _ _ ⟨_, _, _, _, h, _⟩; cases h) (by kernel_rfl) (listed' := #[true, true, true, true, true, true, true, false, false]) rfl ?_
                                refine StD.take [0, 1, 2, 4, 5, 6] (i := 7) (v := (.slice A126 x119.length c127)) rfl (Yields.load rfl (Loads.Fat k125 tc27 rfl)) rfl rfl trivial Among.refl (by rintro _ _ _ ⟨_, _, _, _, h, _⟩; cases h) (by kernel_rfl) (listed' := #[true, true, true, true, true, true, true, true, false]) rfl ?_
                                refine StD.only (i := 8) rfl (by kernel_rfl) (listed' := #[true, true, true, true, true, true, true, true, true]) rfl ?_
                                intro hcl130
                                obtain ⟨q131, e132, hm⟩ := bS hm
                                refine St.call [blk b2 (.cells #[.int .i64 a0.N, .slice pA0_0 a0.Kids.length pc0_0] 24 (0, 0))] (m_ref01_SameInts_sp h117 h128 e132) rfl (fun _ ha => ev2 ha rfl rfl) rfl en12 rfl rfl trivial ?_
                                rintro _ F133 _ ⟨rfl, rfl⟩ l134
                                refine StD.next hcl130 (fun h => by cases h) ?_
                                refine StD.done (by kernel_rfl) ?_
                                refine St.norm ?_
                                refine St.cond_b rfl ?_ ?_
                                · intro q135
                                  replace q135 : q131 = true := q135
                                  replace hm := iT hm q135
                                  refine St.seq ?_
                                  refine St.region ?_
                                  refine St.val (v := (.bool false)) (Yields.assign rfl) trivial rfl rfl ?_
                                  refine St.nil ?_
                                  refine St.norm ?_
                                  refine St.ret ?_
                                  refine St.inret ?_
                                  refine St.thenret ?_
                                  refine St.thenret ?_
                                  refine St.inret ?_
                                  refine St.inret ?_
                                  refine St.thenret ?_
                                  refine St.thenret ?_
                                  refine St.inret ?_
                                  refine St.thenret ?_
                                  refine St.inret ?_
                                  refine St.thenret ?_
                                  refine St.thenret ?_
                                  refine St.inret ?_
                                  refine St.thenret ?_
                                  obtain rfl := sI hm
                                  obtain rfl := aR ho104
                                  obtain rfl := aR ho98
                                  obtain rfl := aR ho90
                                  obtain rfl := aR ho83
                                  obtain rfl := aR ho52
                                  obtain rfl := aR ho44
                                  obtain rfl := aR ho38
                                  exact St.doneR1 rfl rfl ⟨rfl, rfl⟩ (fun w hs => Among.of Among.none w hs)
                                · intro q136
                                  replace q136 : ¬ (q131 = true) := bf q136
                                  replace hm := iF hm q136
                                  refine St.skip ?_
                                  refine St.innorm ?_
                                  refine St.norm ?_
                                  refine St.region ?_
                                  refine St.val (v := (.int .i64 ((s101 : Nat) : Int))) (Yields.move rfl) trivial rfl rfl ?_
                                  refine St.val (v := (.int .i64 ((s101 + 1 : Nat) : Int))) (Yields.addn (j := 1) rfl rfl rfl (by have q_0 := q107; have q_1 := q93; have q_2 := h59.bnd.2; omega)) trivial rfl rfl ?_
                                  refine St.val (v := (.int .i64 ((s101 + 1 : Nat) : Int))) (Yields.assign rfl) trivial rfl rfl ?_
                                  refine St.nil ?_
                                  refine St.norm ?_
                                  obtain rfl := sI hm
                                  intro a w ha hs
                                  exact ⟨s101 + 1, aL ho104, F133, (PH.le_trans l106 l134), ha.covers ⟨rfl, rfl, rfl, rfl, rfl, rfl, rfl, rfl, trivial⟩, (Among.of (Among.take 0 rfl rfl Among.none) _ hs)⟩
                              · intro q137
                                replace q137 : ¬ (((s101 : Nat) : Int) < ((s87 : Nat) : Int)) := of_decide_eq_false q137
                                replace hm := iF hm q137
                                refine St.exit ?_
                                refine St.thenexit ?_
                                refine St.thenexit ?_
                                refine St.inexit ?_
                                refine St.innorm ?_
                                obtain rfl := sI hm
                                obtain rfl := aR ho104
                                intro a w ha hs
                                exact ⟨(), rfl, F105, l106, ha.covers ⟨rfl, rfl, rfl, rfl, rfl, rfl, rfl, trivial⟩, (Among.of (Among.take 0 rfl rfl Among.none) _ hs)⟩
                          · rintro a w ⟨z94, rfl, F95, l96, ha, hs⟩
                            replace hm := aL ho98
                            refine St.use (?_ : St _ _ _ _ _ _) ha hs
                            clear ha hs a w
                            refine St.region ?_
                            refine St.val (v := (.int .i64 ((s87 : Nat) : Int))) (Yields.move rfl) trivial rfl rfl ?_
                            refine St.val (v := (.int .i64 ((s87 + 1 : Nat) : Int))) (Yields.addn (j := 1) rfl rfl rfl (by have q_0 := q93; have q_1 := h59.bnd.2; omega)) trivial rfl rfl ?_
                            refine St.val (v := (.int .i64 ((s87 + 1 : Nat) : Int))) (Yields.assign rfl) trivial rfl rfl ?_
                            refine St.nil ?_
                            refine St.norm ?_
                            obtain rfl := sI hm
                            intro a w ha hs
                            exact ⟨s87 + 1, aL ho90, F95, (PH.le_trans l92 l96), ha.covers ⟨rfl, rfl, rfl, rfl, rfl, rfl, rfl, trivial⟩, (Among.of (Among.take 0 rfl rfl Among.none) _ hs)⟩
                        · intro q138
                          replace q138 : ¬ (((s87 : Nat) : Int) < ((q53.1.length : Nat) : Int)) := of_decide_eq_false q138
                          replace hm := iF hm q138
                          refine St.exit ?_
                          refine St.thenexit ?_
                          refine St.thenexit ?_
                          refine St.inexit ?_
                          obtain rfl := sI hm
                          obtain rfl := aR ho90
                          intro a w ha hs
                          exact ⟨(), rfl, F91, l92, ha.covers ⟨rfl, rfl, rfl, rfl, rfl, trivial⟩, (Among.of (Among.take 0 rfl rfl Among.none) _ hs)⟩
                    · rintro a w ⟨z79, rfl, F80, l81, ha, hs⟩
                      replace hm := aL ho83
                      refine St.use (?_ : St _ _ _ _ _ _) ha hs
                      clear ha hs a w
                      refine St.seq ?_
                      refine St.region ?_
                      refine St.val (v := (.int .i64 0)) (Yields.assign rfl) trivial rfl rfl ?_
                      refine St.nil ?_
                      refine St.norm ?_
                      refine St.block ?_
                      refine St.loopM hm (fun s141 a w => ∃ (F145 : PH), PH.le F80 F145 ∧ Has Try.f5.ntmps a [(1, .pointer (some ⟨b2, 0, none⟩)), (3, .slice A17 q13.1.length c18), (5, .slice A25 q21.1.length c26), (8, .int .i64 ((s41 : Nat) : Int)), (11, .slice A65 q61.1.length c66), (16, .int .i64 ((s141 : Nat) : Int))] ∧ Sat ⟨w0, fun b => m0 b ≠ none, F⟩ F145 [blk b2 (.cells #[.int .i64 a0.N, .slice pA0_0 a0.Kids.length pc0_0] 24 (0, 0))] w) ?_ ?_
                      · skip
                        intro a w ha hs
                        exact ⟨F80, (PH.le_refl _), ha.covers ⟨rfl, rfl, rfl, rfl, rfl, rfl, trivial⟩, (Among.of (Among.take 0 rfl rfl Among.none) _ hs)⟩
                      · rintro s141 o142 co143 hm ho144 a w ⟨F145, l146, ha, hs⟩
                        refine St.use (?_ : St _ _ _ _ _ _) ha hs
                        clear ha hs a w
                        refine St.seq ?_
                        refine St.seq ?_
                        refine St.region ?_
                        refine St.val (v := (.int .i64 ((s141 : Nat) : Int))) (Yields.move rfl) trivial rfl rfl ?_
                        refine St.val (v := (.slice A25 q21.1.length c26)) (Yields.move rfl) trivial rfl rfl ?_
                        refine St.val (v := (.int .i64 ((q21.1.length : Nat) : Int))) (Yields.lenSlice tu27 rfl) trivial rfl rfl ?_
                        refine St.val (v := (.bool (decide (((s141 : Nat) : Int) < ((q21.1.length : Nat) : Int))))) (Yields.lt rfl rfl) trivial rfl rfl ?_
                        refine St.nil ?_
                        refine St.norm ?_
                        refine St.cond_b rfl ?_ ?_
                        · intro q147
                          replace q147 : ((s141 : Nat) : Int) < ((q21.1.length : Nat) : Int) := of_decide_eq_true q147
                          replace hm := iT hm q147
                          refine St.skip ?_
                          refine St.norm ?_
                          refine St.seq ?_
                          refine St.block ?_
                          refine St.seq ?_
                          refine StD.start [11] [blk b2 (.cells #[.int .i64 a0.N, .slice pA0_0 a0.Kids.length pc0_0] 24 (0, 0))] hmix ?_
                          refine StD.takeP (i := 0) (v := (.slice A25 q21.1.length c26)) rfl (fun _ => Yields.move rfl) rfl rfl trivial (by rintro _ _ _ ⟨_, _, _, _, h, _⟩; cases h) (by kernel_rfl) (listed' := #[true, false, false, false, false, false, false, false, false, false, false, false, false]) rfl ?_
                          refine StD.takeP (i := 1) (v := (.slice A25 q21.1.length c26)) rfl (fun _ => Yields.move rfl) rfl rfl trivial (by rintro _ _ _ ⟨_, _, _, _, h, _⟩; cases h) (by kernel_rfl) (listed' := #[true, true, false, false, false, false, false, false, false, false, false, false, false]) rfl ?_
                          refine StD.takeP (i := 2) (v := (.int .i64 ((s141 : Nat) : Int))) rfl (fun _ => Yields.move rfl) rfl rfl trivial (by rintro _ _ _ ⟨_, _, _, _, h, _⟩; cases h) (by kernel_rfl) (listed' := #[true, true, true, false, false, false, false, false, false, false, false, false, false]) rfl ?_
                          obtain ⟨x148, e149, hm⟩ := bS hm
                          obtain ⟨p150, cs151, jx152, R153, k154⟩ := (Fsl.mono (PH.le_trans l46 (PH.le_trans l56 (PH.le_trans l64 (PH.le_trans l81 l146)))) h27).nidx e149
                          obtain rfl := R153
                          refine StD.takeP (i := 3) (v := (.pointer (some p150))) rfl (fun _ => Yields.idx jx152 ts27 rfl rfl) rfl rfl trivial (by rintro _ _ _ ⟨_, _, _, _, h, _⟩; cases h) (by kernel_rfl) (listed' := #[true, true, true, true, false, false, false, false, false, false, false, false, false]) rfl ?_
                          refine StD.take [0, 1, 2, 3, 6, 7, 8, 9, 12] (i := 4) (v := (.int .i64 x148)) rfl (Yields.load rfl (Loads.Fat k154 tc3 rfl)) rfl rfl trivial Among.refl (by rintro _ _ _ ⟨_, _, _, _, h, _⟩; cases h) (by kernel_rfl) (listed' := #[true, true, true, true, true, false, false, false, false, false, false, false, false]) rfl ?_
                          refine StD.takeP (i := 6) (v := (.slice A65 q61.1.length c66)) rfl (fun _ => Yields.move rfl) rfl rfl trivial (by rintro _ _ _ ⟨_, _, _, _, h, _⟩; cases h) (by kernel_rfl) (listed' := #[true, true, true, true, true, false, true, false, false, false, false, false, false]) rfl ?_
                          refine StD.takeP (i := 7) (v := (.slice A25 q21.1.length c26)) rfl (fun _ => Yields.move rfl) rfl rfl trivial (by rintro _ _ _ ⟨_, _, _, _, h, _⟩; cases h) (by kernel_rfl) (listed' := #[true, true, true, true, true, false, true, true, false, false, false, false, false]) rfl ?_
                          refine StD.takeP (i := 8) (v := (.int .i64 ((s141 : Nat) : Int))) rfl (fun _ => Yields.move rfl) rfl rfl trivial (by rintro _ _ _ ⟨_, _, _, _, h, _⟩; cases h) (by kernel_rfl) (listed' := #[true, true, true, true, true, false, true, true, true, false, false, false, false]) rfl ?_
                          obtain ⟨x155, e156, hm⟩ := bS hm
                          obtain ⟨p157, cs158, jx159, R160, k161⟩ := (Fsl.mono (PH.le_trans l46 (PH.le_trans l56 (PH.le_trans l64 (PH.le_trans l81 l146)))) h27).nidx e156
                          obtain rfl := R160
                          refine StD.takeP (i := 9) (v := (.pointer (some p157))) rfl (fun _ => Yields.idx jx159 ts27 rfl rfl) rfl rfl trivial (by rintro _ _ _ ⟨_, _, _, _, h, _⟩; cases h) (by kernel_rfl) (listed' := #[true, true, true, true, true, false, true, true, true, true, false, false, false]) rfl ?_
                          refine StD.take [0, 1, 2, 3, 6, 7, 8, 9, 12] (i := 10) (v := (.int .i64 x155)) rfl (Yields.load rfl (Loads.Fat k161 tc3 rfl)) rfl rfl trivial Among.refl (by rintro _ _ _ ⟨_, _, _, _, h, _⟩; cases h) (by kernel_rfl) (listed' := #[true, true, true, true, true, false, true, true, true, true, true, false, false]) rfl ?_
                          refine StD.only (i := 5) rfl (by kernel_rfl) (listed' := #[true, true, true, true, true, true, true, true, true, true, true, false, false]) rfl ?_
                          intro hcl162
                          obtain ⟨q163, e164, hm⟩ := bS hm
                          refine St.call [blk b2 (.cells #[.int .i64 a0.N, .slice pA0_0 a0.Kids.length pc0_0] 24 (0, 0))] (m_law13_count_sp (Fsl.mono (PH.le_trans l46 (PH.le_trans l56 (PH.le_trans l64 (PH.le_trans l81 l146)))) h27) e164) rfl (fun _ ha => ev2 ha rfl rfl) rfl en15 rfl rfl trivial ?_
                          rintro _ F165 _ ⟨rfl, rfl⟩ l166
                          refine StD.next hcl162 (fun _ => (Among.of_le l166 (PH.le_trans l6 (PH.le_trans l16 (PH.le_trans l24 (PH.le_trans l46 (PH.le_trans l56 (PH.le_trans l64 (PH.le_trans l81 l146))))))) (Among.take 0 rfl rfl Among.none))) ?_
                          refine StD.only (i := 11) rfl (by kernel_rfl) (listed' := #[true, true, true, true, true, true, true, true, true, true, true, true, false]) rfl ?_
                          intro hcl167
                          obtain ⟨q168, e169, hm⟩ := bS hm
                          refine St.call [blk b2 (.cells #[.int .i64 a0.N, .slice pA0_0 a0.Kids.length pc0_0] 24 (0, 0))] (m_law13_count_sp (Fsl.mono (PH.le_trans l81 (PH.le_trans l146 l166)) h67) e169) rfl (fun _ ha => ev2 ha rfl rfl) rfl en15 rfl rfl trivial ?_
                          rintro _ F170 _ ⟨rfl, rfl⟩ l171
                          refine StD.next hcl167 (fun h => by cases h) ?_
                          refine StD.takeP (i := 12) (v := (.bool (!decide (q163 = q168)))) rfl (fun _ => Yields.ne rfl rfl) rfl rfl trivial (by rintro _ _ _ ⟨_, _, _, _, h, _⟩; cases h) (by kernel_rfl) (listed' := #[true, true, true, true, true, true, true, true, true, true, true, true, true]) rfl ?_
                          refine StD.done (by kernel_rfl) ?_
                          refine St.norm ?_
                          refine St.cond_b rfl ?_ ?_
                          · intro q172
                            replace q172 : ¬ (q163 = q168) := nd_t q172
                            replace hm := iF hm q172
                            refine St.seq ?_
                            refine St.region ?_
                            refine St.val (v := (.bool false)) (Yields.assign rfl) trivial rfl rfl ?_
                            refine St.nil ?_
                            refine St.norm ?_
                            refine St.ret ?_
                            refine St.inret ?_
                            refine St.thenret ?_
                            refine St.thenret ?_
                            refine St.inret ?_
                            refine St.inret ?_
                            refine St.thenret ?_
                            refine St.thenret ?_
                            refine St.inret ?_
                            refine St.thenret ?_
                            obtain rfl := sI hm
                            obtain rfl := aR ho144
                            obtain rfl := aR ho52
                            obtain rfl := aR ho44
                            obtain rfl := aR ho38
                            exact St.doneR1 rfl rfl ⟨rfl, rfl⟩ (fun w hs => Among.of Among.none w hs)
                          · intro q173
                            replace q173 : q163 = q168 := nd_f q173
                            replace hm := iT hm q173
                            refine St.skip ?_
                            refine St.innorm ?_
                            refine St.norm ?_
                            refine St.region ?_
                            refine St.val (v := (.int .i64 ((s141 : Nat) : Int))) (Yields.move rfl) trivial rfl rfl ?_
                            refine St.val (v := (.int .i64 ((s141 + 1 : Nat) : Int))) (Yields.addn (j := 1) rfl rfl rfl (by have q_0 := q147; have q_1 := h27.bnd.2; omega)) trivial rfl rfl ?_
                            refine St.val (v := (.int .i64 ((s141 + 1 : Nat) : Int))) (Yields.assign rfl) trivial rfl rfl ?_
                            refine St.nil ?_
                            refine St.norm ?_
                            obtain rfl := sI hm
                            intro a w ha hs
                            exact ⟨s141 + 1, aL ho144, F170, (PH.le_trans l146 (PH.le_trans l166 l171)), ha.covers ⟨rfl, rfl, rfl, rfl, rfl, rfl, trivial⟩, (Among.of (Among.take 0 rfl rfl Among.none) _ hs)⟩
                        · intro q174
                          replace q174 : ¬ (((s141 : Nat) : Int) < ((q21.1.length : Nat) : Int)) := of_decide_eq_false q174
                          replace hm := iF hm q174
                          refine St.exit ?_
                          refine St.thenexit ?_
                          refine St.thenexit ?_
                          refine St.inexit ?_
                          refine St.innorm ?_
                          obtain rfl := sI hm
                          obtain rfl := aR ho144
                          intro a w ha hs
                          exact ⟨(), rfl, F145, (PH.le_trans l56 (PH.le_trans l64 (PH.le_trans l81 l146))), ha.covers ⟨rfl, rfl, rfl, rfl, trivial⟩, (Among.of (Among.take 0 rfl rfl Among.none) _ hs)⟩
              · rintro a w ⟨z48, rfl, F49, l50, ha, hs⟩
                replace hm := aL ho52
                refine St.use (?_ : St _ _ _ _ _ _) ha hs
                clear ha hs a w
                refine St.region ?_
                refine St.val (v := (.int .i64 ((s41 : Nat) : Int))) (Yields.move rfl) trivial rfl rfl ?_
                refine St.val (v := (.int .i64 ((s41 + 1 : Nat) : Int))) (Yields.addn (j := 1) rfl rfl rfl (by have q_0 := q47; omega)) trivial rfl rfl ?_
                refine St.val (v := (.int .i64 ((s41 + 1 : Nat) : Int))) (Yields.assign rfl) trivial rfl rfl ?_
                refine St.nil ?_
                refine St.norm ?_
                obtain rfl := sI hm
                intro a w ha hs
                exact ⟨s41 + 1, aL ho44, F49, (PH.le_trans l46 l50), ha.covers ⟨rfl, rfl, rfl, rfl, trivial⟩, (Among.of (Among.take 0 rfl rfl Among.none) _ hs)⟩
            · intro q175
              replace q175 : ¬ (((s41 : Nat) : Int) ≤ 4) := of_decide_eq_false q175
              replace hm := iF hm q175
              refine St.exit ?_
              refine St.thenexit ?_
              refine St.thenexit ?_
              refine St.inexit ?_
              obtain rfl := sI hm
              obtain rfl := aR ho44
              intro a w ha hs
              exact ⟨(), rfl, F45, l46, ha.covers trivial, (Among.of Among.none _ hs)⟩
        · rintro a w ⟨z34, rfl, F35, l36, ha, hs⟩
          replace hm := aL ho38
          refine St.use (?_ : St _ _ _ _ _ _) ha hs
          clear ha hs a w
          refine St.seq ?_
          refine St.region ?_
          obtain ⟨q176, e177, hm⟩ := bS hm
          refine St.call [] (m_law13_known_sp e177) rfl (fun _ _ => ev0) rfl en14 rfl rfl trivial ?_
          rintro _ F178 _ ⟨rfl, rfl⟩ l179
          refine St.val (v := (.bool q176)) (Yields.assign rfl) trivial rfl rfl ?_
          refine St.nil ?_
          refine St.norm ?_
          refine St.ret ?_
          obtain rfl := sI hm
          exact St.doneR1 rfl rfl ⟨rfl, rfl⟩ (fun w hs => Among.of Among.none w hs)

theorem m_law13_SearchLeaves_sp {F : PH} {g : Nat} {a0 : DSTree} {a1 : Int} {a2 : Int} {pA0_0 : Option Addr} {pc0_0 : Nat} (ph0_0 : Fsl 32 KDSTree F pA0_0 pc0_0 a0.Kids) {r : Bool} (hm : m_law13_SearchLeaves g a0 a1 a2 = some r) :
    CallSp Try.prog 3 #[.agg #[.int .i64 a0.N, .slice pA0_0 a0.Kids.length pc0_0], .int .i64 a1, .int .i64 a2] F [] (fun u F' H' => u = (.bool r) ∧ H' = []) := by
  unfold m_law13_SearchLeaves at hm
  refine CallSp.enter (args := [.agg #[.int .i64 a0.N, .slice pA0_0 a0.Kids.length pc0_0], .int .i64 a1, .int .i64 a2]) Try.func3 rfl rfl ?_
  intro w0 m0 hm0
  refine St.seq ?_
  refine St.region ?_
  refine St.box rfl trivial rfl ?_
  intro b2
  refine St.val (v := (.bool false)) (Yields.assign rfl) trivial rfl rfl ?_
  refine St.nil ?_
  refine St.norm ?_
  obtain ⟨z3, hm, hk6⟩ := bS hm
  refine St.cutI (fun a w => ∃ (F4 : PH), PH.le F F4 ∧ Has Try.f3.ntmps a [(6, .bool z3)] ∧ Sat ⟨w0, fun b => m0 b ≠ none, F⟩ F4 [] w) ?_ ?_
  · skip
    refine St.region ?_
    refine St.val (v := (.agg #[.int .i64 a0.N, .slice pA0_0 a0.Kids.length pc0_0])) (Yields.load rfl (Loads.Hk (vs := [.int .i64 a0.N, .slice pA0_0 a0.Kids.length pc0_0]) 0 rfl ta24 rfl rfl)) trivial rfl rfl ?_
    refine St.val (v := (.int .i64 a1)) (Yields.move rfl) trivial rfl rfl ?_
    refine St.val (v := (.int .i64 a2)) (Yields.move rfl) trivial rfl rfl ?_
    obtain ⟨q7, e8, hm⟩ := bS hm
    refine St.call [blk b2 (.cells #[.int .i64 a0.N, .slice pA0_0 a0.Kids.length pc0_0] 24 (0, 0))] (m_law13_leaves_sp (a0 := a0) ph0_0 e8) rfl (fun _ ha => ev3 ha rfl rfl rfl) rfl en4 rfl rfl trivial ?_
    rintro _ F9 _ ⟨rfl, rfl⟩ l10
    by_cases q11 : q7 = true
    · replace hm := iT hm q11
      have hb12 : (q7) = true := q11
      try rw [hb12]
      refine St.val (v := (.bool true)) (Yields.move rfl) trivial rfl rfl ?_
      refine St.val (v := (.agg #[.int .i64 a0.N, .slice pA0_0 a0.Kids.length pc0_0])) (Yields.load rfl (Loads.Hk (vs := [.int .i64 a0.N, .slice pA0_0 a0.Kids.length pc0_0]) 0 rfl ta24 rfl rfl)) rfl rfl rfl ?_
      obtain ⟨q13, e14, hm⟩ := bS hm
      refine St.call [blk b2 (.cells #[.int .i64 a0.N, .slice pA0_0 a0.Kids.length pc0_0] 24 (0, 0))] (m_law13_none_sp (a0 := a0) (Fsl.mono l10 ph0_0) e14) rfl (fun _ ha => ev1 ha rfl) rfl en5 rfl rfl rfl ?_
      rintro _ F15 _ ⟨rfl, rfl⟩ l16
      refine St.val (v := (.bool q13)) (Yields.pick_t rfl rfl) trivial rfl rfl ?_
      refine St.val (v := (.bool q13)) (Yields.assign rfl) trivial rfl rfl ?_
      refine St.nil ?_
      obtain rfl := sI hm
      intro a w ha hs
      exact ⟨F15, (PH.le_trans l10 l16), ha.covers ⟨rfl, trivial⟩, (Among.of Among.none _ hs)⟩
    · replace hm := iF hm q11
      have hb17 : (q7) = false := eq_false_of_ne_true q11
      try rw [hb17]
      refine St.val (v := (.bool false)) (Yields.move rfl) trivial rfl rfl ?_
      refine St.unwanted rfl rfl rfl ?_
      refine St.unwanted rfl rfl rfl ?_
      refine St.val (v := (.bool false)) (Yields.pick_f rfl rfl) trivial rfl rfl ?_
      refine St.val (v := (.bool false)) (Yields.assign rfl) trivial rfl rfl ?_
      refine St.nil ?_
      obtain rfl := sI hm
      intro a w ha hs
      exact ⟨F9, l10, ha.covers ⟨rfl, trivial⟩, (Among.of Among.none _ hs)⟩
  · rintro a w ⟨F4, l5, ha, hs⟩
    replace hm := hk6
    refine St.use (?_ : St _ _ _ _ _ _) ha hs
    clear ha hs a w
    refine St.ret ?_
    obtain rfl := sI hm
    exact St.doneR1 rfl rfl ⟨rfl, rfl⟩ (fun w hs => Among.of Among.none w hs)

end Go.Proofs.Ytjjmdiddgcllkaa
