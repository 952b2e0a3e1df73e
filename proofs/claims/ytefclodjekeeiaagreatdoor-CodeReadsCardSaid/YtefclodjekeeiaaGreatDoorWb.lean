/- Each function does what its plain words tell. -/
import Derived.Test.YtefclodjekeeiaaGreatDoorWa
namespace Go.Proofs.YtefclodjekeeiaaGreatDoor
open Go Go.Sy Go.RowKit
set_option linter.unusedVariables false
open Go.Mir
theorem m_code_isNodeText_sp {F : PH} {g : Nat} {a0 : DInstr} {pA0_0 : Option Addr} {pc0_0 : Nat} {pA0_1 : Option Addr} {pc0_1 : Nat} (ph0_0 : Fsl 8 (Kind.int .i64) F pA0_0 pc0_0 a0.Args) (ph0_1 : Fsl 32 KDJump F pA0_1 pc0_1 a0.Cases) {r : Bool} (hm : m_code_isNodeText g a0 = some r) :
  CallSp Tryz.prog 58 #[.agg #[.int .i64 a0.Op, .int .i64 a0.A, .int .i64 a0.B, .int .i64 a0.N, .string (bs a0.Name), .slice pA0_0 a0.Args.length pc0_0, .slice pA0_1 a0.Cases.length pc0_1]] F [] (fun u F' H' => u = (.bool r) ∧ H' = []) := by

 unfold m_code_isNodeText at hm
 refine CallSp.enter (args := [.agg #[.int .i64 a0.Op, .int .i64 a0.A, .int .i64 a0.B, .int .i64 a0.N, .string (bs a0.Name), .slice pA0_0 a0.Args.length pc0_0, .slice pA0_1 a0.Cases.length pc0_1]]) Tryz.func58 rfl rfl ?_
 intro w0 m0 hm0
 refine ssr ?_
 refine St.box rfl trivial rfl ?_
 intro b3
 refine sas rfl rfl ?_
 refine snn ?_
 refine St.seq ?_
 refine ssr ?_
 refine sfa (v := (.pointer (some ⟨b3, 3, none⟩))) rfl (fun _ => by kernel_rfl) rfl ?_
 refine sv (v := (.int .i64 a0.N)) (Yields.load rfl (Loads.H1 0 rfl tc3 rfl)) rfl ?_
 refine snn ?_
 refine St.block ?_
 refine ssr ?_
 refine sv (v := (.bool (decide (a0.N = 1)))) (Yields.eq rfl rfl) rfl ?_
 refine sas rfl rfl ?_
 refine snn ?_
 refine St.cond_b rfl ?_ ?_
 ·intro q4
  replace q4 : a0.N = 1 := of_decide_eq_true q4
  replace hm := iT hm q4
  obtain ⟨z5, hm, hk8⟩ := bS hm
  refine St.cutI (fun a w => ∃ (F6 : PH), PH.le F F6 ∧ Has Tryz.f58.ntmps a [(2, .bool z5)] ∧ Sat ⟨w0, fun b => m0 b ≠ none, F⟩ F6 [] w) ?_ ?_
  ·skip
   refine St.region ?_
   refine sfa (v := (.pointer (some ⟨b3, 1, none⟩))) rfl (fun _ => by kernel_rfl) rfl ?_
   refine sv (v := (.int .i64 a0.A)) (Yields.load rfl (Loads.H1 0 rfl tc3 rfl)) rfl ?_
   by_cases q9 : a0.A = 0
   ·replace hm := iT hm q9
    refine sv (v := vT) (Yields.is q9 (Yields.eq rfl rfl)) rfl ?_
    refine smv rfl rfl ?_
    refine St.val (v := (.pointer (some ⟨b3, 4, none⟩))) (Yields.fieldAddr (v := (.pointer (some ⟨b3, 4, none⟩))) rfl (fun _ => by kernel_rfl)) rfl rfl rfl ?_
    refine St.val (v := (.string (bs a0.Name))) (Yields.load rfl (Loads.H1 0 rfl tc9 rfl)) rfl rfl rfl ?_
    obtain ⟨q10, e11, hm⟩ := bS hm
    refine St.call [blk b3 (.cells #[.int .i64 a0.Op, .int .i64 a0.A, .int .i64 a0.B, .int .i64 a0.N, .string (bs a0.Name), .slice pA0_0 a0.Args.length pc0_0, .slice pA0_1 a0.Cases.length pc0_1] 40 (0, 0))] (m_code_isName_sp e11) rfl (fun _ ha => ev2 ha rfl rfl) rfl en28 rfl rfl rfl ?_
    rintro _ F12 _ ⟨rfl, rfl⟩ l13
    refine spt rfl rfl rfl ?_
    refine sas rfl rfl ?_
    refine St.nil ?_
    obtain rfl := sI hm
    intro a w ha hs
    exact ⟨F12, l13, ha.covers ⟨rfl, trivial⟩, (Among.of Among.none _ hs)⟩
   replace hm := iF hm q9
   refine sv (v := vF) (Yields.isnt q9 (Yields.eq rfl rfl)) rfl ?_
   refine smv rfl rfl ?_
   refine su rfl rfl rfl ?_
   refine su rfl rfl rfl ?_
   refine su rfl rfl rfl ?_
   refine spf rfl rfl rfl ?_
   refine sas rfl rfl ?_
   refine St.nil ?_
   obtain rfl := sI hm
   intro a w ha hs
   exact ⟨F, (PH.le_refl _), ha.covers ⟨rfl, trivial⟩, (Among.of Among.none _ hs)⟩
  rintro a w ⟨F6, l7, ha, hs⟩
  replace hm := hk8
  refine St.use (?_ : St _ _ _ _ _ _) ha hs
  clear ha hs a w
  refine St.ret ?_
  refine St.inret ?_
  refine St.thenret ?_
  obtain rfl := sI hm
  exact St.doneR1 rfl rfl ⟨rfl, rfl⟩ (fun w hs => Among.of Among.none w hs)
 intro q14
 replace q14 : ¬ (a0.N = 1) := of_decide_eq_false q14
 replace hm := iF hm q14
 refine ssr ?_
 refine sv (v := (.bool (decide (a0.N = 3)))) (Yields.eq rfl rfl) rfl ?_
 refine sas rfl rfl ?_
 refine snn ?_
 refine St.cond_b rfl ?_ ?_
 ·intro q15
  replace q15 : a0.N = 3 := of_decide_eq_true q15
  replace hm := iT hm q15
  obtain ⟨z16, hm, hk19⟩ := bS hm
  refine St.cutI (fun a w => ∃ (F17 : PH), PH.le F F17 ∧ Has Tryz.f58.ntmps a [(2, .bool z16)] ∧ Sat ⟨w0, fun b => m0 b ≠ none, F⟩ F17 [] w) ?_ ?_
  ·skip
   refine St.region ?_
   refine sfa (v := (.pointer (some ⟨b3, 1, none⟩))) rfl (fun _ => by kernel_rfl) rfl ?_
   refine sv (v := (.int .i64 a0.A)) (Yields.load rfl (Loads.H1 0 rfl tc3 rfl)) rfl ?_
   by_cases q20 : a0.A = 0
   ·replace hm := iT hm q20
    refine sv (v := vT) (Yields.is q20 (Yields.eq rfl rfl)) rfl ?_
    refine smv rfl rfl ?_
    refine St.val (v := (.pointer (some ⟨b3, 4, none⟩))) (Yields.fieldAddr (v := (.pointer (some ⟨b3, 4, none⟩))) rfl (fun _ => by kernel_rfl)) rfl rfl rfl ?_
    refine St.val (v := (.string (bs a0.Name))) (Yields.load rfl (Loads.H1 0 rfl tc9 rfl)) rfl rfl rfl ?_
    obtain ⟨q21, e22, hm⟩ := bS hm
    refine St.call [blk b3 (.cells #[.int .i64 a0.Op, .int .i64 a0.A, .int .i64 a0.B, .int .i64 a0.N, .string (bs a0.Name), .slice pA0_0 a0.Args.length pc0_0, .slice pA0_1 a0.Cases.length pc0_1] 40 (0, 0))] (m_code_isName_sp e22) rfl (fun _ ha => ev2 ha rfl rfl) rfl en28 rfl rfl rfl ?_
    rintro _ F23 _ ⟨rfl, rfl⟩ l24
    refine spt rfl rfl rfl ?_
    refine sas rfl rfl ?_
    refine St.nil ?_
    obtain rfl := sI hm
    intro a w ha hs
    exact ⟨F23, l24, ha.covers ⟨rfl, trivial⟩, (Among.of Among.none _ hs)⟩
   replace hm := iF hm q20
   refine sv (v := vF) (Yields.isnt q20 (Yields.eq rfl rfl)) rfl ?_
   refine smv rfl rfl ?_
   refine su rfl rfl rfl ?_
   refine su rfl rfl rfl ?_
   refine su rfl rfl rfl ?_
   refine spf rfl rfl rfl ?_
   refine sas rfl rfl ?_
   refine St.nil ?_
   obtain rfl := sI hm
   intro a w ha hs
   exact ⟨F, (PH.le_refl _), ha.covers ⟨rfl, trivial⟩, (Among.of Among.none _ hs)⟩
  rintro a w ⟨F17, l18, ha, hs⟩
  replace hm := hk19
  refine St.use (?_ : St _ _ _ _ _ _) ha hs
  clear ha hs a w
  refine St.ret ?_
  refine St.inret ?_
  refine St.thenret ?_
  obtain rfl := sI hm
  exact St.doneR1 rfl rfl ⟨rfl, rfl⟩ (fun w hs => Among.of Among.none w hs)
 intro q25
 replace q25 : ¬ (a0.N = 3) := of_decide_eq_false q25
 replace hm := iF hm q25
 refine ssr ?_
 refine sv (v := (.bool (decide (a0.N = 2)))) (Yields.eq rfl rfl) rfl ?_
 refine sas rfl rfl ?_
 refine snn ?_
 refine St.cond_b rfl ?_ ?_
 ·intro q26
  replace q26 : a0.N = 2 := of_decide_eq_true q26
  replace hm := iT hm q26
  obtain ⟨z27, hm, hk30⟩ := bS hm
  refine St.cutI (fun a w => ∃ (F28 : PH), PH.le F F28 ∧ Has Tryz.f58.ntmps a [(2, .bool z27)] ∧ Sat ⟨w0, fun b => m0 b ≠ none, F⟩ F28 [] w) ?_ ?_
  ·skip
   refine St.region ?_
   refine sfa (v := (.pointer (some ⟨b3, 4, none⟩))) rfl (fun _ => by kernel_rfl) rfl ?_
   refine sv (v := (.string (bs a0.Name))) (Yields.load rfl (Loads.H1 0 rfl tc9 rfl)) rfl ?_
   by_cases q31 : a0.Name = ([] : List UInt8)
   ·replace hm := iT hm q31
    refine sv (v := vT) (Yields.is q31 (Yields.eqStr rfl rfl)) rfl ?_
    refine smv rfl rfl ?_
    refine St.val (v := (.pointer (some ⟨b3, 5, none⟩))) (Yields.fieldAddr (v := (.pointer (some ⟨b3, 5, none⟩))) rfl (fun _ => by kernel_rfl)) rfl rfl rfl ?_
    refine St.val (v := (.slice pA0_0 a0.Args.length pc0_0)) (Yields.load rfl (Loads.H1 0 rfl tc37 rfl)) rfl rfl rfl ?_
    refine St.val (v := (.int .i64 ((a0.Args.length : Nat) : Int))) (Yields.lenSlice tu37 rfl) rfl rfl rfl ?_
    by_cases q32 : ((a0.Args.length : Nat) : Int) = 0
    ·replace hm := iT hm q32
     refine St.val (v := vT) (Yields.is q32 (Yields.eq rfl rfl)) rfl rfl rfl ?_
     refine spt rfl rfl rfl ?_
     refine smv rfl rfl ?_
     refine St.val (v := (.pointer (some ⟨b3, 1, none⟩))) (Yields.fieldAddr (v := (.pointer (some ⟨b3, 1, none⟩))) rfl (fun _ => by kernel_rfl)) rfl rfl rfl ?_
     refine St.val (v := (.int .i64 a0.A)) (Yields.load rfl (Loads.H1 0 rfl tc3 rfl)) rfl rfl rfl ?_
     obtain ⟨q33, e34, hm⟩ := bS hm
     refine St.call [blk b3 (.cells #[.int .i64 a0.Op, .int .i64 a0.A, .int .i64 a0.B, .int .i64 a0.N, .string (bs a0.Name), .slice pA0_0 a0.Args.length pc0_0, .slice pA0_1 a0.Cases.length pc0_1] 40 (0, 0))] (m_code_isInt_sp e34) rfl (fun _ ha => ev1 ha rfl) rfl en57 rfl rfl rfl ?_
     rintro _ F35 _ ⟨rfl, rfl⟩ l36
     refine spt rfl rfl rfl ?_
     refine sas rfl rfl ?_
     refine St.nil ?_
     obtain rfl := sI hm
     intro a w ha hs
     exact ⟨F35, l36, ha.covers ⟨rfl, trivial⟩, (Among.of Among.none _ hs)⟩
    replace hm := iF hm q32
    refine St.val (v := vF) (Yields.isnt q32 (Yields.eq rfl rfl)) rfl rfl rfl ?_
    refine spt rfl rfl rfl ?_
    refine smv rfl rfl ?_
    refine su rfl rfl rfl ?_
    refine su rfl rfl rfl ?_
    refine su rfl rfl rfl ?_
    refine spf rfl rfl rfl ?_
    refine sas rfl rfl ?_
    refine St.nil ?_
    obtain rfl := sI hm
    intro a w ha hs
    exact ⟨F, (PH.le_refl _), ha.covers ⟨rfl, trivial⟩, (Among.of Among.none _ hs)⟩
   replace hm := iF hm q31
   refine sv (v := vF) (Yields.isnt q31 (Yields.eqStr rfl rfl)) rfl ?_
   refine smv rfl rfl ?_
   refine su rfl rfl rfl ?_
   refine su rfl rfl rfl ?_
   refine su rfl rfl rfl ?_
   refine su rfl rfl rfl ?_
   refine spf rfl rfl rfl ?_
   refine smv rfl rfl ?_
   refine su rfl rfl rfl ?_
   refine su rfl rfl rfl ?_
   refine su rfl rfl rfl ?_
   refine spf rfl rfl rfl ?_
   refine sas rfl rfl ?_
   refine St.nil ?_
   obtain rfl := sI hm
   intro a w ha hs
   exact ⟨F, (PH.le_refl _), ha.covers ⟨rfl, trivial⟩, (Among.of Among.none _ hs)⟩
  rintro a w ⟨F28, l29, ha, hs⟩
  replace hm := hk30
  refine St.use (?_ : St _ _ _ _ _ _) ha hs
  clear ha hs a w
  refine St.ret ?_
  refine St.inret ?_
  refine St.thenret ?_
  obtain rfl := sI hm
  exact St.doneR1 rfl rfl ⟨rfl, rfl⟩ (fun w hs => Among.of Among.none w hs)
 intro q37
 replace q37 : ¬ (a0.N = 2) := of_decide_eq_false q37
 replace hm := iF hm q37
 obtain ⟨z38, hm, hk39⟩ := bS hm
 refine St.cutI (fun a w => Has Tryz.f58.ntmps a [(1, .pointer (some ⟨b3, 0, none⟩)), (4, .int .i64 a0.N), (41, .bool z38)] ∧ Sat ⟨w0, fun b => m0 b ≠ none, F⟩ F [blk b3 (.cells #[.int .i64 a0.Op, .int .i64 a0.A, .int .i64 a0.B, .int .i64 a0.N, .string (bs a0.Name), .slice pA0_0 a0.Args.length pc0_0, .slice pA0_1 a0.Cases.length pc0_1] 40 (0, 0))] w) ?_ ?_
 ·skip
  refine ssr ?_
  refine sv (v := (.bool (decide (a0.N = 4)))) (Yields.eq rfl rfl) rfl ?_
  refine sas rfl rfl ?_
  refine snn ?_
  refine St.cond_b rfl ?_ ?_
  ·intro q40
   replace q40 : a0.N = 4 := of_decide_eq_true q40
   replace hm := iT hm q40
   refine St.skip ?_
   obtain rfl := sI hm
   intro a w ha hs
   exact ⟨ha.covers ⟨rfl, rfl, rfl, trivial⟩, (Among.of (Among.take 0 rfl rfl Among.none) _ hs)⟩
  intro q41
  replace q41 : ¬ (a0.N = 4) := of_decide_eq_false q41
  replace hm := iF hm q41
  refine St.region ?_
  refine sv (v := (.bool (decide (a0.N = 5)))) (Yields.eq rfl rfl) rfl ?_
  refine sas rfl rfl ?_
  refine St.nil ?_
  obtain rfl := sI hm
  intro a w ha hs
  exact ⟨ha.covers ⟨rfl, rfl, rfl, trivial⟩, (Among.of (Among.take 0 rfl rfl Among.none) _ hs)⟩
 rintro a w ⟨ha, hs⟩
 replace hm := hk39
 refine St.use (?_ : St _ _ _ _ _ _) ha hs
 clear ha hs a w
 refine St.cond_b rfl ?_ ?_
 ·intro q42
  replace q42 : z38 = true := q42
  replace hm := iT hm q42
  obtain ⟨z43, hm, hk44⟩ := bS hm
  refine St.cutI (fun a w => Has Tryz.f58.ntmps a [(2, .bool z43)] ∧ Sat ⟨w0, fun b => m0 b ≠ none, F⟩ F [] w) ?_ ?_
  ·skip
   refine St.region ?_
   refine sfa (v := (.pointer (some ⟨b3, 4, none⟩))) rfl (fun _ => by kernel_rfl) rfl ?_
   refine sv (v := (.string (bs a0.Name))) (Yields.load rfl (Loads.H1 0 rfl tc9 rfl)) rfl ?_
   by_cases q45 : a0.Name = ([] : List UInt8)
   ·replace hm := iT hm q45
    refine sv (v := vT) (Yields.is q45 (Yields.eqStr rfl rfl)) rfl ?_
    refine smv rfl rfl ?_
    refine St.val (v := (.pointer (some ⟨b3, 1, none⟩))) (Yields.fieldAddr (v := (.pointer (some ⟨b3, 1, none⟩))) rfl (fun _ => by kernel_rfl)) rfl rfl rfl ?_
    refine St.val (v := (.int .i64 a0.A)) (Yields.load rfl (Loads.H1 0 rfl tc3 rfl)) rfl rfl rfl ?_
    refine St.val (v := (.bool (decide (a0.A = 0)))) (Yields.eq rfl rfl) rfl rfl rfl ?_
    refine spt rfl rfl rfl ?_
    refine sas rfl rfl ?_
    refine St.nil ?_
    obtain rfl := sI hm
    intro a w ha hs
    exact ⟨ha.covers ⟨rfl, trivial⟩, (Among.of Among.none _ hs)⟩
   replace hm := iF hm q45
   refine sv (v := vF) (Yields.isnt q45 (Yields.eqStr rfl rfl)) rfl ?_
   refine smv rfl rfl ?_
   refine su rfl rfl rfl ?_
   refine su rfl rfl rfl ?_
   refine su rfl rfl rfl ?_
   refine spf rfl rfl rfl ?_
   refine sas rfl rfl ?_
   refine St.nil ?_
   obtain rfl := sI hm
   intro a w ha hs
   exact ⟨ha.covers ⟨rfl, trivial⟩, (Among.of Among.none _ hs)⟩
  rintro a w ⟨ha, hs⟩
  replace hm := hk44
  refine St.use (?_ : St _ _ _ _ _ _) ha hs
  clear ha hs a w
  refine St.ret ?_
  refine St.inret ?_
  refine St.thenret ?_
  obtain rfl := sI hm
  exact St.doneR1 rfl rfl ⟨rfl, rfl⟩ (fun w hs => Among.of Among.none w hs)
 intro q46
 replace q46 : ¬ (z38 = true) := bf q46
 replace hm := iF hm q46
 refine ssr ?_
 refine sv (v := (.bool (decide (a0.N = 7)))) (Yields.eq rfl rfl) rfl ?_
 refine sas rfl rfl ?_
 refine snn ?_
 refine St.cond_b rfl ?_ ?_
 ·intro q47
  replace q47 : a0.N = 7 := of_decide_eq_true q47
  replace hm := iT hm q47
  obtain ⟨z48, hm, hk49⟩ := bS hm
  refine St.cutI (fun a w => Has Tryz.f58.ntmps a [(2, .bool z48)] ∧ Sat ⟨w0, fun b => m0 b ≠ none, F⟩ F [] w) ?_ ?_
  ·skip
   refine St.region ?_
   refine sfa (v := (.pointer (some ⟨b3, 4, none⟩))) rfl (fun _ => by kernel_rfl) rfl ?_
   refine sv (v := (.string (bs a0.Name))) (Yields.load rfl (Loads.H1 0 rfl tc9 rfl)) rfl ?_
   by_cases q50 : a0.Name = ([] : List UInt8)
   ·replace hm := iT hm q50
    refine sv (v := vT) (Yields.is q50 (Yields.eqStr rfl rfl)) rfl ?_
    refine smv rfl rfl ?_
    refine St.val (v := (.pointer (some ⟨b3, 1, none⟩))) (Yields.fieldAddr (v := (.pointer (some ⟨b3, 1, none⟩))) rfl (fun _ => by kernel_rfl)) rfl rfl rfl ?_
    refine St.val (v := (.int .i64 a0.A)) (Yields.load rfl (Loads.H1 0 rfl tc3 rfl)) rfl rfl rfl ?_
    by_cases q51 : a0.A = 0
    ·replace hm := iT hm q51
     refine St.val (v := vT) (Yields.is q51 (Yields.eq rfl rfl)) rfl rfl rfl ?_
     refine spt rfl rfl rfl ?_
     refine smv rfl rfl ?_
     refine St.val (v := (.pointer (some ⟨b3, 5, none⟩))) (Yields.fieldAddr (v := (.pointer (some ⟨b3, 5, none⟩))) rfl (fun _ => by kernel_rfl)) rfl rfl rfl ?_
     refine St.val (v := (.slice pA0_0 a0.Args.length pc0_0)) (Yields.load rfl (Loads.H1 0 rfl tc37 rfl)) rfl rfl rfl ?_
     refine St.val (v := (.int .i64 ((a0.Args.length : Nat) : Int))) (Yields.lenSlice tu37 rfl) rfl rfl rfl ?_
     refine St.val (v := (.bool (decide (((a0.Args.length : Nat) : Int) = 0)))) (Yields.eq rfl rfl) rfl rfl rfl ?_
     refine spt rfl rfl rfl ?_
     refine sas rfl rfl ?_
     refine St.nil ?_
     obtain rfl := sI hm
     intro a w ha hs
     exact ⟨ha.covers ⟨rfl, trivial⟩, (Among.of Among.none _ hs)⟩
    replace hm := iF hm q51
    refine St.val (v := vF) (Yields.isnt q51 (Yields.eq rfl rfl)) rfl rfl rfl ?_
    refine spt rfl rfl rfl ?_
    refine smv rfl rfl ?_
    refine su rfl rfl rfl ?_
    refine su rfl rfl rfl ?_
    refine su rfl rfl rfl ?_
    refine su rfl rfl rfl ?_
    refine spf rfl rfl rfl ?_
    refine sas rfl rfl ?_
    refine St.nil ?_
    obtain rfl := sI hm
    intro a w ha hs
    exact ⟨ha.covers ⟨rfl, trivial⟩, (Among.of Among.none _ hs)⟩
   replace hm := iF hm q50
   refine sv (v := vF) (Yields.isnt q50 (Yields.eqStr rfl rfl)) rfl ?_
   refine smv rfl rfl ?_
   refine su rfl rfl rfl ?_
   refine su rfl rfl rfl ?_
   refine su rfl rfl rfl ?_
   refine spf rfl rfl rfl ?_
   refine smv rfl rfl ?_
   refine su rfl rfl rfl ?_
   refine su rfl rfl rfl ?_
   refine su rfl rfl rfl ?_
   refine su rfl rfl rfl ?_
   refine spf rfl rfl rfl ?_
   refine sas rfl rfl ?_
   refine St.nil ?_
   obtain rfl := sI hm
   intro a w ha hs
   exact ⟨ha.covers ⟨rfl, trivial⟩, (Among.of Among.none _ hs)⟩
  rintro a w ⟨ha, hs⟩
  replace hm := hk49
  refine St.use (?_ : St _ _ _ _ _ _) ha hs
  clear ha hs a w
  refine St.ret ?_
  refine St.inret ?_
  refine St.thenret ?_
  obtain rfl := sI hm
  exact St.doneR1 rfl rfl ⟨rfl, rfl⟩ (fun w hs => Among.of Among.none w hs)
 intro q52
 replace q52 : ¬ (a0.N = 7) := of_decide_eq_false q52
 replace hm := iF hm q52
 refine St.skip ?_
 refine St.innorm ?_
 refine St.norm ?_
 refine ssr ?_
 refine sas rfl rfl ?_
 refine snn ?_
 refine St.ret ?_
 obtain rfl := sI hm
 exact St.doneR1 rfl rfl ⟨rfl, rfl⟩ (fun w hs => Among.of Among.none w hs)
theorem m_code_isPrinted_sp {F : PH} {g : Nat} {a0 : DInstr} {pA0_0 : Option Addr} {pc0_0 : Nat} {pA0_1 : Option Addr} {pc0_1 : Nat} (ph0_0 : Fsl 8 (Kind.int .i64) F pA0_0 pc0_0 a0.Args) (ph0_1 : Fsl 32 KDJump F pA0_1 pc0_1 a0.Cases) {r : Bool} (hm : m_code_isPrinted g a0 = some r) :
  CallSp Tryz.prog 32 #[.agg #[.int .i64 a0.Op, .int .i64 a0.A, .int .i64 a0.B, .int .i64 a0.N, .string (bs a0.Name), .slice pA0_0 a0.Args.length pc0_0, .slice pA0_1 a0.Cases.length pc0_1]] F [] (fun u F' H' => u = (.bool r) ∧ H' = []) := by

 unfold m_code_isPrinted at hm
 refine CallSp.enter (args := [.agg #[.int .i64 a0.Op, .int .i64 a0.A, .int .i64 a0.B, .int .i64 a0.N, .string (bs a0.Name), .slice pA0_0 a0.Args.length pc0_0, .slice pA0_1 a0.Cases.length pc0_1]]) Tryz.func32 rfl rfl ?_
 intro w0 m0 hm0
 refine ssr ?_
 refine St.box rfl trivial rfl ?_
 intro b3
 refine sas rfl rfl ?_
 refine snn ?_
 refine St.seq ?_
 refine ssr ?_
 refine sfa (v := (.pointer (some ⟨b3, 5, none⟩))) rfl (fun _ => by kernel_rfl) rfl ?_
 refine sv (v := (.slice pA0_0 a0.Args.length pc0_0)) (Yields.load rfl (Loads.H1 0 rfl tc37 rfl)) rfl ?_
 obtain ⟨q4, e5, hm⟩ := bS hm
 refine St.call [blk b3 (.cells #[.int .i64 a0.Op, .int .i64 a0.A, .int .i64 a0.B, .int .i64 a0.N, .string (bs a0.Name), .slice pA0_0 a0.Args.length pc0_0, .slice pA0_1 a0.Cases.length pc0_1] 40 (0, 0))] (m_code_isNumber_sp ph0_0 e5) rfl (fun _ ha => ev1 ha rfl) rfl en29 rfl rfl trivial ?_
 rintro _ F6 _ ⟨rfl, rfl⟩ l7
 refine sv (v := (.bool (!q4))) (Yields.not rfl) rfl ?_
 refine snn ?_
 refine St.cond_b rfl ?_ ?_
 ·intro q8
  replace q8 : ¬ (q4 = true) := nb_t q8
  replace hm := iF hm q8
  refine ssr ?_
  refine sas rfl rfl ?_
  refine snn ?_
  refine St.ret ?_
  refine St.thenret ?_
  obtain rfl := sI hm
  exact St.doneR1 rfl rfl ⟨rfl, rfl⟩ (fun w hs => Among.of Among.none w hs)
 intro q9
 replace q9 : q4 = true := nb_f q9
 replace hm := iT hm q9
 refine skn ?_
 obtain ⟨z10, hm, hk11⟩ := bS hm
 refine St.cutI (fun a w => Has Tryz.f32.ntmps a [(1, .pointer (some ⟨b3, 0, none⟩)), (3, .bool z10)] ∧ Sat ⟨w0, fun b => m0 b ≠ none, F⟩ F6 [blk b3 (.cells #[.int .i64 a0.Op, .int .i64 a0.A, .int .i64 a0.B, .int .i64 a0.N, .string (bs a0.Name), .slice pA0_0 a0.Args.length pc0_0, .slice pA0_1 a0.Cases.length pc0_1] 40 (0, 0))] w) ?_ ?_
 ·skip
  refine St.region ?_
  refine sfa (v := (.pointer (some ⟨b3, 4, none⟩))) rfl (fun _ => by kernel_rfl) rfl ?_
  refine sv (v := (.string (bs a0.Name))) (Yields.load rfl (Loads.H1 0 rfl tc9 rfl)) rfl ?_
  by_cases q12 : a0.Name = ([] : List UInt8)
  ·replace hm := iT hm q12
   refine sv (v := vT) (Yields.is q12 (Yields.eqStr rfl rfl)) rfl ?_
   refine smv rfl rfl ?_
   refine St.val (v := (.pointer (some ⟨b3, 5, none⟩))) (Yields.fieldAddr (v := (.pointer (some ⟨b3, 5, none⟩))) rfl (fun _ => by kernel_rfl)) rfl rfl rfl ?_
   refine St.val (v := (.slice pA0_0 a0.Args.length pc0_0)) (Yields.load rfl (Loads.H1 0 rfl tc37 rfl)) rfl rfl rfl ?_
   refine St.val (v := (.int .i64 ((a0.Args.length : Nat) : Int))) (Yields.lenSlice tu37 rfl) rfl rfl rfl ?_
   by_cases q13 : ((a0.Args.length : Nat) : Int) = 0
   ·replace hm := iT hm q13
    refine St.val (v := vT) (Yields.is q13 (Yields.eq rfl rfl)) rfl rfl rfl ?_
    refine spt rfl rfl rfl ?_
    refine smv rfl rfl ?_
    refine St.val (v := (.pointer (some ⟨b3, 6, none⟩))) (Yields.fieldAddr (v := (.pointer (some ⟨b3, 6, none⟩))) rfl (fun _ => by kernel_rfl)) rfl rfl rfl ?_
    refine St.val (v := (.slice pA0_1 a0.Cases.length pc0_1)) (Yields.load rfl (Loads.H1 0 rfl tc38 rfl)) rfl rfl rfl ?_
    refine St.val (v := (.int .i64 ((a0.Cases.length : Nat) : Int))) (Yields.lenSlice tu38 rfl) rfl rfl rfl ?_
    by_cases q14 : ((a0.Cases.length : Nat) : Int) = 0
    ·replace hm := iT hm q14
     refine St.val (v := vT) (Yields.is q14 (Yields.eq rfl rfl)) rfl rfl rfl ?_
     refine spt rfl rfl rfl ?_
     refine smv rfl rfl ?_
     refine St.val (v := (.pointer (some ⟨b3, 3, none⟩))) (Yields.fieldAddr (v := (.pointer (some ⟨b3, 3, none⟩))) rfl (fun _ => by kernel_rfl)) rfl rfl rfl ?_
     refine St.val (v := (.int .i64 a0.N)) (Yields.load rfl (Loads.H1 0 rfl tc3 rfl)) rfl rfl rfl ?_
     by_cases q15 : a0.N = 0
     ·replace hm := iT hm q15
      refine St.val (v := vT) (Yields.is q15 (Yields.eq rfl rfl)) rfl rfl rfl ?_
      refine spt rfl rfl rfl ?_
      refine smv rfl rfl ?_
      refine St.val (v := (.pointer (some ⟨b3, 2, none⟩))) (Yields.fieldAddr (v := (.pointer (some ⟨b3, 2, none⟩))) rfl (fun _ => by kernel_rfl)) rfl rfl rfl ?_
      refine St.val (v := (.int .i64 a0.B)) (Yields.load rfl (Loads.H1 0 rfl tc3 rfl)) rfl rfl rfl ?_
      refine St.val (v := (.bool (decide (a0.B = 0)))) (Yields.eq rfl rfl) rfl rfl rfl ?_
      refine spt rfl rfl rfl ?_
      refine sas rfl rfl ?_
      refine St.nil ?_
      obtain rfl := sI hm
      intro a w ha hs
      exact ⟨ha.covers ⟨rfl, rfl, trivial⟩, (Among.of (Among.take 0 rfl rfl Among.none) _ hs)⟩
     replace hm := iF hm q15
     refine St.val (v := vF) (Yields.isnt q15 (Yields.eq rfl rfl)) rfl rfl rfl ?_
     refine spt rfl rfl rfl ?_
     refine smv rfl rfl ?_
     refine su rfl rfl rfl ?_
     refine su rfl rfl rfl ?_
     refine su rfl rfl rfl ?_
     refine spf rfl rfl rfl ?_
     refine sas rfl rfl ?_
     refine St.nil ?_
     obtain rfl := sI hm
     intro a w ha hs
     exact ⟨ha.covers ⟨rfl, rfl, trivial⟩, (Among.of (Among.take 0 rfl rfl Among.none) _ hs)⟩
    replace hm := iF hm q14
    refine St.val (v := vF) (Yields.isnt q14 (Yields.eq rfl rfl)) rfl rfl rfl ?_
    refine spt rfl rfl rfl ?_
    refine smv rfl rfl ?_
    refine su rfl rfl rfl ?_
    refine su rfl rfl rfl ?_
    refine su rfl rfl rfl ?_
    refine spf rfl rfl rfl ?_
    refine smv rfl rfl ?_
    refine su rfl rfl rfl ?_
    refine su rfl rfl rfl ?_
    refine su rfl rfl rfl ?_
    refine spf rfl rfl rfl ?_
    refine sas rfl rfl ?_
    refine St.nil ?_
    obtain rfl := sI hm
    intro a w ha hs
    exact ⟨ha.covers ⟨rfl, rfl, trivial⟩, (Among.of (Among.take 0 rfl rfl Among.none) _ hs)⟩
   replace hm := iF hm q13
   refine St.val (v := vF) (Yields.isnt q13 (Yields.eq rfl rfl)) rfl rfl rfl ?_
   refine spt rfl rfl rfl ?_
   refine smv rfl rfl ?_
   refine su rfl rfl rfl ?_
   refine su rfl rfl rfl ?_
   refine su rfl rfl rfl ?_
   refine su rfl rfl rfl ?_
   refine spf rfl rfl rfl ?_
   refine smv rfl rfl ?_
   refine su rfl rfl rfl ?_
   refine su rfl rfl rfl ?_
   refine su rfl rfl rfl ?_
   refine spf rfl rfl rfl ?_
   refine smv rfl rfl ?_
   refine su rfl rfl rfl ?_
   refine su rfl rfl rfl ?_
   refine su rfl rfl rfl ?_
   refine spf rfl rfl rfl ?_
   refine sas rfl rfl ?_
   refine St.nil ?_
   obtain rfl := sI hm
   intro a w ha hs
   exact ⟨ha.covers ⟨rfl, rfl, trivial⟩, (Among.of (Among.take 0 rfl rfl Among.none) _ hs)⟩
  replace hm := iF hm q12
  refine sv (v := vF) (Yields.isnt q12 (Yields.eqStr rfl rfl)) rfl ?_
  refine smv rfl rfl ?_
  refine su rfl rfl rfl ?_
  refine su rfl rfl rfl ?_
  refine su rfl rfl rfl ?_
  refine su rfl rfl rfl ?_
  refine spf rfl rfl rfl ?_
  refine smv rfl rfl ?_
  refine su rfl rfl rfl ?_
  refine su rfl rfl rfl ?_
  refine su rfl rfl rfl ?_
  refine su rfl rfl rfl ?_
  refine spf rfl rfl rfl ?_
  refine smv rfl rfl ?_
  refine su rfl rfl rfl ?_
  refine su rfl rfl rfl ?_
  refine su rfl rfl rfl ?_
  refine spf rfl rfl rfl ?_
  refine smv rfl rfl ?_
  refine su rfl rfl rfl ?_
  refine su rfl rfl rfl ?_
  refine su rfl rfl rfl ?_
  refine spf rfl rfl rfl ?_
  refine sas rfl rfl ?_
  refine St.nil ?_
  obtain rfl := sI hm
  intro a w ha hs
  exact ⟨ha.covers ⟨rfl, rfl, trivial⟩, (Among.of (Among.take 0 rfl rfl Among.none) _ hs)⟩
 rintro a w ⟨ha, hs⟩
 replace hm := hk11
 refine St.use (?_ : St _ _ _ _ _ _) ha hs
 clear ha hs a w
 refine St.seq ?_
 refine ssr ?_
 refine sfa (v := (.pointer (some ⟨b3, 0, none⟩))) rfl (fun _ => by kernel_rfl) rfl ?_
 refine sv (v := (.int .i64 a0.Op)) (Yields.load rfl (Loads.H1 0 rfl tc3 rfl)) rfl ?_
 refine snn ?_
 refine St.block ?_
 refine ssr ?_
 refine sv (v := (.bool (decide (a0.Op = 1)))) (Yields.eq rfl rfl) rfl ?_
 refine sas rfl rfl ?_
 refine snn ?_
 refine St.cond_b rfl ?_ ?_
 ·intro q16
  replace q16 : a0.Op = 1 := of_decide_eq_true q16
  replace hm := iT hm q16
  obtain ⟨z17, hm, hk20⟩ := bS hm
  refine St.cutI (fun a w => ∃ (F18 : PH), PH.le F6 F18 ∧ Has Tryz.f32.ntmps a [(1, .pointer (some ⟨b3, 0, none⟩)), (4, .bool z17)] ∧ Sat ⟨w0, fun b => m0 b ≠ none, F⟩ F18 [blk b3 (.cells #[.int .i64 a0.Op, .int .i64 a0.A, .int .i64 a0.B, .int .i64 a0.N, .string (bs a0.Name), .slice pA0_0 a0.Args.length pc0_0, .slice pA0_1 a0.Cases.length pc0_1] 40 (0, 0))] w) ?_ ?_
  ·skip
   refine St.region ?_
   refine sfa (v := (.pointer (some ⟨b3, 4, none⟩))) rfl (fun _ => by kernel_rfl) rfl ?_
   refine sv (v := (.string (bs a0.Name))) (Yields.load rfl (Loads.H1 0 rfl tc9 rfl)) rfl ?_
   by_cases q21 : a0.Name = ([] : List UInt8)
   ·replace hm := iT hm q21
    refine sv (v := vT) (Yields.is q21 (Yields.eqStr rfl rfl)) rfl ?_
    refine smv rfl rfl ?_
    refine St.val (v := (.pointer (some ⟨b3, 5, none⟩))) (Yields.fieldAddr (v := (.pointer (some ⟨b3, 5, none⟩))) rfl (fun _ => by kernel_rfl)) rfl rfl rfl ?_
    refine St.val (v := (.slice pA0_0 a0.Args.length pc0_0)) (Yields.load rfl (Loads.H1 0 rfl tc37 rfl)) rfl rfl rfl ?_
    refine St.val (v := (.int .i64 ((a0.Args.length : Nat) : Int))) (Yields.lenSlice tu37 rfl) rfl rfl rfl ?_
    by_cases q22 : ((a0.Args.length : Nat) : Int) = 0
    ·replace hm := iT hm q22
     refine St.val (v := vT) (Yields.is q22 (Yields.eq rfl rfl)) rfl rfl rfl ?_
     refine spt rfl rfl rfl ?_
     refine smv rfl rfl ?_
     refine St.val (v := (.pointer (some ⟨b3, 3, none⟩))) (Yields.fieldAddr (v := (.pointer (some ⟨b3, 3, none⟩))) rfl (fun _ => by kernel_rfl)) rfl rfl rfl ?_
     refine St.val (v := (.int .i64 a0.N)) (Yields.load rfl (Loads.H1 0 rfl tc3 rfl)) rfl rfl rfl ?_
     by_cases q23 : a0.N = 0
     ·replace hm := iT hm q23
      refine St.val (v := vT) (Yields.is q23 (Yields.eq rfl rfl)) rfl rfl rfl ?_
      refine spt rfl rfl rfl ?_
      refine smv rfl rfl ?_
      refine St.val (v := (.pointer (some ⟨b3, 1, none⟩))) (Yields.fieldAddr (v := (.pointer (some ⟨b3, 1, none⟩))) rfl (fun _ => by kernel_rfl)) rfl rfl rfl ?_
      refine St.val (v := (.int .i64 a0.A)) (Yields.load rfl (Loads.H1 0 rfl tc3 rfl)) rfl rfl rfl ?_
      refine St.val (v := (.pointer (some ⟨b3, 2, none⟩))) (Yields.fieldAddr (v := (.pointer (some ⟨b3, 2, none⟩))) rfl (fun _ => by kernel_rfl)) rfl rfl rfl ?_
      refine St.val (v := (.int .i64 a0.B)) (Yields.load rfl (Loads.H1 0 rfl tc3 rfl)) rfl rfl rfl ?_
      refine St.buildSlice (e := 3) (cells := #[.int .i64 a0.A, .int .i64 a0.B]) (vs := #[(0, .int .i64 a0.A), (1, .int .i64 a0.B)]) (fun _ ha => evp2 ha rfl rfl) (fun _ => by kernel_rfl) rfl rfl ?_
      intro b24
      refine St.weak (R := [blk b3 (.cells #[.int .i64 a0.Op, .int .i64 a0.A, .int .i64 a0.B, .int .i64 a0.N, .string (bs a0.Name), .slice pA0_0 a0.Args.length pc0_0, .slice pA0_1 a0.Cases.length pc0_1] 40 (0, 0))]) (c' := rowo (some ⟨b24, 0, none⟩) ([a0.A, a0.B] : List Int).length 2 3 1 [.int .i64 a0.A, .int .i64 a0.B]) 0 rfl rfl (fun m hm => rowo_of_row (row_of_blk (k := 2) rfl (by decide) hm)) ?_
      refine St.pick (R := [blk b3 (.cells #[.int .i64 a0.Op, .int .i64 a0.A, .int .i64 a0.B, .int .i64 a0.N, .string (bs a0.Name), .slice pA0_0 a0.Args.length pc0_0, .slice pA0_1 a0.Cases.length pc0_1] 40 (0, 0))]) 0 rfl rfl ?_
      obtain ⟨q26, e27, hm⟩ := bS hm
      refine St.call [blk b3 (.cells #[.int .i64 a0.Op, .int .i64 a0.A, .int .i64 a0.B, .int .i64 a0.N, .string (bs a0.Name), .slice pA0_0 a0.Args.length pc0_0, .slice pA0_1 a0.Cases.length pc0_1] 40 (0, 0))] (CallSp.lend (Hl := [rowo (some ⟨b24, 0, none⟩) ([a0.A, a0.B] : List Int).length 2 3 1 [.int .i64 a0.A, .int .i64 a0.B]]) (fun m_ hm_ hd_ h1_ h2_ => (m_code_isNumber_sp (lentR hm_ 0 rfl rfl (show Cat (Kind.int .i64) F6 [.int .i64 a0.A, .int .i64 a0.B] ([a0.A, a0.B] : List Int) from ⟨[.int .i64 a0.A], _, rfl, rfl, ⟨[.int .i64 a0.B], _, rfl, rfl, rfl⟩⟩) (show Bnd 8 ([a0.A, a0.B] : List Int) from ⟨by simp, by simp⟩) h1_ h2_) e27).mono (fun _ _ _ h_ _ _ => h_))) rfl (fun _ ha => ev1 ha rfl) rfl en29 rfl rfl rfl ?_
      rintro _ F28 _ ⟨_, rfl, rfl, rfl⟩ l29
      refine spt rfl rfl rfl ?_
      refine sas rfl rfl ?_
      refine St.nil ?_
      obtain rfl := sI hm
      intro a w ha hs
      exact ⟨F28, l29, ha.covers ⟨rfl, rfl, trivial⟩, (Among.of (Among.take 1 rfl rfl Among.none) _ hs)⟩
     replace hm := iF hm q23
     refine St.val (v := vF) (Yields.isnt q23 (Yields.eq rfl rfl)) rfl rfl rfl ?_
     refine spt rfl rfl rfl ?_
     refine smv rfl rfl ?_
     refine su rfl rfl rfl ?_
     refine su rfl rfl rfl ?_
     refine su rfl rfl rfl ?_
     refine su rfl rfl rfl ?_
     refine su rfl rfl rfl ?_
     refine su rfl rfl rfl ?_
     refine spf rfl rfl rfl ?_
     refine sas rfl rfl ?_
     refine St.nil ?_
     obtain rfl := sI hm
     intro a w ha hs
     exact ⟨F6, (PH.le_refl _), ha.covers ⟨rfl, rfl, trivial⟩, (Among.of (Among.take 0 rfl rfl Among.none) _ hs)⟩
    replace hm := iF hm q22
    refine St.val (v := vF) (Yields.isnt q22 (Yields.eq rfl rfl)) rfl rfl rfl ?_
    refine spt rfl rfl rfl ?_
    refine smv rfl rfl ?_
    refine su rfl rfl rfl ?_
    refine su rfl rfl rfl ?_
    refine su rfl rfl rfl ?_
    refine spf rfl rfl rfl ?_
    refine smv rfl rfl ?_
    refine su rfl rfl rfl ?_
    refine su rfl rfl rfl ?_
    refine su rfl rfl rfl ?_
    refine su rfl rfl rfl ?_
    refine su rfl rfl rfl ?_
    refine su rfl rfl rfl ?_
    refine spf rfl rfl rfl ?_
    refine sas rfl rfl ?_
    refine St.nil ?_
    obtain rfl := sI hm
    intro a w ha hs
    exact ⟨F6, (PH.le_refl _), ha.covers ⟨rfl, rfl, trivial⟩, (Among.of (Among.take 0 rfl rfl Among.none) _ hs)⟩
   replace hm := iF hm q21
   refine sv (v := vF) (Yields.isnt q21 (Yields.eqStr rfl rfl)) rfl ?_
   refine smv rfl rfl ?_
   refine su rfl rfl rfl ?_
   refine su rfl rfl rfl ?_
   refine su rfl rfl rfl ?_
   refine su rfl rfl rfl ?_
   refine spf rfl rfl rfl ?_
   refine smv rfl rfl ?_
   refine su rfl rfl rfl ?_
   refine su rfl rfl rfl ?_
   refine su rfl rfl rfl ?_
   refine spf rfl rfl rfl ?_
   refine smv rfl rfl ?_
   refine su rfl rfl rfl ?_
   refine su rfl rfl rfl ?_
   refine su rfl rfl rfl ?_
   refine su rfl rfl rfl ?_
   refine su rfl rfl rfl ?_
   refine su rfl rfl rfl ?_
   refine spf rfl rfl rfl ?_
   refine sas rfl rfl ?_
   refine St.nil ?_
   obtain rfl := sI hm
   intro a w ha hs
   exact ⟨F6, (PH.le_refl _), ha.covers ⟨rfl, rfl, trivial⟩, (Among.of (Among.take 0 rfl rfl Among.none) _ hs)⟩
  rintro a w ⟨F18, l19, ha, hs⟩
  replace hm := hk20
  refine St.use (?_ : St _ _ _ _ _ _) ha hs
  clear ha hs a w
  obtain ⟨z30, hm, hk33⟩ := bS hm
  refine St.cutI (fun a w => ∃ (F31 : PH), PH.le F18 F31 ∧ Has Tryz.f32.ntmps a [(4, .bool z30)] ∧ Sat ⟨w0, fun b => m0 b ≠ none, F⟩ F31 [] w) ?_ ?_
  ·skip
   refine ssr ?_
   refine sfa (v := (.pointer (some ⟨b3, 6, none⟩))) rfl (fun _ => by kernel_rfl) rfl ?_
   refine sv (v := (.slice pA0_1 a0.Cases.length pc0_1)) (Yields.load rfl (Loads.H1 0 rfl tc38 rfl)) rfl ?_
   refine sv (v := (.int .i64 ((a0.Cases.length : Nat) : Int))) (Yields.lenSlice tu38 rfl) rfl ?_
   refine smv rfl rfl ?_
   refine snn ?_
   refine St.block ?_
   refine St.loopM hm (fun s37 a w => ∃ (F41 : PH), PH.le F18 F41 ∧ Has Tryz.f32.ntmps a [(4, .bool s37.1), (63, .slice pA0_1 a0.Cases.length pc0_1), (64, .int .i64 ((a0.Cases.length : Nat) : Int)), (65, .int .i64 ((s37.2 : Nat) : Int))] ∧ Sat ⟨w0, fun b => m0 b ≠ none, F⟩ F41 [] w) ?_ ?_
   ·skip
    intro a w ha hs
    exact ⟨F18, (PH.le_refl _), ha.covers ⟨rfl, rfl, rfl, rfl, trivial⟩, (Among.of Among.none _ hs)⟩
   rintro s37 o38 co39 hm ho40 a w ⟨F41, l42, ha, hs⟩
   refine St.use (?_ : St _ _ _ _ _ _) ha hs
   clear ha hs a w
   refine ssr ?_
   refine sv (v := (.bool (decide (((s37.2 : Nat) : Int) < ((a0.Cases.length : Nat) : Int))))) (Yields.lt rfl rfl) rfl ?_
   refine snn ?_
   refine St.seq ?_
   refine St.cond_b rfl ?_ ?_
   ·intro q43
    replace q43 : ((s37.2 : Nat) : Int) < ((a0.Cases.length : Nat) : Int) := of_decide_eq_true q43
    replace hm := iT hm q43
    refine skn ?_
    obtain ⟨z44, hm, hk47⟩ := bS hm
    refine St.cutI (fun a w => ∃ (F45 : PH), PH.le F41 F45 ∧ Has Tryz.f32.ntmps a [(4, .bool z44), (63, .slice pA0_1 a0.Cases.length pc0_1), (64, .int .i64 ((a0.Cases.length : Nat) : Int)), (65, .int .i64 ((s37.2 : Nat) : Int))] ∧ Sat ⟨w0, fun b => m0 b ≠ none, F⟩ F45 [] w) ?_ ?_
    ·skip
     refine St.block ?_
     refine ssr ?_
     obtain ⟨x48, e49, hm⟩ := bS hm
     obtain ⟨p50, cs51, jx52, R53, k54⟩ := (Fsl.mono (PH.le_trans l7 (PH.le_trans l19 l42)) ph0_1).nidx e49
     obtain rfl := DJump.opn R53
     refine sv (v := (.pointer (some p50))) (Yields.idx jx52 ts38 rfl rfl) rfl ?_
     refine sv (v := (.agg #[.string (bs x48.Name), .int .i64 x48.N, .int .i64 x48.To])) (Yields.load rfl (Loads.Fatn0 k54 ta49)) rfl ?_
     refine St.alloc tz49 trivial rfl ?_
     intro b55
     refine St.storen (R := []) rfl rfl 0 rfl rfl ta49 rfl rfl rfl trivial (cs' := #[.string (bs x48.Name), .int .i64 x48.N, .int .i64 x48.To]) rfl ?_
     refine snn ?_
     refine St.region ?_
     by_cases q56 : s37.1 = true
     ·replace hm := iT hm q56
      have hb57 : (s37.1) = true := q56
      try rw [hb57]
      refine smv rfl rfl ?_
      refine smv rfl rfl ?_
      refine St.val (v := (.pointer (some ⟨b55, 2, none⟩))) (Yields.fieldAddr (v := (.pointer (some ⟨b55, 2, none⟩))) rfl (fun _ => by kernel_rfl)) rfl rfl rfl ?_
      refine St.val (v := (.int .i64 x48.To)) (Yields.load rfl (Loads.H1 0 rfl tc3 rfl)) rfl rfl rfl ?_
      refine St.buildSlice (e := 3) (cells := #[.int .i64 x48.To]) (vs := #[(0, .int .i64 x48.To)]) (fun _ ha => evp1 ha rfl) (fun _ => by kernel_rfl) rfl rfl ?_
      intro b58
      refine St.weak (R := [blk b55 (.cells #[.string (bs x48.Name), .int .i64 x48.N, .int .i64 x48.To] 49 (0, 0))]) (c' := rowo (some ⟨b58, 0, none⟩) ([x48.To] : List Int).length 1 3 1 [.int .i64 x48.To]) 0 rfl rfl (fun m hm => rowo_of_row (row_of_blk (k := 1) rfl (by decide) hm)) ?_
      refine St.pick (R := [blk b55 (.cells #[.string (bs x48.Name), .int .i64 x48.N, .int .i64 x48.To] 49 (0, 0))]) 0 rfl rfl ?_
      obtain ⟨q60, e61, hm⟩ := bS hm
      refine St.call [blk b55 (.cells #[.string (bs x48.Name), .int .i64 x48.N, .int .i64 x48.To] 49 (0, 0))] (CallSp.lend (Hl := [rowo (some ⟨b58, 0, none⟩) ([x48.To] : List Int).length 1 3 1 [.int .i64 x48.To]]) (fun m_ hm_ hd_ h1_ h2_ => (m_code_isNumber_sp (lentR hm_ 0 rfl rfl (show Cat (Kind.int .i64) F41 [.int .i64 x48.To] ([x48.To] : List Int) from ⟨[.int .i64 x48.To], _, rfl, rfl, rfl⟩) (show Bnd 8 ([x48.To] : List Int) from ⟨by simp, by simp⟩) h1_ h2_) e61).mono (fun _ _ _ h_ _ _ => h_))) rfl (fun _ ha => ev1 ha rfl) rfl en29 rfl rfl rfl ?_
      rintro _ F62 _ ⟨_, rfl, rfl, rfl⟩ l63
      by_cases q64 : q60 = true
      ·replace hm := iT hm q64
       have hb65 : (q60) = true := q64
       try rw [hb65]
       refine spt rfl rfl rfl ?_
       refine smv rfl rfl ?_
       refine St.val (v := (.pointer (some ⟨b55, 0, none⟩))) (Yields.fieldAddr (v := (.pointer (some ⟨b55, 0, none⟩))) rfl (fun _ => by kernel_rfl)) rfl rfl rfl ?_
       refine St.val (v := (.string (bs x48.Name))) (Yields.load rfl (Loads.H1 1 rfl tc9 rfl)) rfl rfl rfl ?_
       by_cases q66 : x48.Name = ([] : List UInt8)
       ·replace hm := iT hm q66
        refine St.val (v := vT) (Yields.is q66 (Yields.eqStr rfl rfl)) rfl rfl rfl ?_
        refine St.val (v := vT) (Yields.move rfl) rfl rfl rfl ?_
        refine St.val (v := (.pointer (some ⟨b55, 1, none⟩))) (Yields.fieldAddr (v := (.pointer (some ⟨b55, 1, none⟩))) rfl (fun _ => by kernel_rfl)) rfl rfl rfl ?_
        refine St.val (v := (.int .i64 x48.N)) (Yields.load rfl (Loads.H1 1 rfl tc3 rfl)) rfl rfl rfl ?_
        obtain ⟨q67, e68, hm⟩ := bS hm
        refine St.call [rowo (some ⟨b58, 0, none⟩) ([x48.To] : List Int).length 1 3 1 [.int .i64 x48.To], blk b55 (.cells #[.string (bs x48.Name), .int .i64 x48.N, .int .i64 x48.To] 49 (0, 0))] (m_code_isInt_sp e68) rfl (fun _ ha => ev1 ha rfl) rfl en57 rfl rfl rfl ?_
        rintro _ F69 _ ⟨rfl, rfl⟩ l70
        by_cases q71 : q67 = true
        ·replace hm := iT hm q71
         have hb72 : (q67) = true := q71
         try rw [hb72]
         refine St.val (v := vT) (Yields.pick_t rfl rfl) rfl rfl rfl ?_
         refine St.val (v := vT) (Yields.move rfl) rfl rfl rfl ?_
         refine su rfl rfl rfl ?_
         refine su rfl rfl rfl ?_
         refine su rfl rfl rfl ?_
         refine su rfl rfl rfl ?_
         refine St.unwanted trivial rfl rfl ?_
         refine St.unwanted trivial rfl rfl ?_
         refine St.unwanted trivial rfl rfl ?_
         refine su rfl rfl rfl ?_
         refine St.val (v := vT) (Yields.pick_t rfl rfl) rfl rfl rfl ?_
         refine spt rfl rfl rfl ?_
         refine sas rfl rfl ?_
         refine St.nil ?_
         refine St.innorm ?_
         obtain rfl := sI hm
         intro a w ha hs
         exact ⟨F69, (PH.le_trans l63 l70), ha.covers ⟨rfl, rfl, rfl, rfl, trivial⟩, (Among.of Among.none _ hs)⟩
        replace hm := iF hm q71
        have hb73 : (q67) = false := eq_false_of_ne_true q71
        try rw [hb73]
        refine St.val (v := vF) (Yields.pick_t rfl rfl) rfl rfl rfl ?_
        refine St.val (v := vF) (Yields.move rfl) rfl rfl rfl ?_
        refine St.val (v := (.pointer (some ⟨b55, 1, none⟩))) (Yields.fieldAddr (v := (.pointer (some ⟨b55, 1, none⟩))) rfl (fun _ => by kernel_rfl)) rfl rfl rfl ?_
        refine St.val (v := (.int .i64 x48.N)) (Yields.load rfl (Loads.H1 1 rfl tc3 rfl)) rfl rfl rfl ?_
        by_cases q74 : x48.N = 0
        ·replace hm := iT hm q74
         refine St.val (v := vT) (Yields.is q74 (Yields.eq rfl rfl)) rfl rfl rfl ?_
         refine St.val (v := vT) (Yields.move rfl) rfl rfl rfl ?_
         refine St.val (v := (.pointer (some ⟨b55, 0, none⟩))) (Yields.fieldAddr (v := (.pointer (some ⟨b55, 0, none⟩))) rfl (fun _ => by kernel_rfl)) rfl rfl rfl ?_
         refine St.val (v := (.string (bs x48.Name))) (Yields.load rfl (Loads.H1 1 rfl tc9 rfl)) rfl rfl rfl ?_
         obtain ⟨q75, e76, hm⟩ := bS hm
         refine St.call [rowo (some ⟨b58, 0, none⟩) ([x48.To] : List Int).length 1 3 1 [.int .i64 x48.To], blk b55 (.cells #[.string (bs x48.Name), .int .i64 x48.N, .int .i64 x48.To] 49 (0, 0))] (m_code_isName_sp e76) rfl (fun _ ha => ev2 ha rfl rfl) rfl en28 rfl rfl rfl ?_
         rintro _ F77 _ ⟨rfl, rfl⟩ l78
         refine St.val (v := (.bool q75)) (Yields.pick_t rfl rfl) rfl rfl rfl ?_
         refine St.val (v := (.bool q75)) (Yields.pick_f rfl rfl) rfl rfl rfl ?_
         refine spt rfl rfl rfl ?_
         refine sas rfl rfl ?_
         refine St.nil ?_
         refine St.innorm ?_
         obtain rfl := sI hm
         intro a w ha hs
         exact ⟨F77, (PH.le_trans l63 (PH.le_trans l70 l78)), ha.covers ⟨rfl, rfl, rfl, rfl, trivial⟩, (Among.of Among.none _ hs)⟩
        replace hm := iF hm q74
        refine St.val (v := vF) (Yields.isnt q74 (Yields.eq rfl rfl)) rfl rfl rfl ?_
        refine St.val (v := vF) (Yields.move rfl) rfl rfl rfl ?_
        refine su rfl rfl rfl ?_
        refine su rfl rfl rfl ?_
        refine su rfl rfl rfl ?_
        refine St.val (v := vF) (Yields.pick_f rfl rfl) rfl rfl rfl ?_
        refine St.val (v := vF) (Yields.pick_f rfl rfl) rfl rfl rfl ?_
        refine spt rfl rfl rfl ?_
        refine sas rfl rfl ?_
        refine St.nil ?_
        refine St.innorm ?_
        obtain rfl := sI hm
        intro a w ha hs
        exact ⟨F69, (PH.le_trans l63 l70), ha.covers ⟨rfl, rfl, rfl, rfl, trivial⟩, (Among.of Among.none _ hs)⟩
       replace hm := iF hm q66
       refine St.val (v := vF) (Yields.isnt q66 (Yields.eqStr rfl rfl)) rfl rfl rfl ?_
       refine St.val (v := vF) (Yields.move rfl) rfl rfl rfl ?_
       refine su rfl rfl rfl ?_
       refine su rfl rfl rfl ?_
       refine su rfl rfl rfl ?_
       refine St.val (v := vF) (Yields.pick_f rfl rfl) rfl rfl rfl ?_
       refine St.val (v := vF) (Yields.move rfl) rfl rfl rfl ?_
       refine St.val (v := (.pointer (some ⟨b55, 1, none⟩))) (Yields.fieldAddr (v := (.pointer (some ⟨b55, 1, none⟩))) rfl (fun _ => by kernel_rfl)) rfl rfl rfl ?_
       refine St.val (v := (.int .i64 x48.N)) (Yields.load rfl (Loads.H1 1 rfl tc3 rfl)) rfl rfl rfl ?_
       by_cases q79 : x48.N = 0
       ·replace hm := iT hm q79
        refine St.val (v := vT) (Yields.is q79 (Yields.eq rfl rfl)) rfl rfl rfl ?_
        refine St.val (v := vT) (Yields.move rfl) rfl rfl rfl ?_
        refine St.val (v := (.pointer (some ⟨b55, 0, none⟩))) (Yields.fieldAddr (v := (.pointer (some ⟨b55, 0, none⟩))) rfl (fun _ => by kernel_rfl)) rfl rfl rfl ?_
        refine St.val (v := (.string (bs x48.Name))) (Yields.load rfl (Loads.H1 1 rfl tc9 rfl)) rfl rfl rfl ?_
        obtain ⟨q80, e81, hm⟩ := bS hm
        refine St.call [rowo (some ⟨b58, 0, none⟩) ([x48.To] : List Int).length 1 3 1 [.int .i64 x48.To], blk b55 (.cells #[.string (bs x48.Name), .int .i64 x48.N, .int .i64 x48.To] 49 (0, 0))] (m_code_isName_sp e81) rfl (fun _ ha => ev2 ha rfl rfl) rfl en28 rfl rfl rfl ?_
        rintro _ F82 _ ⟨rfl, rfl⟩ l83
        refine St.val (v := (.bool q80)) (Yields.pick_t rfl rfl) rfl rfl rfl ?_
        refine St.val (v := (.bool q80)) (Yields.pick_f rfl rfl) rfl rfl rfl ?_
        refine spt rfl rfl rfl ?_
        refine sas rfl rfl ?_
        refine St.nil ?_
        refine St.innorm ?_
        obtain rfl := sI hm
        intro a w ha hs
        exact ⟨F82, (PH.le_trans l63 l83), ha.covers ⟨rfl, rfl, rfl, rfl, trivial⟩, (Among.of Among.none _ hs)⟩
       replace hm := iF hm q79
       refine St.val (v := vF) (Yields.isnt q79 (Yields.eq rfl rfl)) rfl rfl rfl ?_
       refine St.val (v := vF) (Yields.move rfl) rfl rfl rfl ?_
       refine su rfl rfl rfl ?_
       refine su rfl rfl rfl ?_
       refine su rfl rfl rfl ?_
       refine St.val (v := vF) (Yields.pick_f rfl rfl) rfl rfl rfl ?_
       refine St.val (v := vF) (Yields.pick_f rfl rfl) rfl rfl rfl ?_
       refine spt rfl rfl rfl ?_
       refine sas rfl rfl ?_
       refine St.nil ?_
       refine St.innorm ?_
       obtain rfl := sI hm
       intro a w ha hs
       exact ⟨F62, l63, ha.covers ⟨rfl, rfl, rfl, rfl, trivial⟩, (Among.of Among.none _ hs)⟩
      replace hm := iF hm q64
      have hb84 : (q60) = false := eq_false_of_ne_true q64
      try rw [hb84]
      refine spt rfl rfl rfl ?_
      refine smv rfl rfl ?_
      refine su rfl rfl rfl ?_
      refine su rfl rfl rfl ?_
      refine su rfl rfl rfl ?_
      refine su rfl rfl rfl ?_
      refine St.unwanted trivial rfl rfl ?_
      refine St.unwanted trivial rfl rfl ?_
      refine St.unwanted trivial rfl rfl ?_
      refine su rfl rfl rfl ?_
      refine su rfl rfl rfl ?_
      refine St.unwanted trivial rfl rfl ?_
      refine St.unwanted trivial rfl rfl ?_
      refine St.unwanted trivial rfl rfl ?_
      refine St.unwanted trivial rfl rfl ?_
      refine St.unwanted trivial rfl rfl ?_
      refine St.unwanted trivial rfl rfl ?_
      refine St.unwanted trivial rfl rfl ?_
      refine St.unwanted trivial rfl rfl ?_
      refine su rfl rfl rfl ?_
      refine spf rfl rfl rfl ?_
      refine sas rfl rfl ?_
      refine St.nil ?_
      refine St.innorm ?_
      obtain rfl := sI hm
      intro a w ha hs
      exact ⟨F62, l63, ha.covers ⟨rfl, rfl, rfl, rfl, trivial⟩, (Among.of Among.none _ hs)⟩
     replace hm := iF hm q56
     have hb85 : (s37.1) = false := eq_false_of_ne_true q56
     try rw [hb85]
     refine smv rfl rfl ?_
     refine smv rfl rfl ?_
     refine su rfl rfl rfl ?_
     refine su rfl rfl rfl ?_
     refine su rfl rfl rfl ?_
     refine su rfl rfl rfl ?_
     refine spf rfl rfl rfl ?_
     refine smv rfl rfl ?_
     refine su rfl rfl rfl ?_
     refine su rfl rfl rfl ?_
     refine su rfl rfl rfl ?_
     refine su rfl rfl rfl ?_
     refine St.unwanted trivial rfl rfl ?_
     refine St.unwanted trivial rfl rfl ?_
     refine St.unwanted trivial rfl rfl ?_
     refine su rfl rfl rfl ?_
     refine su rfl rfl rfl ?_
     refine St.unwanted trivial rfl rfl ?_
     refine St.unwanted trivial rfl rfl ?_
     refine St.unwanted trivial rfl rfl ?_
     refine St.unwanted trivial rfl rfl ?_
     refine St.unwanted trivial rfl rfl ?_
     refine St.unwanted trivial rfl rfl ?_
     refine St.unwanted trivial rfl rfl ?_
     refine St.unwanted trivial rfl rfl ?_
     refine su rfl rfl rfl ?_
     refine spf rfl rfl rfl ?_
     refine sas rfl rfl ?_
     refine St.nil ?_
     refine St.innorm ?_
     obtain rfl := sI hm
     intro a w ha hs
     exact ⟨F41, (PH.le_refl _), ha.covers ⟨rfl, rfl, rfl, rfl, trivial⟩, (Among.of Among.none _ hs)⟩
    rintro a w ⟨F45, l46, ha, hs⟩
    replace hm := hk47
    refine St.use (?_ : St _ _ _ _ _ _) ha hs
    clear ha hs a w
    refine St.region ?_
    refine sv (v := (.int .i64 ((s37.2 + 1 : Nat) : Int))) (Yields.addn (j := 1) rfl rfl rfl (by have q_0 := q43; have q_1 := ph0_1.bnd.2; omega)) rfl ?_
    refine smv rfl rfl ?_
    refine snn ?_
    obtain rfl := sI hm
    intro a w ha hs
    exact ⟨(z44, s37.2 + 1), aL ho40, F45, (PH.le_trans l42 l46), ha.covers ⟨rfl, rfl, rfl, rfl, trivial⟩, (Among.of Among.none _ hs)⟩
   intro q86
   replace q86 : ¬ (((s37.2 : Nat) : Int) < ((a0.Cases.length : Nat) : Int)) := of_decide_eq_false q86
   replace hm := iF hm q86
   refine St.exit ?_
   refine St.thenexit ?_
   refine St.thenexit ?_
   refine St.inexit ?_
   obtain rfl := sI hm
   obtain rfl := aR ho40
   intro a w ha hs
   exact ⟨F41, l42, ha.covers ⟨rfl, trivial⟩, (Among.of Among.none _ hs)⟩
  rintro a w ⟨F31, l32, ha, hs⟩
  replace hm := hk33
  refine St.use (?_ : St _ _ _ _ _ _) ha hs
  clear ha hs a w
  refine ssr ?_
  refine smv rfl rfl ?_
  refine sas rfl rfl ?_
  refine snn ?_
  refine St.ret ?_
  refine St.inret ?_
  refine St.thenret ?_
  obtain rfl := sI hm
  exact St.doneR1 rfl rfl ⟨rfl, rfl⟩ (fun w hs => Among.of Among.none w hs)
 intro q87
 replace q87 : ¬ (a0.Op = 1) := of_decide_eq_false q87
 replace hm := iF hm q87
 obtain ⟨z88, hm, hk89⟩ := bS hm
 refine St.cutI (fun a w => Has Tryz.f32.ntmps a [(1, .pointer (some ⟨b3, 0, none⟩)), (3, .bool z10), (37, .int .i64 a0.Op), (98, .bool z88)] ∧ Sat ⟨w0, fun b => m0 b ≠ none, F⟩ F6 [blk b3 (.cells #[.int .i64 a0.Op, .int .i64 a0.A, .int .i64 a0.B, .int .i64 a0.N, .string (bs a0.Name), .slice pA0_0 a0.Args.length pc0_0, .slice pA0_1 a0.Cases.length pc0_1] 40 (0, 0))] w) ?_ ?_
 ·skip
  refine ssr ?_
  refine sv (v := (.bool (decide (a0.Op = 3)))) (Yields.eq rfl rfl) rfl ?_
  refine sas rfl rfl ?_
  refine snn ?_
  refine St.cond_b rfl ?_ ?_
  ·intro q90
   replace q90 : a0.Op = 3 := of_decide_eq_true q90
   replace hm := iT hm q90
   refine St.skip ?_
   obtain rfl := sI hm
   intro a w ha hs
   exact ⟨ha.covers ⟨rfl, rfl, rfl, rfl, trivial⟩, (Among.of (Among.take 0 rfl rfl Among.none) _ hs)⟩
  intro q91
  replace q91 : ¬ (a0.Op = 3) := of_decide_eq_false q91
  replace hm := iF hm q91
  refine St.region ?_
  refine sv (v := (.bool (decide (a0.Op = 5)))) (Yields.eq rfl rfl) rfl ?_
  refine sas rfl rfl ?_
  refine St.nil ?_
  obtain rfl := sI hm
  intro a w ha hs
  exact ⟨ha.covers ⟨rfl, rfl, rfl, rfl, trivial⟩, (Among.of (Among.take 0 rfl rfl Among.none) _ hs)⟩
 rintro a w ⟨ha, hs⟩
 replace hm := hk89
 refine St.use (?_ : St _ _ _ _ _ _) ha hs
 clear ha hs a w
 refine St.cond_b rfl ?_ ?_
 ·intro q92
  replace q92 : z88 = true := q92
  replace hm := iT hm q92
  obtain ⟨z93, hm, hk94⟩ := bS hm
  refine St.cutI (fun a w => Has Tryz.f32.ntmps a [(2, .bool z93)] ∧ Sat ⟨w0, fun b => m0 b ≠ none, F⟩ F6 [] w) ?_ ?_
  ·skip
   refine St.region ?_
   by_cases q95 : z10 = true
   ·replace hm := iT hm q95
    have hb96 : (z10) = true := q95
    try rw [hb96]
    refine smv rfl rfl ?_
    refine smv rfl rfl ?_
    refine St.val (v := (.pointer (some ⟨b3, 1, none⟩))) (Yields.fieldAddr (v := (.pointer (some ⟨b3, 1, none⟩))) rfl (fun _ => by kernel_rfl)) rfl rfl rfl ?_
    refine St.val (v := (.int .i64 a0.A)) (Yields.load rfl (Loads.H1 0 rfl tc3 rfl)) rfl rfl rfl ?_
    refine St.val (v := (.bool (decide (a0.A = 0)))) (Yields.eq rfl rfl) rfl rfl rfl ?_
    refine spt rfl rfl rfl ?_
    refine sas rfl rfl ?_
    refine St.nil ?_
    obtain rfl := sI hm
    intro a w ha hs
    exact ⟨ha.covers ⟨rfl, trivial⟩, (Among.of Among.none _ hs)⟩
   replace hm := iF hm q95
   have hb97 : (z10) = false := eq_false_of_ne_true q95
   try rw [hb97]
   refine smv rfl rfl ?_
   refine smv rfl rfl ?_
   refine su rfl rfl rfl ?_
   refine su rfl rfl rfl ?_
   refine su rfl rfl rfl ?_
   refine spf rfl rfl rfl ?_
   refine sas rfl rfl ?_
   refine St.nil ?_
   obtain rfl := sI hm
   intro a w ha hs
   exact ⟨ha.covers ⟨rfl, trivial⟩, (Among.of Among.none _ hs)⟩
  rintro a w ⟨ha, hs⟩
  replace hm := hk94
  refine St.use (?_ : St _ _ _ _ _ _) ha hs
  clear ha hs a w
  refine St.ret ?_
  refine St.inret ?_
  refine St.thenret ?_
  obtain rfl := sI hm
  exact St.doneR1 rfl rfl ⟨rfl, rfl⟩ (fun w hs => Among.of Among.none w hs)
 intro q98
 replace q98 : ¬ (z88 = true) := bf q98
 replace hm := iF hm q98
 refine ssr ?_
 refine sv (v := (.bool (decide (a0.Op = 4)))) (Yields.eq rfl rfl) rfl ?_
 refine sas rfl rfl ?_
 refine snn ?_
 refine St.cond_b rfl ?_ ?_
 ·intro q99
  replace q99 : a0.Op = 4 := of_decide_eq_true q99
  replace hm := iT hm q99
  obtain ⟨z100, hm, hk103⟩ := bS hm
  refine St.cutI (fun a w => ∃ (F101 : PH), PH.le F6 F101 ∧ Has Tryz.f32.ntmps a [(2, .bool z100)] ∧ Sat ⟨w0, fun b => m0 b ≠ none, F⟩ F101 [] w) ?_ ?_
  ·skip
   refine St.region ?_
   by_cases q104 : z10 = true
   ·replace hm := iT hm q104
    have hb105 : (z10) = true := q104
    try rw [hb105]
    refine smv rfl rfl ?_
    refine smv rfl rfl ?_
    refine St.val (v := (.pointer (some ⟨b3, 1, none⟩))) (Yields.fieldAddr (v := (.pointer (some ⟨b3, 1, none⟩))) rfl (fun _ => by kernel_rfl)) rfl rfl rfl ?_
    refine St.val (v := (.int .i64 a0.A)) (Yields.load rfl (Loads.H1 0 rfl tc3 rfl)) rfl rfl rfl ?_
    refine St.buildSlice (e := 3) (cells := #[.int .i64 a0.A]) (vs := #[(0, .int .i64 a0.A)]) (fun _ ha => evp1 ha rfl) (fun _ => by kernel_rfl) rfl rfl ?_
    intro b106
    refine St.weak (R := [blk b3 (.cells #[.int .i64 a0.Op, .int .i64 a0.A, .int .i64 a0.B, .int .i64 a0.N, .string (bs a0.Name), .slice pA0_0 a0.Args.length pc0_0, .slice pA0_1 a0.Cases.length pc0_1] 40 (0, 0))]) (c' := rowo (some ⟨b106, 0, none⟩) ([a0.A] : List Int).length 1 3 1 [.int .i64 a0.A]) 0 rfl rfl (fun m hm => rowo_of_row (row_of_blk (k := 1) rfl (by decide) hm)) ?_
    refine St.pick (R := [blk b3 (.cells #[.int .i64 a0.Op, .int .i64 a0.A, .int .i64 a0.B, .int .i64 a0.N, .string (bs a0.Name), .slice pA0_0 a0.Args.length pc0_0, .slice pA0_1 a0.Cases.length pc0_1] 40 (0, 0))]) 0 rfl rfl ?_
    obtain ⟨q108, e109, hm⟩ := bS hm
    refine St.call [blk b3 (.cells #[.int .i64 a0.Op, .int .i64 a0.A, .int .i64 a0.B, .int .i64 a0.N, .string (bs a0.Name), .slice pA0_0 a0.Args.length pc0_0, .slice pA0_1 a0.Cases.length pc0_1] 40 (0, 0))] (CallSp.lend (Hl := [rowo (some ⟨b106, 0, none⟩) ([a0.A] : List Int).length 1 3 1 [.int .i64 a0.A]]) (fun m_ hm_ hd_ h1_ h2_ => (m_code_isNumber_sp (lentR hm_ 0 rfl rfl (show Cat (Kind.int .i64) F6 [.int .i64 a0.A] ([a0.A] : List Int) from ⟨[.int .i64 a0.A], _, rfl, rfl, rfl⟩) (show Bnd 8 ([a0.A] : List Int) from ⟨by simp, by simp⟩) h1_ h2_) e109).mono (fun _ _ _ h_ _ _ => h_))) rfl (fun _ ha => ev1 ha rfl) rfl en29 rfl rfl rfl ?_
    rintro _ F110 _ ⟨_, rfl, rfl, rfl⟩ l111
    refine spt rfl rfl rfl ?_
    refine sas rfl rfl ?_
    refine St.nil ?_
    obtain rfl := sI hm
    intro a w ha hs
    exact ⟨F110, l111, ha.covers ⟨rfl, trivial⟩, (Among.of Among.none _ hs)⟩
   replace hm := iF hm q104
   have hb112 : (z10) = false := eq_false_of_ne_true q104
   try rw [hb112]
   refine smv rfl rfl ?_
   refine smv rfl rfl ?_
   refine su rfl rfl rfl ?_
   refine su rfl rfl rfl ?_
   refine su rfl rfl rfl ?_
   refine su rfl rfl rfl ?_
   refine spf rfl rfl rfl ?_
   refine sas rfl rfl ?_
   refine St.nil ?_
   obtain rfl := sI hm
   intro a w ha hs
   exact ⟨F6, (PH.le_refl _), ha.covers ⟨rfl, trivial⟩, (Among.of Among.none _ hs)⟩
  rintro a w ⟨F101, l102, ha, hs⟩
  replace hm := hk103
  refine St.use (?_ : St _ _ _ _ _ _) ha hs
  clear ha hs a w
  refine St.ret ?_
  refine St.inret ?_
  refine St.thenret ?_
  obtain rfl := sI hm
  exact St.doneR1 rfl rfl ⟨rfl, rfl⟩ (fun w hs => Among.of Among.none w hs)
 intro q113
 replace q113 : ¬ (a0.Op = 4) := of_decide_eq_false q113
 replace hm := iF hm q113
 refine ssr ?_
 refine sv (v := (.bool (decide (a0.Op = 2)))) (Yields.eq rfl rfl) rfl ?_
 refine sas rfl rfl ?_
 refine snn ?_
 refine St.cond_b rfl ?_ ?_
 ·intro q114
  replace q114 : a0.Op = 2 := of_decide_eq_true q114
  replace hm := iT hm q114
  obtain ⟨z115, hm, hk118⟩ := bS hm
  refine St.cutI (fun a w => ∃ (F116 : PH), PH.le F6 F116 ∧ Has Tryz.f32.ntmps a [(2, .bool z115)] ∧ Sat ⟨w0, fun b => m0 b ≠ none, F⟩ F116 [] w) ?_ ?_
  ·skip
   refine St.region ?_
   refine sfa (v := (.pointer (some ⟨b3, 6, none⟩))) rfl (fun _ => by kernel_rfl) rfl ?_
   refine sv (v := (.slice pA0_1 a0.Cases.length pc0_1)) (Yields.load rfl (Loads.H1 0 rfl tc38 rfl)) rfl ?_
   refine sv (v := (.int .i64 ((a0.Cases.length : Nat) : Int))) (Yields.lenSlice tu38 rfl) rfl ?_
   by_cases q119 : ((a0.Cases.length : Nat) : Int) = 0
   ·replace hm := iT hm q119
    refine sv (v := vT) (Yields.is q119 (Yields.eq rfl rfl)) rfl ?_
    refine smv rfl rfl ?_
    refine St.val (v := (.pointer (some ⟨b3, 2, none⟩))) (Yields.fieldAddr (v := (.pointer (some ⟨b3, 2, none⟩))) rfl (fun _ => by kernel_rfl)) rfl rfl rfl ?_
    refine St.val (v := (.int .i64 a0.B)) (Yields.load rfl (Loads.H1 0 rfl tc3 rfl)) rfl rfl rfl ?_
    by_cases q120 : a0.B = 0
    ·replace hm := iT hm q120
     refine St.val (v := vT) (Yields.is q120 (Yields.eq rfl rfl)) rfl rfl rfl ?_
     refine spt rfl rfl rfl ?_
     refine smv rfl rfl ?_
     refine St.val (v := (.agg #[.int .i64 a0.Op, .int .i64 a0.A, .int .i64 a0.B, .int .i64 a0.N, .string (bs a0.Name), .slice pA0_0 a0.Args.length pc0_0, .slice pA0_1 a0.Cases.length pc0_1])) (Yields.load rfl (Loads.Hk (vs := [.int .i64 a0.Op, .int .i64 a0.A, .int .i64 a0.B, .int .i64 a0.N, .string (bs a0.Name), .slice pA0_0 a0.Args.length pc0_0, .slice pA0_1 a0.Cases.length pc0_1]) 0 rfl ta40 rfl rfl)) rfl rfl rfl ?_
     obtain ⟨q121, e122, hm⟩ := bS hm
     refine St.call [blk b3 (.cells #[.int .i64 a0.Op, .int .i64 a0.A, .int .i64 a0.B, .int .i64 a0.N, .string (bs a0.Name), .slice pA0_0 a0.Args.length pc0_0, .slice pA0_1 a0.Cases.length pc0_1] 40 (0, 0))] (m_code_isNodeText_sp (a0 := a0) (Fsl.mono l7 ph0_0) (Fsl.mono l7 ph0_1) e122) rfl (fun _ ha => ev1 ha rfl) rfl en58 rfl rfl rfl ?_
     rintro _ F123 _ ⟨rfl, rfl⟩ l124
     refine spt rfl rfl rfl ?_
     refine sas rfl rfl ?_
     refine St.nil ?_
     obtain rfl := sI hm
     intro a w ha hs
     exact ⟨F123, l124, ha.covers ⟨rfl, trivial⟩, (Among.of Among.none _ hs)⟩
    replace hm := iF hm q120
    refine St.val (v := vF) (Yields.isnt q120 (Yields.eq rfl rfl)) rfl rfl rfl ?_
    refine spt rfl rfl rfl ?_
    refine smv rfl rfl ?_
    refine su rfl rfl rfl ?_
    refine su rfl rfl rfl ?_
    refine spf rfl rfl rfl ?_
    refine sas rfl rfl ?_
    refine St.nil ?_
    obtain rfl := sI hm
    intro a w ha hs
    exact ⟨F6, (PH.le_refl _), ha.covers ⟨rfl, trivial⟩, (Among.of Among.none _ hs)⟩
   replace hm := iF hm q119
   refine sv (v := vF) (Yields.isnt q119 (Yields.eq rfl rfl)) rfl ?_
   refine smv rfl rfl ?_
   refine su rfl rfl rfl ?_
   refine su rfl rfl rfl ?_
   refine su rfl rfl rfl ?_
   refine spf rfl rfl rfl ?_
   refine smv rfl rfl ?_
   refine su rfl rfl rfl ?_
   refine su rfl rfl rfl ?_
   refine spf rfl rfl rfl ?_
   refine sas rfl rfl ?_
   refine St.nil ?_
   obtain rfl := sI hm
   intro a w ha hs
   exact ⟨F6, (PH.le_refl _), ha.covers ⟨rfl, trivial⟩, (Among.of Among.none _ hs)⟩
  rintro a w ⟨F116, l117, ha, hs⟩
  replace hm := hk118
  refine St.use (?_ : St _ _ _ _ _ _) ha hs
  clear ha hs a w
  refine St.ret ?_
  refine St.inret ?_
  refine St.thenret ?_
  obtain rfl := sI hm
  exact St.doneR1 rfl rfl ⟨rfl, rfl⟩ (fun w hs => Among.of Among.none w hs)
 intro q125
 replace q125 : ¬ (a0.Op = 2) := of_decide_eq_false q125
 replace hm := iF hm q125
 refine St.skip ?_
 refine St.innorm ?_
 refine St.norm ?_
 refine ssr ?_
 refine sas rfl rfl ?_
 refine snn ?_
 refine St.ret ?_
 obtain rfl := sI hm
 exact St.doneR1 rfl rfl ⟨rfl, rfl⟩ (fun w hs => Among.of Among.none w hs)
theorem m_code_printed_f1_sp {F : PH} {g : Nat} {a0 : DInstr} {pA0_0 : Option Addr} {pc0_0 : Nat} {pA0_1 : Option Addr} {pc0_1 : Nat} (ph0_0 : Fsl 8 (Kind.int .i64) F pA0_0 pc0_0 a0.Args) (ph0_1 : Fsl 32 KDJump F pA0_1 pc0_1 a0.Cases) {r : Bool} (hm : m_code_printed_f1 g a0 = some r) :
  CallSp Tryz.prog 31 #[.agg #[.int .i64 a0.Op, .int .i64 a0.A, .int .i64 a0.B, .int .i64 a0.N, .string (bs a0.Name), .slice pA0_0 a0.Args.length pc0_0, .slice pA0_1 a0.Cases.length pc0_1]] F [] (fun u F' H' => u = (.bool r) ∧ H' = []) := by

 unfold m_code_printed_f1 at hm
 refine CallSp.enter (args := [.agg #[.int .i64 a0.Op, .int .i64 a0.A, .int .i64 a0.B, .int .i64 a0.N, .string (bs a0.Name), .slice pA0_0 a0.Args.length pc0_0, .slice pA0_1 a0.Cases.length pc0_1]]) Tryz.func31 rfl rfl ?_
 intro w0 m0 hm0
 refine ssr ?_
 refine St.box rfl trivial rfl ?_
 intro b3
 refine sas rfl rfl ?_
 refine snn ?_
 refine ssr ?_
 refine sv (v := (.agg #[.int .i64 a0.Op, .int .i64 a0.A, .int .i64 a0.B, .int .i64 a0.N, .string (bs a0.Name), .slice pA0_0 a0.Args.length pc0_0, .slice pA0_1 a0.Cases.length pc0_1])) (Yields.load rfl (Loads.Hk (vs := [.int .i64 a0.Op, .int .i64 a0.A, .int .i64 a0.B, .int .i64 a0.N, .string (bs a0.Name), .slice pA0_0 a0.Args.length pc0_0, .slice pA0_1 a0.Cases.length pc0_1]) 0 rfl ta40 rfl rfl)) rfl ?_
 obtain ⟨q4, e5, hm⟩ := bS hm
 refine St.call [blk b3 (.cells #[.int .i64 a0.Op, .int .i64 a0.A, .int .i64 a0.B, .int .i64 a0.N, .string (bs a0.Name), .slice pA0_0 a0.Args.length pc0_0, .slice pA0_1 a0.Cases.length pc0_1] 40 (0, 0))] (m_code_isPrinted_sp (a0 := a0) ph0_0 ph0_1 e5) rfl (fun _ ha => ev1 ha rfl) rfl en32 rfl rfl trivial ?_
 rintro _ F6 _ ⟨rfl, rfl⟩ l7
 refine sv (v := (.bool (!q4))) (Yields.not rfl) rfl ?_
 refine sas rfl rfl ?_
 refine snn ?_
 refine St.ret ?_
 obtain rfl := sI hm
 exact St.doneR1 rfl rfl ⟨rfl, rfl⟩ (fun w hs => Among.of Among.none w hs)
theorem m_api_Instr_2_sp {F : PH} {g : Nat} {a0 : List DInstr} {pA0 : Option Addr} {pc0 : Nat} (ph0 : Fsl 96 KDInstr F pA0 pc0 a0) {r : Int} (hm : m_api_Instr_2 g a0 = some r) :
  CallSp Tryz.prog 56 #[.slice pA0 a0.length pc0, .func (.func 31) #[] #[]] F [] (fun u F' H' => u = (.int .i64 r) ∧ H' = []) := by

 unfold m_api_Instr_2 at hm
 refine CallSp.enter (args := [.slice pA0 a0.length pc0, .func (.func 31) #[] #[]]) Tryz.func56 rfl rfl ?_
 intro w0 m0 hm0
 refine ssr ?_
 refine sas rfl rfl ?_
 refine snn ?_
 obtain ⟨o5, hm, ho6⟩ := jS hm
 refine St.cutI (fun a w => ∃ z2 : Unit, o5 = .inl z2 ∧ ∃ (F3 : PH), PH.le F F3 ∧ Has Tryz.f56.ntmps a [] ∧ Sat ⟨w0, fun b => m0 b ≠ none, F⟩ F3 [] w) ?_ ?_
 ·skip
  refine ssr ?_
  refine smv rfl rfl ?_
  refine sv (v := (.int .i64 ((a0.length : Nat) : Int))) (Yields.lenSlice tu34 rfl) rfl ?_
  refine smv rfl rfl ?_
  refine snn ?_
  refine St.block ?_
  refine St.loopM hm (fun s9 a w => ∃ (F13 : PH), PH.le F F13 ∧ Has Tryz.f56.ntmps a [(0, .slice pA0 a0.length pc0), (1, .func (.func 31) #[] #[]), (7, .int .i64 ((a0.length : Nat) : Int)), (8, .int .i64 ((s9 : Nat) : Int))] ∧ Sat ⟨w0, fun b => m0 b ≠ none, F⟩ F13 [] w) ?_ ?_
  ·skip
   intro a w ha hs
   exact ⟨F, (PH.le_refl _), ha.covers ⟨rfl, rfl, rfl, rfl, trivial⟩, (Among.of Among.none _ hs)⟩
  rintro s9 o10 co11 hm ho12 a w ⟨F13, l14, ha, hs⟩
  refine St.use (?_ : St _ _ _ _ _ _) ha hs
  clear ha hs a w
  refine ssr ?_
  refine sv (v := (.bool (decide (((s9 : Nat) : Int) < ((a0.length : Nat) : Int))))) (Yields.lt rfl rfl) rfl ?_
  refine snn ?_
  refine St.seq ?_
  refine St.cond_b rfl ?_ ?_
  ·intro q15
   replace q15 : ((s9 : Nat) : Int) < ((a0.length : Nat) : Int) := of_decide_eq_true q15
   replace hm := iT hm q15
   refine skn ?_
   refine St.seq ?_
   refine St.block ?_
   refine ssr ?_
   refine smv rfl rfl ?_
   refine sas rfl rfl ?_
   refine snn ?_
   refine ssr ?_
   refine smv rfl rfl ?_
   refine smv rfl rfl ?_
   refine smv rfl rfl ?_
   obtain ⟨x16, e17, hm⟩ := bS hm
   obtain ⟨p18, cs19, jx20, R21, k22⟩ := (Fsl.mono l14 ph0).nidx e17
   obtain ⟨A23, c24, A26, c27, rfl, h25, h28⟩ := DInstr.opn R21
   refine sv (v := (.pointer (some p18))) (Yields.idx jx20 ts34 rfl rfl) rfl ?_
   refine sv (v := (.agg #[.int .i64 x16.Op, .int .i64 x16.A, .int .i64 x16.B, .int .i64 x16.N, .string (bs x16.Name), .slice A23 x16.Args.length c24, .slice A26 x16.Cases.length c27])) (Yields.load rfl (Loads.Fatn0 k22 ta40)) rfl ?_
   obtain ⟨q31, e32, hm⟩ := bS hm
   refine St.call [] (m_code_printed_f1_sp (a0 := x16) h25 h28 e32) rfl (fun _ ha => ev1 ha rfl) rfl en31 rfl rfl trivial ?_
   rintro _ F33 _ ⟨rfl, rfl⟩ l34
   refine snn ?_
   refine St.cond_b rfl ?_ ?_
   ·intro q35
    replace q35 : q31 = true := q35
    replace hm := iT hm q35
    refine ssr ?_
    refine smv rfl rfl ?_
    refine sas rfl rfl ?_
    refine snn ?_
    refine St.ret ?_
    refine St.inret ?_
    refine St.thenret ?_
    refine St.thenret ?_
    refine St.inret ?_
    refine St.thenret ?_
    obtain rfl := sI hm
    obtain rfl := aR ho12
    obtain rfl := aR ho6
    exact St.doneR1 rfl rfl ⟨rfl, rfl⟩ (fun w hs => Among.of Among.none w hs)
   intro q36
   replace q36 : ¬ (q31 = true) := bf q36
   replace hm := iF hm q36
   refine St.skip ?_
   refine St.innorm ?_
   refine St.norm ?_
   refine St.region ?_
   refine sv (v := (.int .i64 ((s9 + 1 : Nat) : Int))) (Yields.addn (j := 1) rfl rfl rfl (by have q_0 := q15; have q_1 := ph0.bnd.2; omega)) rfl ?_
   refine smv rfl rfl ?_
   refine snn ?_
   obtain rfl := sI hm
   intro a w ha hs
   exact ⟨s9 + 1, aL ho12, F33, (PH.le_trans l14 l34), ha.covers ⟨rfl, rfl, rfl, rfl, trivial⟩, (Among.of Among.none _ hs)⟩
  intro q37
  replace q37 : ¬ (((s9 : Nat) : Int) < ((a0.length : Nat) : Int)) := of_decide_eq_false q37
  replace hm := iF hm q37
  refine St.exit ?_
  refine St.thenexit ?_
  refine St.thenexit ?_
  refine St.inexit ?_
  obtain rfl := sI hm
  obtain rfl := aR ho12
  intro a w ha hs
  exact ⟨(), rfl, F13, l14, ha.covers trivial, (Among.of Among.none _ hs)⟩
 rintro a w ⟨z2, rfl, F3, l4, ha, hs⟩
 replace hm := aL ho6
 refine St.use (?_ : St _ _ _ _ _ _) ha hs
 clear ha hs a w
 refine ssr ?_
 refine sas rfl rfl ?_
 refine snn ?_
 refine St.ret ?_
 obtain rfl := sI hm
 exact St.doneR1 rfl rfl ⟨rfl, rfl⟩ (fun w hs => Among.of Among.none w hs)
theorem m_api_Instr_sp {F : PH} {g : Nat} {a0 : List DInstr} {pA0 : Option Addr} {pc0 : Nat} (ph0 : Fsl 96 KDInstr F pA0 pc0 a0) {r : Bool} (hm : m_api_Instr g a0 = some r) :
  CallSp Tryz.prog 30 #[.slice pA0 a0.length pc0, .func (.func 31) #[] #[]] F [] (fun u F' H' => u = (.bool r) ∧ H' = []) := by

 unfold m_api_Instr at hm
 refine CallSp.enter (args := [.slice pA0 a0.length pc0, .func (.func 31) #[] #[]]) Tryz.func30 rfl rfl ?_
 intro w0 m0 hm0
 refine ssr ?_
 refine sas rfl rfl ?_
 refine snn ?_
 refine ssr ?_
 refine smv rfl rfl ?_
 refine smv rfl rfl ?_
 obtain ⟨q2, e3, hm⟩ := bS hm
 refine St.call [] (m_api_Instr_2_sp ph0 e3) rfl (fun _ ha => ev2 ha rfl rfl) rfl en56 rfl rfl trivial ?_
 rintro _ F4 _ ⟨rfl, rfl⟩ l5
 refine sv (v := (.bool (decide (q2 ≥ 0)))) (Yields.ge rfl rfl) rfl ?_
 refine sas rfl rfl ?_
 refine snn ?_
 refine St.ret ?_
 obtain rfl := sI hm
 exact St.doneR1 rfl rfl ⟨rfl, rfl⟩ (fun w hs => Among.of Among.none w hs)
theorem m_code_printed_sp {F : PH} {g : Nat} {a0 : List DCode} {pA0 : Option Addr} {pc0 : Nat} (ph0 : Fsl 48 KDCode F pA0 pc0 a0) {r : Int} (hm : m_code_printed g a0 = some r) :
  CallSp Tryz.prog 13 #[.slice pA0 a0.length pc0] F [] (fun u F' H' => u = (.int .i64 r) ∧ H' = []) := by

 unfold m_code_printed at hm
 refine CallSp.enter (args := [.slice pA0 a0.length pc0]) Tryz.func13 rfl rfl ?_
 intro w0 m0 hm0
 refine ssr ?_
 refine sas rfl rfl ?_
 refine snn ?_
 refine St.seq ?_
 refine ssr ?_
 refine smv rfl rfl ?_
 obtain ⟨q2, e3, hm⟩ := bS hm
 refine St.call [] (m_code_large_sp ph0 e3) rfl (fun _ ha => ev1 ha rfl) rfl en27 rfl rfl trivial ?_
 rintro _ F4 _ ⟨rfl, rfl⟩ l5
 refine snn ?_
 refine St.cond_b rfl ?_ ?_
 ·intro q6
  replace q6 : q2 = true := q6
  replace hm := iT hm q6
  refine ssr ?_
  refine sas rfl rfl ?_
  refine snn ?_
  refine St.ret ?_
  refine St.thenret ?_
  obtain rfl := sI hm
  exact St.doneR1 rfl rfl ⟨rfl, rfl⟩ (fun w hs => Among.of Among.none w hs)
 intro q7
 replace q7 : ¬ (q2 = true) := bf q7
 replace hm := iF hm q7
 refine skn ?_
 obtain ⟨o11, hm, ho12⟩ := jS hm
 refine St.cutI (fun a w => ∃ z8 : Unit, o11 = .inl z8 ∧ ∃ (F9 : PH), PH.le F4 F9 ∧ Has Tryz.f13.ntmps a [] ∧ Sat ⟨w0, fun b => m0 b ≠ none, F⟩ F9 [] w) ?_ ?_
 ·skip
  refine ssr ?_
  refine smv rfl rfl ?_
  refine sv (v := (.int .i64 ((a0.length : Nat) : Int))) (Yields.lenSlice tu22 rfl) rfl ?_
  refine smv rfl rfl ?_
  refine snn ?_
  refine St.block ?_
  refine St.loopM hm (fun s15 a w => ∃ (F19 : PH), PH.le F4 F19 ∧ Has Tryz.f13.ntmps a [(7, .slice pA0 a0.length pc0), (8, .int .i64 ((a0.length : Nat) : Int)), (9, .int .i64 ((s15 : Nat) : Int))] ∧ Sat ⟨w0, fun b => m0 b ≠ none, F⟩ F19 [] w) ?_ ?_
  ·skip
   intro a w ha hs
   exact ⟨F4, (PH.le_refl _), ha.covers ⟨rfl, rfl, rfl, trivial⟩, (Among.of Among.none _ hs)⟩
  rintro s15 o16 co17 hm ho18 a w ⟨F19, l20, ha, hs⟩
  refine St.use (?_ : St _ _ _ _ _ _) ha hs
  clear ha hs a w
  refine ssr ?_
  refine sv (v := (.bool (decide (((s15 : Nat) : Int) < ((a0.length : Nat) : Int))))) (Yields.lt rfl rfl) rfl ?_
  refine snn ?_
  refine St.seq ?_
  refine St.cond_b rfl ?_ ?_
  ·intro q21
   replace q21 : ((s15 : Nat) : Int) < ((a0.length : Nat) : Int) := of_decide_eq_true q21
   replace hm := iT hm q21
   refine skn ?_
   refine St.seq ?_
   refine St.block ?_
   refine ssr ?_
   obtain ⟨x22, e23, hm⟩ := bS hm
   obtain ⟨p24, cs25, jx26, R27, k28⟩ := (Fsl.mono (PH.le_trans l5 l20) ph0).nidx e23
   obtain ⟨A29, c30, rfl, h31⟩ := DCode.opn R27
   refine sv (v := (.pointer (some p24))) (Yields.idx jx26 ts22 rfl rfl) rfl ?_
   refine sv (v := (.agg #[.string (bs x22.Name), .int .i64 x22.Arity, .slice A29 x22.L.length c30])) (Yields.load rfl (Loads.Fatn0 k28 ta36)) rfl ?_
   refine St.alloc tz36 trivial rfl ?_
   intro b33
   refine St.storen (R := []) rfl rfl 0 rfl rfl ta36 rfl rfl rfl trivial (cs' := #[.string (bs x22.Name), .int .i64 x22.Arity, .slice A29 x22.L.length c30]) rfl ?_
   refine snn ?_
   obtain ⟨z34, hm, hk37⟩ := bS hm
   refine St.cutI (fun a w => ∃ (F35 : PH), PH.le F19 F35 ∧ Has Tryz.f13.ntmps a [(7, .slice pA0 a0.length pc0), (8, .int .i64 ((a0.length : Nat) : Int)), (9, .int .i64 ((s15 : Nat) : Int)), (28, .bool z34)] ∧ Sat ⟨w0, fun b => m0 b ≠ none, F⟩ F35 [] w) ?_ ?_
   ·skip
    refine St.region ?_
    refine sfa (v := (.pointer (some ⟨b33, 0, none⟩))) rfl (fun _ => by kernel_rfl) rfl ?_
    refine sv (v := (.string (bs x22.Name))) (Yields.load rfl (Loads.H1 0 rfl tc9 rfl)) rfl ?_
    obtain ⟨q38, e39, hm⟩ := bS hm
    refine St.call [blk b33 (.cells #[.string (bs x22.Name), .int .i64 x22.Arity, .slice A29 x22.L.length c30] 36 (0, 0))] (m_code_isName_sp e39) rfl (fun _ ha => ev2 ha rfl rfl) rfl en28 rfl rfl trivial ?_
    rintro _ F40 _ ⟨rfl, rfl⟩ l41
    by_cases q42 : q38 = true
    ·replace hm := iT hm q42
     have hb43 : (q38) = true := q42
     try rw [hb43]
     refine sv (v := vF) (Yields.not_t rfl) rfl ?_
     refine smv rfl rfl ?_
     refine St.val (v := (.pointer (some ⟨b33, 1, none⟩))) (Yields.fieldAddr (v := (.pointer (some ⟨b33, 1, none⟩))) rfl (fun _ => by kernel_rfl)) rfl rfl rfl ?_
     refine St.val (v := (.int .i64 x22.Arity)) (Yields.load rfl (Loads.H1 0 rfl tc3 rfl)) rfl rfl rfl ?_
     refine St.buildSlice (e := 3) (cells := #[.int .i64 x22.Arity]) (vs := #[(0, .int .i64 x22.Arity)]) (fun _ ha => evp1 ha rfl) (fun _ => by kernel_rfl) rfl rfl ?_
     intro b44
     refine St.weak (R := [blk b33 (.cells #[.string (bs x22.Name), .int .i64 x22.Arity, .slice A29 x22.L.length c30] 36 (0, 0))]) (c' := rowo (some ⟨b44, 0, none⟩) ([x22.Arity] : List Int).length 1 3 1 [.int .i64 x22.Arity]) 0 rfl rfl (fun m hm => rowo_of_row (row_of_blk (k := 1) rfl (by decide) hm)) ?_
     refine St.pick (R := [blk b33 (.cells #[.string (bs x22.Name), .int .i64 x22.Arity, .slice A29 x22.L.length c30] 36 (0, 0))]) 0 rfl rfl ?_
     obtain ⟨q46, e47, hm⟩ := bS hm
     refine St.call [blk b33 (.cells #[.string (bs x22.Name), .int .i64 x22.Arity, .slice A29 x22.L.length c30] 36 (0, 0))] (CallSp.lend (Hl := [rowo (some ⟨b44, 0, none⟩) ([x22.Arity] : List Int).length 1 3 1 [.int .i64 x22.Arity]]) (fun m_ hm_ hd_ h1_ h2_ => (m_code_isNumber_sp (lentR hm_ 0 rfl rfl (show Cat (Kind.int .i64) F40 [.int .i64 x22.Arity] ([x22.Arity] : List Int) from ⟨[.int .i64 x22.Arity], _, rfl, rfl, rfl⟩) (show Bnd 8 ([x22.Arity] : List Int) from ⟨by simp, by simp⟩) h1_ h2_) e47).mono (fun _ _ _ h_ _ _ => h_))) rfl (fun _ ha => ev1 ha rfl) rfl en29 rfl rfl rfl ?_
     rintro _ F48 _ ⟨_, rfl, rfl, rfl⟩ l49
     by_cases q50 : q46 = true
     ·replace hm := iT hm q50
      have hb51 : (q46) = true := q50
      try rw [hb51]
      refine St.val (v := vF) (Yields.not_t rfl) rfl rfl rfl ?_
      refine spf rfl rfl rfl ?_
      refine smv rfl rfl ?_
      refine St.val (v := (.pointer (some ⟨b33, 2, none⟩))) (Yields.fieldAddr (v := (.pointer (some ⟨b33, 2, none⟩))) rfl (fun _ => by kernel_rfl)) rfl rfl rfl ?_
      refine St.val (v := (.slice A29 x22.L.length c30)) (Yields.load rfl (Loads.H1 1 rfl tc34 rfl)) rfl rfl rfl ?_
      obtain ⟨q52, e53, hm⟩ := bS hm
      refine St.call [rowo (some ⟨b44, 0, none⟩) ([x22.Arity] : List Int).length 1 3 1 [.int .i64 x22.Arity], blk b33 (.cells #[.string (bs x22.Name), .int .i64 x22.Arity, .slice A29 x22.L.length c30] 36 (0, 0))] (m_api_Instr_sp (Fsl.mono (PH.le_trans l41 l49) h31) e53) rfl (fun _ ha => ev2 ha rfl rfl) rfl en30 rfl rfl rfl ?_
      rintro _ F54 _ ⟨rfl, rfl⟩ l55
      refine spf rfl rfl rfl ?_
      refine St.nil ?_
      obtain rfl := sI hm
      intro a w ha hs
      exact ⟨F54, (PH.le_trans l41 (PH.le_trans l49 l55)), ha.covers ⟨rfl, rfl, rfl, rfl, trivial⟩, (Among.of Among.none _ hs)⟩
     replace hm := iF hm q50
     have hb56 : (q46) = false := eq_false_of_ne_true q50
     try rw [hb56]
     refine St.val (v := vT) (Yields.not_f rfl) rfl rfl rfl ?_
     refine spf rfl rfl rfl ?_
     refine smv rfl rfl ?_
     refine su rfl rfl rfl ?_
     refine su rfl rfl rfl ?_
     refine su rfl rfl rfl ?_
     refine spt rfl rfl rfl ?_
     refine St.nil ?_
     obtain rfl := sI hm
     intro a w ha hs
     exact ⟨F48, (PH.le_trans l41 l49), ha.covers ⟨rfl, rfl, rfl, rfl, trivial⟩, (Among.of Among.none _ hs)⟩
    replace hm := iF hm q42
    have hb57 : (q38) = false := eq_false_of_ne_true q42
    try rw [hb57]
    refine sv (v := vT) (Yields.not_f rfl) rfl ?_
    refine smv rfl rfl ?_
    refine su rfl rfl rfl ?_
    refine su rfl rfl rfl ?_
    refine su rfl rfl rfl ?_
    refine su rfl rfl rfl ?_
    refine su rfl rfl rfl ?_
    refine spt rfl rfl rfl ?_
    refine smv rfl rfl ?_
    refine su rfl rfl rfl ?_
    refine su rfl rfl rfl ?_
    refine su rfl rfl rfl ?_
    refine spt rfl rfl rfl ?_
    refine St.nil ?_
    obtain rfl := sI hm
    intro a w ha hs
    exact ⟨F40, l41, ha.covers ⟨rfl, rfl, rfl, rfl, trivial⟩, (Among.of Among.none _ hs)⟩
   rintro a w ⟨F35, l36, ha, hs⟩
   replace hm := hk37
   refine St.use (?_ : St _ _ _ _ _ _) ha hs
   clear ha hs a w
   refine St.cond_b rfl ?_ ?_
   ·intro q58
    replace q58 : z34 = true := q58
    replace hm := iT hm q58
    refine ssr ?_
    refine sas rfl rfl ?_
    refine snn ?_
    refine St.ret ?_
    refine St.inret ?_
    refine St.thenret ?_
    refine St.thenret ?_
    refine St.inret ?_
    refine St.thenret ?_
    obtain rfl := sI hm
    obtain rfl := aR ho18
    obtain rfl := aR ho12
    exact St.doneR1 rfl rfl ⟨rfl, rfl⟩ (fun w hs => Among.of Among.none w hs)
   intro q59
   replace q59 : ¬ (z34 = true) := bf q59
   replace hm := iF hm q59
   refine St.skip ?_
   refine St.innorm ?_
   refine St.norm ?_
   refine St.region ?_
   refine sv (v := (.int .i64 ((s15 + 1 : Nat) : Int))) (Yields.addn (j := 1) rfl rfl rfl (by have q_0 := q21; have q_1 := ph0.bnd.2; omega)) rfl ?_
   refine smv rfl rfl ?_
   refine snn ?_
   obtain rfl := sI hm
   intro a w ha hs
   exact ⟨s15 + 1, aL ho18, F35, (PH.le_trans l20 l36), ha.covers ⟨rfl, rfl, rfl, trivial⟩, (Among.of Among.none _ hs)⟩
  intro q60
  replace q60 : ¬ (((s15 : Nat) : Int) < ((a0.length : Nat) : Int)) := of_decide_eq_false q60
  replace hm := iF hm q60
  refine St.exit ?_
  refine St.thenexit ?_
  refine St.thenexit ?_
  refine St.inexit ?_
  obtain rfl := sI hm
  obtain rfl := aR ho18
  intro a w ha hs
  exact ⟨(), rfl, F19, l20, ha.covers trivial, (Among.of Among.none _ hs)⟩
 rintro a w ⟨z8, rfl, F9, l10, ha, hs⟩
 replace hm := aL ho12
 refine St.use (?_ : St _ _ _ _ _ _) ha hs
 clear ha hs a w
 refine ssr ?_
 refine sas rfl rfl ?_
 refine snn ?_
 refine St.ret ?_
 obtain rfl := sI hm
 exact St.doneR1 rfl rfl ⟨rfl, rfl⟩ (fun w hs => Among.of Among.none w hs)
theorem m_code_Parse_sp {F : PH} {g : Nat} {a0 : List UInt8} {r : List DCode × Int × Int} (hm : m_code_Parse g a0 = some r) :
  CallSp Tryz.prog 4 #[.string (bs a0)] F [] (fun u F' H' => ∃ (B0 : Option Addr) (d0 : Nat), u = (.tuple #[.slice B0 r.1.length d0, .int .i64 r.2.1, .int .i64 r.2.2]) ∧ Fsl 48 KDCode F' B0 d0 r.1 ∧ H' = []) := by

 unfold m_code_Parse at hm
 refine CallSp.enter (args := [.string (bs a0)]) Tryz.func4 rfl rfl ?_
 intro w0 m0 hm0
 refine ssr ?_
 refine sas rfl rfl ?_
 refine sas rfl rfl ?_
 refine sas rfl rfl ?_
 refine snn ?_
 refine St.seq ?_
 refine ssr ?_
 refine smv rfl rfl ?_
 refine sv (v := (.int .i64 ((a0.length : Nat) : Int))) (Yields.lenStr tu9 rfl) rfl ?_
 refine sv (v := (.bool (decide (((a0.length : Nat) : Int) > 20000)))) (Yields.gt rfl rfl) rfl ?_
 refine snn ?_
 refine St.cond_b rfl ?_ ?_
 ·intro q1
  replace q1 : ((a0.length : Nat) : Int) > 20000 := of_decide_eq_true q1
  replace hm := iT hm q1
  refine ssr ?_
  refine sas rfl rfl ?_
  refine sas rfl rfl ?_
  refine sas rfl rfl ?_
  refine snn ?_
  refine St.ret ?_
  refine St.thenret ?_
  obtain rfl := sI hm
  exact St.doneR3 rfl rfl rfl rfl ⟨none, 0, rfl, Fsl.nil, rfl⟩ (fun w hs => Among.of Among.none w hs)
 intro q2
 replace q2 : ¬ (((a0.length : Nat) : Int) > 20000) := of_decide_eq_false q2
 replace hm := iF hm q2
 refine skn ?_
 refine ssr ?_
 refine sas rfl rfl ?_
 refine snn ?_
 refine St.seq ?_
 refine ssr ?_
 refine smv rfl rfl ?_
 refine sv (v := (.bool (decide (a0 = ([] : List UInt8))))) (Yields.eqStr rfl rfl) rfl ?_
 refine snn ?_
 refine St.cond_b rfl ?_ ?_
 ·intro q3
  replace q3 : a0 = ([] : List UInt8) := of_decide_eq_true q3
  replace hm := iT hm q3
  refine ssr ?_
  refine sas rfl rfl ?_
  refine sas rfl rfl ?_
  refine sas rfl rfl ?_
  refine snn ?_
  refine St.ret ?_
  refine St.thenret ?_
  obtain rfl := sI hm
  exact St.doneR3 rfl rfl rfl rfl ⟨none, 0, rfl, Fsl.nil, rfl⟩ (fun w hs => Among.of Among.none w hs)
 intro q4
 replace q4 : ¬ (a0 = ([] : List UInt8)) := of_decide_eq_false q4
 replace hm := iF hm q4
 refine skn ?_
 obtain ⟨o19, hm, ho20⟩ := jS hm
 refine St.cutI (fun a w => ∃ z5 : List DCode, o19 = .inl z5 ∧ ∃ (A9 : Option Addr) (c10 : Nat) (cells12 : List Value) (A15 : Option Addr) (c16 : Nat) (cells17 : List Value) (F6 : PH), PH.le F F6 ∧ Nest KDCode KDInstr hd_DCode DCode.L F6 cells12 A15 c16 cells17 z5 ∧ Bnd 48 z5 ∧ Bnd 96 (Mir.lastL DCode.L z5) ∧ Has Tryz.f4.ntmps a [(5, .slice A9 z5.length c10)] ∧ Sat ⟨w0, fun b => m0 b ≠ none, F⟩ F6 [rowo A15 (Mir.lastL DCode.L z5).length c16 40 7 cells17, rowo A9 z5.length c10 36 3 cells12] w) ?_ ?_
 ·skip
  refine ssr ?_
  refine smv rfl rfl ?_
  obtain ⟨q21, e22, hm⟩ := bS hm
  refine St.call [] (m_strings_TrimSuffix_sp e22) rfl (fun _ ha => ev2 ha rfl rfl) rfl en9 rfl rfl trivial ?_
  rintro _ F23 _ ⟨rfl, rfl⟩ l24
  obtain ⟨q25, e26, hm⟩ := bS hm
  refine St.call [] (m_strings_Split_sp e26) rfl (fun _ ha => ev2 ha rfl rfl) rfl en8 rfl rfl trivial ?_
  rintro _ F27 _ ⟨A29, c30, rfl, h31, rfl⟩ l28
  refine sv (v := (.int .i64 ((q25.length : Nat) : Int))) (Yields.lenSlice tu29 rfl) rfl ?_
  refine smv rfl rfl ?_
  refine snn ?_
  refine St.block ?_
  refine St.loopM hm (fun s47 a w => ∃ (A52 : Option Addr) (c53 : Nat) (cells55 : List Value) (A58 : Option Addr) (c59 : Nat) (cells60 : List Value) (F62 : PH), PH.le F27 F62 ∧ Nest KDCode KDInstr hd_DCode DCode.L F62 cells55 A58 c59 cells60 s47.1 ∧ Bnd 48 s47.1 ∧ Bnd 96 (Mir.lastL DCode.L s47.1) ∧ Has Tryz.f4.ntmps a [(5, .slice A52 s47.1.length c53), (21, .slice A29 q25.length c30), (22, .int .i64 ((q25.length : Nat) : Int)), (23, .int .i64 ((s47.2 : Nat) : Int))] ∧ Sat ⟨w0, fun b => m0 b ≠ none, F⟩ F62 [rowo A52 s47.1.length c53 36 3 cells55, rowo A58 (Mir.lastL DCode.L s47.1).length c59 40 7 cells60] w) ?_ ?_
  ·skip
   refine St.rowo_new 36 3 ?_
   refine St.rowo_new 40 7 ?_
   intro a w ha hs
   exact ⟨none, 0, [], none, 0, [], F27, (PH.le_refl _), (Nest.nil : Nest KDCode KDInstr hd_DCode DCode.L F27 [] none 0 [] []), Bnd.of_nil, Bnd.of_nil, ha.covers ⟨rfl, rfl, rfl, rfl, trivial⟩, (Among.of (Among.take 1 rfl rfl (Among.take 0 rfl rfl Among.none)) _ hs)⟩
  rintro s47 o48 co49 hm ho50 a w ⟨A52, c53, cells55, A58, c59, cells60, F62, l63, h54, b56, b61, ha, hs⟩
  refine St.use (?_ : St _ _ _ _ _ _) ha hs
  clear ha hs a w
  refine ssr ?_
  refine sv (v := (.bool (decide (((s47.2 : Nat) : Int) < ((q25.length : Nat) : Int))))) (Yields.lt rfl rfl) rfl ?_
  refine snn ?_
  refine St.seq ?_
  refine St.cond_b rfl ?_ ?_
  ·intro q66
   replace q66 : ((s47.2 : Nat) : Int) < ((q25.length : Nat) : Int) := of_decide_eq_true q66
   replace hm := iT hm q66
   refine skn ?_
   obtain ⟨o81, hm, ho82⟩ := jS hm
   refine St.cutI (fun a w => ∃ z67 : List DCode, o81 = .inl z67 ∧ ∃ (A71 : Option Addr) (c72 : Nat) (cells74 : List Value) (A77 : Option Addr) (c78 : Nat) (cells79 : List Value) (F68 : PH), PH.le F62 F68 ∧ Nest KDCode KDInstr hd_DCode DCode.L F68 cells74 A77 c78 cells79 z67 ∧ Bnd 48 z67 ∧ Bnd 96 (Mir.lastL DCode.L z67) ∧ Has Tryz.f4.ntmps a [(5, .slice A71 z67.length c72), (21, .slice A29 q25.length c30), (22, .int .i64 ((q25.length : Nat) : Int)), (23, .int .i64 ((s47.2 : Nat) : Int))] ∧ Sat ⟨w0, fun b => m0 b ≠ none, F⟩ F68 [rowo A71 z67.length c72 36 3 cells74, rowo A77 (Mir.lastL DCode.L z67).length c78 40 7 cells79] w) ?_ ?_
   ·skip
    refine St.block ?_
    refine ssr ?_
    refine smv rfl rfl ?_
    obtain ⟨x83, e84, hm⟩ := bS hm
    obtain ⟨p85, cs86, jx87, R88, k89⟩ := (Fsl.mono l63 h31).nidx e84
    obtain rfl := R88
    refine sv (v := (.pointer (some p85))) (Yields.idx jx87 ts29 rfl rfl) rfl ?_
    refine sv (v := (.string (bs x83))) (Yields.load rfl (Loads.Fat k89 tc9 rfl)) rfl ?_
    refine sas rfl rfl ?_
    refine sas rfl rfl ?_
    refine snn ?_
    refine ssr ?_
    refine smv rfl rfl ?_
    obtain ⟨q90, e91, hm⟩ := bS hm
    refine St.call [rowo A52 s47.1.length c53 36 3 cells55, rowo A58 (Mir.lastL DCode.L s47.1).length c59 40 7 cells60] (m_strings_Split_sp e91) rfl (fun _ ha => ev2 ha rfl rfl) rfl en8 rfl rfl trivial ?_
    rintro _ F92 _ ⟨A94, c95, rfl, h96, rfl⟩ l93
    refine sas rfl rfl ?_
    refine snn ?_
    refine St.seq ?_
    refine ssr ?_
    refine smv rfl rfl ?_
    obtain ⟨x98, e99, hm⟩ := bS hm
    replace e99 := nlit e99
    obtain ⟨p100, cs101, jx102, R103, k104⟩ := h96.idx e99
    obtain rfl := R103
    refine sv (v := (.pointer (some p100))) (Yields.idx jx102 ts29 rfl rfl) rfl ?_
    refine sv (v := (.string (bs x98))) (Yields.load rfl (Loads.Fat k104 tc9 rfl)) rfl ?_
    refine sv (v := (.bool (decide (x98 = ([99, 111, 100, 101] : List UInt8))))) (Yields.eqStr rfl rfl) rfl ?_
    refine snn ?_
    refine St.cond_b rfl ?_ ?_
    ·intro q105
     replace q105 : x98 = ([99, 111, 100, 101] : List UInt8) := of_decide_eq_true q105
     replace hm := iT hm q105
     refine St.seq ?_
     obtain ⟨z106, hm, hk109⟩ := bS hm
     refine St.cutI (fun a w => ∃ (F107 : PH), PH.le F92 F107 ∧ Has Tryz.f4.ntmps a [(5, .slice A52 s47.1.length c53), (6, .int .i64 ((s47.2 : Nat) : Int)), (8, .slice A94 q90.length c95), (21, .slice A29 q25.length c30), (22, .int .i64 ((q25.length : Nat) : Int)), (23, .int .i64 ((s47.2 : Nat) : Int)), (43, .bool z106)] ∧ Sat ⟨w0, fun b => m0 b ≠ none, F⟩ F107 [rowo A52 s47.1.length c53 36 3 cells55, rowo A58 (Mir.lastL DCode.L s47.1).length c59 40 7 cells60] w) ?_ ?_
     ·skip
      refine St.region ?_
      refine smv rfl rfl ?_
      refine sv (v := (.int .i64 ((q90.length : Nat) : Int))) (Yields.lenSlice tu29 rfl) rfl ?_
      by_cases q110 : ((q90.length : Nat) : Int) = 3
      ·replace hm := iT hm q110
       refine sv (v := vF) (Yields.nis q110 (Yields.ne rfl rfl)) rfl ?_
       refine smv rfl rfl ?_
       refine St.val (v := (.slice A94 q90.length c95)) (Yields.move rfl) rfl rfl rfl ?_
       obtain ⟨x111, e112, hm⟩ := bS hm
       replace e112 := nlit e112
       obtain ⟨p113, cs114, jx115, R116, k117⟩ := h96.idx e112
       obtain rfl := R116
       refine St.val (v := (.pointer (some p113))) (Yields.idx jx115 ts29 rfl rfl) rfl rfl rfl ?_
       refine St.val (v := (.string (bs x111))) (Yields.load rfl (Loads.Fat k117 tc9 rfl)) rfl rfl rfl ?_
       obtain ⟨q118, e119, hm⟩ := bS hm
       refine St.call [rowo A52 s47.1.length c53 36 3 cells55, rowo A58 (Mir.lastL DCode.L s47.1).length c59 40 7 cells60] (m_code_isWord_sp e119) rfl (fun _ ha => ev1 ha rfl) rfl en10 rfl rfl rfl ?_
       rintro _ F120 _ ⟨rfl, rfl⟩ l121
       refine St.val (v := (.bool (!q118))) (Yields.not rfl) rfl rfl rfl ?_
       refine spf rfl rfl rfl ?_
       refine St.nil ?_
       obtain rfl := sI hm
       intro a w ha hs
       exact ⟨F120, l121, ha.covers ⟨rfl, rfl, rfl, rfl, rfl, rfl, rfl, trivial⟩, (Among.of (Among.take 0 rfl rfl (Among.take 0 rfl rfl Among.none)) _ hs)⟩
      replace hm := iF hm q110
      refine sv (v := vT) (Yields.nisnt q110 (Yields.ne rfl rfl)) rfl ?_
      refine smv rfl rfl ?_
      refine su rfl rfl rfl ?_
      refine su rfl rfl rfl ?_
      refine su rfl rfl rfl ?_
      refine su rfl rfl rfl ?_
      refine su rfl rfl rfl ?_
      refine spt rfl rfl rfl ?_
      refine St.nil ?_
      obtain rfl := sI hm
      intro a w ha hs
      exact ⟨F92, (PH.le_refl _), ha.covers ⟨rfl, rfl, rfl, rfl, rfl, rfl, rfl, trivial⟩, (Among.of (Among.take 0 rfl rfl (Among.take 0 rfl rfl Among.none)) _ hs)⟩
     rintro a w ⟨F107, l108, ha, hs⟩
     replace hm := hk109
     refine St.use (?_ : St _ _ _ _ _ _) ha hs
     clear ha hs a w
     refine St.cond_b rfl ?_ ?_
     ·intro q122
      replace q122 : z106 = true := q122
      replace hm := iT hm q122
      refine ssr ?_
      refine smv rfl rfl ?_
      refine sv (v := (.int .i64 ((s47.2 + 1 : Nat) : Int))) (Yields.addn (j := 1) rfl rfl rfl (by have q_0 := q66; have q_1 := h31.bnd.2; omega)) rfl ?_
      refine sas rfl rfl ?_
      refine sas rfl rfl ?_
      refine sas rfl rfl ?_
      refine snn ?_
      refine St.ret ?_
      refine St.thenret ?_
      refine St.thenret ?_
      refine St.inret ?_
      refine St.thenret ?_
      refine St.thenret ?_
      refine St.inret ?_
      refine St.thenret ?_
      obtain rfl := sI hm
      obtain rfl := aR ho82
      obtain rfl := aR ho50
      obtain rfl := aR ho20
      exact St.doneR3 rfl rfl rfl rfl ⟨none, 0, rfl, Fsl.nil, rfl⟩ (fun w hs => Among.of Among.none w hs)
     intro q123
     replace q123 : ¬ (z106 = true) := bf q123
     replace hm := iF hm q123
     refine skn ?_
     refine ssr ?_
     refine smv rfl rfl ?_
     obtain ⟨x124, e125, hm⟩ := bS hm
     replace e125 := nlit e125
     obtain ⟨p126, cs127, jx128, R129, k130⟩ := (Fsl.mono l108 h96).idx e125
     obtain rfl := R129
     refine sv (v := (.pointer (some p126))) (Yields.idx jx128 ts29 rfl rfl) rfl ?_
     refine sv (v := (.string (bs x124))) (Yields.load rfl (Loads.Fat k130 tc9 rfl)) rfl ?_
     obtain ⟨q131, e132, hm⟩ := bS hm
     refine St.call [rowo A52 s47.1.length c53 36 3 cells55, rowo A58 (Mir.lastL DCode.L s47.1).length c59 40 7 cells60] (m_code_number_sp e132) rfl (fun _ ha => ev2 ha rfl rfl) rfl en11 rfl rfl trivial ?_
     rintro _ F133 _ ⟨rfl, rfl⟩ l134
     refine smv rfl rfl ?_
     refine sv (v := (.int .i64 q131.1)) (Yields.extract rfl rfl) rfl ?_
     refine sv (v := (.bool q131.2)) (Yields.extract rfl rfl) rfl ?_
     refine sas rfl rfl ?_
     refine sas rfl rfl ?_
     refine snn ?_
     refine St.seq ?_
     refine ssr ?_
     refine smv rfl rfl ?_
     refine sv (v := (.bool (!q131.2))) (Yields.not rfl) rfl ?_
     refine snn ?_
     refine St.cond_b rfl ?_ ?_
     ·intro q135
      replace q135 : ¬ (q131.2 = true) := nb_t q135
      replace hm := iF hm q135
      refine ssr ?_
      refine smv rfl rfl ?_
      refine sv (v := (.int .i64 ((s47.2 + 1 : Nat) : Int))) (Yields.addn (j := 1) rfl rfl rfl (by have q_0 := q66; have q_1 := h31.bnd.2; omega)) rfl ?_
      refine sas rfl rfl ?_
      refine sas rfl rfl ?_
      refine sas rfl rfl ?_
      refine snn ?_
      refine St.ret ?_
      refine St.thenret ?_
      refine St.thenret ?_
      refine St.inret ?_
      refine St.thenret ?_
      refine St.thenret ?_
      refine St.inret ?_
      refine St.thenret ?_
      obtain rfl := sI hm
      obtain rfl := aR ho82
      obtain rfl := aR ho50
      obtain rfl := aR ho20
      exact St.doneR3 rfl rfl rfl rfl ⟨none, 0, rfl, Fsl.nil, rfl⟩ (fun w hs => Among.of Among.none w hs)
     intro q136
     replace q136 : q131.2 = true := nb_f q136
     replace hm := iT hm q136
     refine skn ?_
     refine ssr ?_
     refine smv rfl rfl ?_
     refine smv rfl rfl ?_
     obtain ⟨x137, e138, hm⟩ := bS hm
     replace e138 := nlit e138
     obtain ⟨p139, cs140, jx141, R142, k143⟩ := (Fsl.mono (PH.le_trans l108 l134) h96).idx e138
     obtain rfl := R142
     refine sv (v := (.pointer (some p139))) (Yields.idx jx141 ts29 rfl rfl) rfl ?_
     refine sv (v := (.string (bs x137))) (Yields.load rfl (Loads.Fat k143 tc9 rfl)) rfl ?_
     refine smv rfl rfl ?_
     refine sv (v := (.agg #[.string (bs x137), .int .i64 q131.1, .slice none 0 0])) (Yields.build (v := (.agg #[.string (bs x137), .int .i64 q131.1, .slice none 0 0])) (vs := #[(0, .string (bs x137)), (1, .int .i64 q131.1)]) (fun _ ha => evp2 ha rfl rfl) (fun _ => by kernel_rfl)) rfl ?_
     refine St.buildSlice (e := 36) (cells := #[.string (bs x137), .int .i64 q131.1, .slice none 0 0]) (vs := #[(0, .agg #[.string (bs x137), .int .i64 q131.1, .slice none 0 0])]) (fun _ ha => evp1 ha rfl) (fun _ => by kernel_rfl) rfl trivial ?_
     intro b144
     refine St.frz 2 rfl rfl rfl (Cat.mono (PH.le_trans l93 (PH.le_trans l108 l134)) (Nest.inner h54)) b61 ?_
     intro F145 l146 h147
     have h148 := Nest.cat tailed_DCode (Nest.mono (PH.le_trans l93 (PH.le_trans l108 (PH.le_trans l134 l146))) h54) h147
     obtain ⟨x154, e155, hm⟩ := bS hm
     refine St.nest_push (R := [blk b144 (.cells #[.string (bs x137), .int .i64 q131.1, .slice none 0 0] 36 (0, 0))]) (R3 := []) (D2 := KDInstr) (hd := hd_DCode) (tl := DCode.L) (e2 := 40) (sz2 := 7) e155 ts22 rfl rfl rfl rfl 1 rfl rfl 0 rfl 0 rfl rfl h148 rfl rfl rfl rfl rfl trivial ?_
     intro A149 c150 cells151 h152 he153
     refine sas rfl rfl ?_
     refine snn ?_
     refine St.exit ?_
     refine St.thenexit ?_
     refine St.inexit ?_
     obtain rfl := sI hm
     intro a w ha hs
     exact ⟨x154, rfl, A149, c150, cells151, none, 0, [], F145, (PH.le_trans l93 (PH.le_trans l108 (PH.le_trans l134 l146))), h152, (Bnd.of_push e155), (by rw [he153]; exact Bnd.of_nil), ha.covers ⟨rfl, rfl, rfl, rfl, trivial⟩, (Among.of (Among.take 0 rfl rfl (Among.take 0 rfl rfl Among.none)) _ hs)⟩
    intro q158
    replace q158 : ¬ (x98 = ([99, 111, 100, 101] : List UInt8)) := of_decide_eq_false q158
    replace hm := iF hm q158
    refine skn ?_
    refine ssr ?_
    refine smv rfl rfl ?_
    obtain ⟨q159, e160, hm⟩ := bS hm
    refine St.call [rowo A52 s47.1.length c53 36 3 cells55, rowo A58 (Mir.lastL DCode.L s47.1).length c59 40 7 cells60] (m_code_instr_sp h96 e160) rfl (fun _ ha => ev1 ha rfl) rfl en12 rfl rfl trivial ?_
    rintro _ F161 _ ⟨A163, c164, A167, c168, rfl, h165, h169, rfl⟩ l162
    refine smv rfl rfl ?_
    refine sv (v := (.agg #[.int .i64 q159.1.Op, .int .i64 q159.1.A, .int .i64 q159.1.B, .int .i64 q159.1.N, .string (bs q159.1.Name), .slice A163 q159.1.Args.length c164, .slice A167 q159.1.Cases.length c168])) (Yields.extract rfl rfl) rfl ?_
    refine sv (v := (.bool q159.2)) (Yields.extract rfl rfl) rfl ?_
    refine St.alloc tz40 trivial rfl ?_
    intro b171
    refine St.storen (R := [rowo A52 s47.1.length c53 36 3 cells55, rowo A58 (Mir.lastL DCode.L s47.1).length c59 40 7 cells60]) rfl rfl 0 rfl rfl ta40 rfl rfl rfl trivial (cs' := #[.int .i64 q159.1.Op, .int .i64 q159.1.A, .int .i64 q159.1.B, .int .i64 q159.1.N, .string (bs q159.1.Name), .slice A163 q159.1.Args.length c164, .slice A167 q159.1.Cases.length c168]) rfl ?_
    refine sas rfl rfl ?_
    refine snn ?_
    refine St.seq ?_
    obtain ⟨z172, hm, hk173⟩ := bS hm
    refine St.cutI (fun a w => Has Tryz.f4.ntmps a [(5, .slice A52 s47.1.length c53), (6, .int .i64 ((s47.2 : Nat) : Int)), (11, .pointer (some ⟨b171, 0, none⟩)), (21, .slice A29 q25.length c30), (22, .int .i64 ((q25.length : Nat) : Int)), (23, .int .i64 ((s47.2 : Nat) : Int)), (76, .bool z172)] ∧ Sat ⟨w0, fun b => m0 b ≠ none, F⟩ F161 [blk b171 (.cells #[.int .i64 q159.1.Op, .int .i64 q159.1.A, .int .i64 q159.1.B, .int .i64 q159.1.N, .string (bs q159.1.Name), .slice A163 q159.1.Args.length c164, .slice A167 q159.1.Cases.length c168] 40 (0, 0)), rowo A52 s47.1.length c53 36 3 cells55, rowo A58 (Mir.lastL DCode.L s47.1).length c59 40 7 cells60] w) ?_ ?_
    ·skip
     refine St.region ?_
     by_cases q174 : q159.2 = true
     ·replace hm := iT hm q174
      have hb175 : (q159.2) = true := q174
      try rw [hb175]
      refine smv rfl rfl ?_
      refine sv (v := vF) (Yields.not_t rfl) rfl ?_
      refine smv rfl rfl ?_
      refine St.val (v := (.slice A52 s47.1.length c53)) (Yields.move rfl) rfl rfl rfl ?_
      refine St.val (v := (.int .i64 ((s47.1.length : Nat) : Int))) (Yields.lenSlice tu22 rfl) rfl rfl rfl ?_
      refine St.val (v := (.bool (decide (((s47.1.length : Nat) : Int) = 0)))) (Yields.eq rfl rfl) rfl rfl rfl ?_
      refine spf rfl rfl rfl ?_
      refine St.nil ?_
      obtain rfl := sI hm
      intro a w ha hs
      exact ⟨ha.covers ⟨rfl, rfl, rfl, rfl, rfl, rfl, rfl, trivial⟩, (Among.of (Among.take 0 rfl rfl (Among.take 0 rfl rfl (Among.take 0 rfl rfl Among.none))) _ hs)⟩
     replace hm := iF hm q174
     have hb176 : (q159.2) = false := eq_false_of_ne_true q174
     try rw [hb176]
     refine smv rfl rfl ?_
     refine sv (v := vT) (Yields.not_f rfl) rfl ?_
     refine smv rfl rfl ?_
     refine su rfl rfl rfl ?_
     refine su rfl rfl rfl ?_
     refine su rfl rfl rfl ?_
     refine spt rfl rfl rfl ?_
     refine St.nil ?_
     obtain rfl := sI hm
     intro a w ha hs
     exact ⟨ha.covers ⟨rfl, rfl, rfl, rfl, rfl, rfl, rfl, trivial⟩, (Among.of (Among.take 0 rfl rfl (Among.take 0 rfl rfl (Among.take 0 rfl rfl Among.none))) _ hs)⟩
    rintro a w ⟨ha, hs⟩
    replace hm := hk173
    refine St.use (?_ : St _ _ _ _ _ _) ha hs
    clear ha hs a w
    refine St.cond_b rfl ?_ ?_
    ·intro q177
     replace q177 : z172 = true := q177
     replace hm := iT hm q177
     refine ssr ?_
     refine smv rfl rfl ?_
     refine sv (v := (.int .i64 ((s47.2 + 1 : Nat) : Int))) (Yields.addn (j := 1) rfl rfl rfl (by have q_0 := q66; have q_1 := h31.bnd.2; omega)) rfl ?_
     refine sas rfl rfl ?_
     refine sas rfl rfl ?_
     refine sas rfl rfl ?_
     refine snn ?_
     refine St.ret ?_
     refine St.thenret ?_
     refine St.inret ?_
     refine St.thenret ?_
     refine St.thenret ?_
     refine St.inret ?_
     refine St.thenret ?_
     obtain rfl := sI hm
     obtain rfl := aR ho82
     obtain rfl := aR ho50
     obtain rfl := aR ho20
     exact St.doneR3 rfl rfl rfl rfl ⟨none, 0, rfl, Fsl.nil, rfl⟩ (fun w hs => Among.of Among.none w hs)
    intro q178
    replace q178 : ¬ (z172 = true) := bf q178
    replace hm := iF hm q178
    refine skn ?_
    refine StD.start [13, 16] [blk b171 (.cells #[.int .i64 q159.1.Op, .int .i64 q159.1.A, .int .i64 q159.1.B, .int .i64 q159.1.N, .string (bs q159.1.Name), .slice A163 q159.1.Args.length c164, .slice A167 q159.1.Cases.length c168] 40 (0, 0)), rowo A52 s47.1.length c53 36 3 cells55, rowo A58 (Mir.lastL DCode.L s47.1).length c59 40 7 cells60] hmix ?_
    refine sdp 0 (v := (.slice A52 s47.1.length c53)) (listed' := #[true, false, false, false, false, false, false, false, false, false, false, false, false, false, false, false, false]) rfl (fun _ => Yields.move rfl) rfl (by kernel_rfl) rfl ?_
    refine sdp 1 (v := (.slice A52 s47.1.length c53)) (listed' := #[true, true, false, false, false, false, false, false, false, false, false, false, false, false, false, false, false]) rfl (fun _ => Yields.move rfl) rfl (by kernel_rfl) rfl ?_
    refine sdp 2 (v := (.int .i64 ((s47.1.length : Nat) : Int))) (listed' := #[true, true, true, false, false, false, false, false, false, false, false, false, false, false, false, false, false]) rfl (fun _ => Yields.lenSlice tu22 rfl) rfl (by kernel_rfl) rfl ?_
    refine sdp 3 (v := (.int .i64 (((s47.1.length : Nat) : Int) - 1))) (listed' := #[true, true, true, true, false, false, false, false, false, false, false, false, false, false, false, false, false]) rfl (fun _ => Yields.sub rfl rfl (by have q_0 := b56.2; omega) (by have q_0 := b56.2; omega)) rfl (by kernel_rfl) rfl ?_
    refine sdp 4 (v := (.slice A52 s47.1.length c53)) (listed' := #[true, true, true, true, true, false, false, false, false, false, false, false, false, false, false, false, false]) rfl (fun _ => Yields.move rfl) rfl (by kernel_rfl) rfl ?_
    refine sdp 5 (v := (.slice A52 s47.1.length c53)) (listed' := #[true, true, true, true, true, true, false, false, false, false, false, false, false, false, false, false, false]) rfl (fun _ => Yields.move rfl) rfl (by kernel_rfl) rfl ?_
    refine sdp 6 (v := (.int .i64 ((s47.1.length : Nat) : Int))) (listed' := #[true, true, true, true, true, true, true, false, false, false, false, false, false, false, false, false, false]) rfl (fun _ => Yields.lenSlice tu22 rfl) rfl (by kernel_rfl) rfl ?_
    refine sdp 7 (v := (.int .i64 (((s47.1.length : Nat) : Int) - 1))) (listed' := #[true, true, true, true, true, true, true, true, false, false, false, false, false, false, false, false, false]) rfl (fun _ => Yields.sub rfl rfl (by have q_0 := b56.2; omega) (by have q_0 := b56.2; omega)) rfl (by kernel_rfl) rfl ?_
    obtain ⟨x179, e180, hm⟩ := bS hm
    obtain ⟨jx181, jx182⟩ := idx_rng e180
    have k183 := Nest.at (Nest.mono (PH.le_trans l93 l162) h54) e180 (by omega)
    refine St.rowo_at 1 rfl (by omega) ?_
    intro hA184
    refine sdp 8 (v := (.pointer (some ⟨bk A52, bo A52 + (((s47.1.length : Nat) : Int) - 1).toNat * 3, none⟩))) (listed' := #[true, true, true, true, true, true, true, true, true, false, false, false, false, false, false, false, false]) rfl (fun _ => Yields.idx (IdxAt.own hA184 jx181 jx182) ts22 rfl rfl) rfl (by kernel_rfl) rfl ?_
    refine sdp 9 (v := (.pointer (some ⟨bk A52, bo A52 + ((((s47.1.length : Nat) : Int) - 1).toNat * 3 + 2), none⟩))) (listed' := #[true, true, true, true, true, true, true, true, true, true, false, false, false, false, false, false, false]) rfl (fun _ => Yields.fieldAddr (v := (.pointer (some ⟨bk A52, bo A52 + ((((s47.1.length : Nat) : Int) - 1).toNat * 3 + 2), none⟩))) rfl (fieldA (off := 2) (fun _ => by kernel_rfl))) rfl (by kernel_rfl) rfl ?_
    refine sdt [0, 1, 2, 3, 4, 5, 6, 7, 8, 9, 14, 15] 10 (v := (.slice A58 (Mir.lastL DCode.L s47.1).length c59)) (listed' := #[true, true, true, true, true, true, true, true, true, true, true, false, false, false, false, false, false]) rfl (Yields.load rfl (Loads.rA1 1 rfl tc34 (k183 2 _ rfl))) rfl Among.refl (by kernel_rfl) rfl ?_
    refine sdt [0, 1, 2, 3, 4, 5, 6, 7, 8, 9, 14, 15] 11 (v := (.agg #[.int .i64 q159.1.Op, .int .i64 q159.1.A, .int .i64 q159.1.B, .int .i64 q159.1.N, .string (bs q159.1.Name), .slice A163 q159.1.Args.length c164, .slice A167 q159.1.Cases.length c168])) (listed' := #[true, true, true, true, true, true, true, true, true, true, true, true, false, false, false, false, false]) rfl (Yields.load rfl (Loads.Hk (vs := [.int .i64 q159.1.Op, .int .i64 q159.1.A, .int .i64 q159.1.B, .int .i64 q159.1.N, .string (bs q159.1.Name), .slice A163 q159.1.Args.length c164, .slice A167 q159.1.Cases.length c168]) 0 rfl ta40 rfl rfl)) rfl Among.refl (by kernel_rfl) rfl ?_
    refine StD.only (i := 12) rfl (by kernel_rfl) (listed' := #[true, true, true, true, true, true, true, true, true, true, true, true, true, false, false, false, false]) rfl ?_
    intro hcl185
    refine St.buildSlice (e := 40) (cells := #[.int .i64 q159.1.Op, .int .i64 q159.1.A, .int .i64 q159.1.B, .int .i64 q159.1.N, .string (bs q159.1.Name), .slice A163 q159.1.Args.length c164, .slice A167 q159.1.Cases.length c168]) (vs := #[(0, .agg #[.int .i64 q159.1.Op, .int .i64 q159.1.A, .int .i64 q159.1.B, .int .i64 q159.1.N, .string (bs q159.1.Name), .slice A163 q159.1.Args.length c164, .slice A167 q159.1.Cases.length c168])]) (fun _ ha => evp1 ha rfl) (fun _ => by kernel_rfl) rfl trivial ?_
    intro b186
    refine StD.next hcl185 (fun _ => (Among.of (Among.take 1 rfl rfl (Among.take 1 rfl rfl (Among.take 1 rfl rfl Among.none))))) ?_
    refine StD.only (i := 13) rfl (by kernel_rfl) (listed' := #[true, true, true, true, true, true, true, true, true, true, true, true, true, true, false, false, false]) rfl ?_
    intro hcl187
    obtain ⟨x192, e193, hm⟩ := bS hm
    refine St.pushL (R := [blk b186 (.cells #[.int .i64 q159.1.Op, .int .i64 q159.1.A, .int .i64 q159.1.B, .int .i64 q159.1.N, .string (bs q159.1.Name), .slice A163 q159.1.Args.length c164, .slice A167 q159.1.Cases.length c168] 40 (0, 0)), blk b171 (.cells #[.int .i64 q159.1.Op, .int .i64 q159.1.A, .int .i64 q159.1.B, .int .i64 q159.1.N, .string (bs q159.1.Name), .slice A163 q159.1.Args.length c164, .slice A167 q159.1.Cases.length c168] 40 (0, 0)), rowo A52 s47.1.length c53 36 3 cells55]) (R3 := [blk b171 (.cells #[.int .i64 q159.1.Op, .int .i64 q159.1.A, .int .i64 q159.1.B, .int .i64 q159.1.N, .string (bs q159.1.Name), .slice A163 q159.1.Args.length c164, .slice A167 q159.1.Cases.length c168] 40 (0, 0)), rowo A52 s47.1.length c53 36 3 cells55]) e193 ts34 rfl rfl rfl rfl rfl 3 rfl rfl 0 rfl 0 rfl rfl (Cat.mono (PH.le_trans l93 l162) (Nest.inner h54)) ⟨[.int .i64 q159.1.Op, .int .i64 q159.1.A, .int .i64 q159.1.B, .int .i64 q159.1.N, .string (bs q159.1.Name), .slice A163 q159.1.Args.length c164, .slice A167 q159.1.Cases.length c168], _, rfl, (DInstr.of h165 h169), rfl⟩ rfl trivial ?_
    intro A188 c189 cells190 h191
    refine StD.next hcl187 (fun h => by cases h) ?_
    obtain ⟨x195, e196, hm⟩ := bS hm
    obtain ⟨jx197, jx198⟩ := idx_rng e196
    have k199 := Nest.at (Nest.mono (PH.le_trans l93 l162) h54) e196 (by omega)
    refine sdp 14 (v := (.pointer (some ⟨bk A52, bo A52 + (((s47.1.length : Nat) : Int) - 1).toNat * 3, none⟩))) (listed' := #[true, true, true, true, true, true, true, true, true, true, true, true, true, true, true, false, false]) rfl (fun _ => Yields.idx (IdxAt.own hA184 jx197 jx198) ts22 rfl rfl) rfl (by kernel_rfl) rfl ?_
    refine sdp 15 (v := (.pointer (some ⟨bk A52, bo A52 + ((((s47.1.length : Nat) : Int) - 1).toNat * 3 + 2), none⟩))) (listed' := #[true, true, true, true, true, true, true, true, true, true, true, true, true, true, true, true, false]) rfl (fun _ => Yields.fieldAddr (v := (.pointer (some ⟨bk A52, bo A52 + ((((s47.1.length : Nat) : Int) - 1).toNat * 3 + 2), none⟩))) rfl (fieldA (off := 2) (fun _ => by kernel_rfl))) rfl (by kernel_rfl) rfl ?_
    refine StD.only (i := 16) rfl (by kernel_rfl) (listed' := #[true, true, true, true, true, true, true, true, true, true, true, true, true, true, true, true, true]) rfl ?_
    intro hcl200
    obtain ⟨x205, e206, hm⟩ := bS hm
    refine St.nest_put (R := [rowo A188 x192.length c189 40 7 cells190, blk b171 (.cells #[.int .i64 q159.1.Op, .int .i64 q159.1.A, .int .i64 q159.1.B, .int .i64 q159.1.N, .string (bs q159.1.Name), .slice A163 q159.1.Args.length c164, .slice A167 q159.1.Cases.length c168] 40 (0, 0))]) (R3 := [blk b171 (.cells #[.int .i64 q159.1.Op, .int .i64 q159.1.A, .int .i64 q159.1.B, .int .i64 q159.1.N, .string (bs q159.1.Name), .slice A163 q159.1.Args.length c164, .slice A167 q159.1.Cases.length c168] 40 (0, 0))]) tailed_DCode (Nest.mono (PH.le_trans l93 l162) h54) e206 h191 rfl (by have q_ : KDCode.sz = 3 := rfl; simp only [q_]; omega) rfl rfl 2 rfl rfl 0 rfl rfl tc34 trivial ?_
    intro cells204 h201 hl202 he203
    try rw [hl202]
    refine StD.next hcl200 (fun h => by cases h) ?_
    refine StD.done (by kernel_rfl) ?_
    refine St.innorm ?_
    obtain rfl := sI hm
    intro a w ha hs
    exact ⟨x205, rfl, A52, c53, cells204, A188, c189, cells190, F161, (PH.le_trans l93 l162), h201, (Bnd.of_len hl202 b56), (by rw [he203]; exact (Bnd.of_push e193)), ha.covers ⟨rfl, rfl, rfl, rfl, trivial⟩, (Among.of (Among.take 0 rfl rfl (Among.take 0 rfl rfl Among.none)) _ hs)⟩
   rintro a w ⟨z67, rfl, A71, c72, cells74, A77, c78, cells79, F68, l69, h73, b75, b80, ha, hs⟩
   replace hm := aL ho82
   refine St.use (?_ : St _ _ _ _ _ _) ha hs
   clear ha hs a w
   refine St.region ?_
   refine sv (v := (.int .i64 ((s47.2 + 1 : Nat) : Int))) (Yields.addn (j := 1) rfl rfl rfl (by have q_0 := q66; have q_1 := h31.bnd.2; omega)) rfl ?_
   refine smv rfl rfl ?_
   refine snn ?_
   obtain rfl := sI hm
   intro a w ha hs
   exact ⟨(z67, s47.2 + 1), aL ho50, A71, c72, cells74, A77, c78, cells79, F68, (PH.le_trans l63 l69), h73, b75, b80, ha.covers ⟨rfl, rfl, rfl, rfl, trivial⟩, (Among.of (Among.take 0 rfl rfl (Among.take 0 rfl rfl Among.none)) _ hs)⟩
  intro q207
  replace q207 : ¬ (((s47.2 : Nat) : Int) < ((q25.length : Nat) : Int)) := of_decide_eq_false q207
  replace hm := iF hm q207
  refine St.exit ?_
  refine St.thenexit ?_
  refine St.thenexit ?_
  refine St.inexit ?_
  obtain rfl := sI hm
  obtain rfl := aR ho50
  intro a w ha hs
  exact ⟨s47.1, rfl, A52, c53, cells55, A58, c59, cells60, F62, (PH.le_trans l24 (PH.le_trans l28 l63)), h54, b56, b61, ha.covers ⟨rfl, trivial⟩, (Among.of (Among.take 1 rfl rfl (Among.take 0 rfl rfl Among.none)) _ hs)⟩
 rintro a w ⟨z5, rfl, A9, c10, cells12, A15, c16, cells17, F6, l7, h11, b13, b18, ha, hs⟩
 replace hm := aL ho20
 refine St.use (?_ : St _ _ _ _ _ _) ha hs
 clear ha hs a w
 refine St.seq ?_
 refine ssr ?_
 refine smv rfl rfl ?_
 refine St.frz 0 rfl rfl rfl (Nest.inner h11) b18 ?_
 intro F208 l209 h210
 have h211 := Nest.cat tailed_DCode (Nest.mono l209 h11) h210
 refine St.pick (R := []) 0 rfl rfl ?_
 obtain ⟨q212, e213, hm⟩ := bS hm
 refine St.call [] (CallSp.lend (Hl := [rowo A9 z5.length c10 36 3 cells12]) (fun m_ hm_ hd_ h1_ h2_ => (m_code_printed_sp (lentR hm_ 0 rfl rfl h211 b13 h1_ h2_) e213).mono (fun _ _ _ h_ _ _ => h_))) rfl (fun _ ha => ev1 ha rfl) rfl en13 rfl rfl trivial ?_
 rintro _ F214 _ ⟨_, rfl, rfl, rfl⟩ l215
 refine sas rfl rfl ?_
 refine snn ?_
 refine ssr ?_
 refine smv rfl rfl ?_
 refine sv (v := (.bool (!decide (q212 = 0)))) (Yields.ne rfl rfl) rfl ?_
 refine snn ?_
 refine St.cond_b rfl ?_ ?_
 ·intro q216
  replace q216 : ¬ (q212 = 0) := nd_t q216
  replace hm := iF hm q216
  refine ssr ?_
  refine smv rfl rfl ?_
  refine sas rfl rfl ?_
  refine sas rfl rfl ?_
  refine sas rfl rfl ?_
  refine snn ?_
  refine St.ret ?_
  refine St.thenret ?_
  obtain rfl := sI hm
  exact St.doneR3 rfl rfl rfl rfl ⟨none, 0, rfl, Fsl.nil, rfl⟩ (fun w hs => Among.of Among.none w hs)
 intro q217
 replace q217 : q212 = 0 := nd_f q217
 replace hm := iT hm q217
 refine skn ?_
 refine ssr ?_
 refine smv rfl rfl ?_
 refine sas rfl rfl ?_
 refine sas rfl rfl ?_
 refine sas rfl rfl ?_
 refine snn ?_
 refine St.ret ?_
 refine St.frz 0 rfl rfl rfl (Cat.mono l215 h211) b13 ?_
 intro F218 l219 h220
 obtain rfl := sI hm
 exact St.doneR3 rfl rfl rfl rfl ⟨A9, c10, rfl, h220, rfl⟩ (fun w hs => Among.of Among.none w hs)
theorem m_ref14_areWords_sp {F : PH} {g : Nat} {a0 : List (List UInt8)} {pA0 : Option Addr} {pc0 : Nat} (ph0 : Fsl 16 Kind.str F pA0 pc0 a0) {r : Bool} (hm : m_ref14_areWords g a0 = some r) :
  CallSp Tryz.prog 14 #[.slice pA0 a0.length pc0] F [] (fun u F' H' => u = (.bool r) ∧ H' = []) := by

 unfold m_ref14_areWords at hm
 refine CallSp.enter (args := [.slice pA0 a0.length pc0]) Tryz.func14 rfl rfl ?_
 intro w0 m0 hm0
 refine ssr ?_
 refine sas rfl rfl ?_
 refine snn ?_
 obtain ⟨o3, hm, ho4⟩ := jS hm
 refine St.cutI (fun a w => ∃ z2 : Unit, o3 = .inl z2 ∧ Has Tryz.f14.ntmps a [] ∧ Sat ⟨w0, fun b => m0 b ≠ none, F⟩ F [] w) ?_ ?_
 ·skip
  refine ssr ?_
  refine sas rfl rfl ?_
  refine snn ?_
  refine St.block ?_
  refine St.loopM hm (fun s6 a w => Has Tryz.f14.ntmps a [(0, .slice pA0 a0.length pc0), (3, .int .i64 ((s6 : Nat) : Int))] ∧ Sat ⟨w0, fun b => m0 b ≠ none, F⟩ F [] w) ?_ ?_
  ·skip
   intro a w ha hs
   exact ⟨ha.covers ⟨rfl, rfl, trivial⟩, (Among.of Among.none _ hs)⟩
  rintro s6 o7 co8 hm ho9 a w ⟨ha, hs⟩
  refine St.use (?_ : St _ _ _ _ _ _) ha hs
  clear ha hs a w
  refine St.seq ?_
  refine ssr ?_
  refine smv rfl rfl ?_
  refine smv rfl rfl ?_
  refine sv (v := (.int .i64 ((a0.length : Nat) : Int))) (Yields.lenSlice tu29 rfl) rfl ?_
  refine sv (v := (.bool (decide (((s6 : Nat) : Int) < ((a0.length : Nat) : Int))))) (Yields.lt rfl rfl) rfl ?_
  refine snn ?_
  refine St.cond_b rfl ?_ ?_
  ·intro q10
   replace q10 : ((s6 : Nat) : Int) < ((a0.length : Nat) : Int) := of_decide_eq_true q10
   replace hm := iT hm q10
   refine skn ?_
   refine St.seq ?_
   refine St.block ?_
   refine ssr ?_
   refine smv rfl rfl ?_
   refine smv rfl rfl ?_
   obtain ⟨x11, e12, hm⟩ := bS hm
   obtain ⟨p13, cs14, jx15, R16, k17⟩ := ph0.nidx e12
   obtain rfl := R16
   refine sv (v := (.pointer (some p13))) (Yields.idx jx15 ts29 rfl rfl) rfl ?_
   refine sv (v := (.string (bs x11))) (Yields.load rfl (Loads.Fat k17 tc9 rfl)) rfl ?_
   refine sv (v := (.bool (decide (x11 = ([] : List UInt8))))) (Yields.eqStr rfl rfl) rfl ?_
   refine snn ?_
   refine St.cond_b rfl ?_ ?_
   ·intro q18
    replace q18 : x11 = ([] : List UInt8) := of_decide_eq_true q18
    replace hm := iT hm q18
    refine ssr ?_
    refine sas rfl rfl ?_
    refine snn ?_
    refine St.ret ?_
    refine St.inret ?_
    refine St.thenret ?_
    refine St.thenret ?_
    refine St.inret ?_
    refine St.thenret ?_
    obtain rfl := sI hm
    obtain rfl := aR ho9
    obtain rfl := aR ho4
    exact St.doneR1 rfl rfl ⟨rfl, rfl⟩ (fun w hs => Among.of Among.none w hs)
   intro q19
   replace q19 : ¬ (x11 = ([] : List UInt8)) := of_decide_eq_false q19
   replace hm := iF hm q19
   refine St.skip ?_
   refine St.innorm ?_
   refine St.norm ?_
   refine St.region ?_
   refine smv rfl rfl ?_
   refine sv (v := (.int .i64 ((s6 + 1 : Nat) : Int))) (Yields.addn (j := 1) rfl rfl rfl (by have q_0 := q10; have q_1 := ph0.bnd.2; omega)) rfl ?_
   refine sas rfl rfl ?_
   refine snn ?_
   obtain rfl := sI hm
   intro a w ha hs
   exact ⟨s6 + 1, aL ho9, ha.covers ⟨rfl, rfl, trivial⟩, (Among.of Among.none _ hs)⟩
  intro q20
  replace q20 : ¬ (((s6 : Nat) : Int) < ((a0.length : Nat) : Int)) := of_decide_eq_false q20
  replace hm := iF hm q20
  refine St.exit ?_
  refine St.thenexit ?_
  refine St.thenexit ?_
  refine St.inexit ?_
  obtain rfl := sI hm
  obtain rfl := aR ho9
  intro a w ha hs
  exact ⟨(), rfl, ha.covers trivial, (Among.of Among.none _ hs)⟩
 rintro a w ⟨z2, rfl, ha, hs⟩
 replace hm := aL ho4
 refine St.use (?_ : St _ _ _ _ _ _) ha hs
 clear ha hs a w
 refine ssr ?_
 refine sas rfl rfl ?_
 refine snn ?_
 refine St.ret ?_
 obtain rfl := sI hm
 exact St.doneR1 rfl rfl ⟨rfl, rfl⟩ (fun w hs => Among.of Among.none w hs)
theorem m_ref14_isWhole_sp {F : PH} {g : Nat} {a0 : List UInt8} {r : Bool} (hm : m_ref14_isWhole g a0 = some r) :
  CallSp Tryz.prog 59 #[.string (bs a0)] F [] (fun u F' H' => u = (.bool r) ∧ H' = []) := by

 unfold m_ref14_isWhole at hm
 refine CallSp.enter (args := [.string (bs a0)]) Tryz.func59 rfl rfl ?_
 intro w0 m0 hm0
 refine ssr ?_
 refine sas rfl rfl ?_
 refine snn ?_
 obtain ⟨o2, hm, ho3⟩ := jS hm
 refine St.cutI (fun a w => ∃ z1 : List UInt8, o2 = .inl z1 ∧ Has Tryz.f59.ntmps a [(0, .string (bs z1))] ∧ Sat ⟨w0, fun b => m0 b ≠ none, F⟩ F [] w) ?_ ?_
 ·skip
  obtain ⟨z4, hm, hk5⟩ := bS hm
  refine St.cutI (fun a w => Has Tryz.f59.ntmps a [(0, .string (bs a0)), (11, .bool z4)] ∧ Sat ⟨w0, fun b => m0 b ≠ none, F⟩ F [] w) ?_ ?_
  ·skip
   refine St.region ?_
   refine smv rfl rfl ?_
   refine sv (v := (.int .i64 ((a0.length : Nat) : Int))) (Yields.lenStr tu9 rfl) rfl ?_
   by_cases q6 : ((a0.length : Nat) : Int) > 0
   ·replace hm := iT hm q6
    refine sv (v := vT) (Yields.is q6 (Yields.gt rfl rfl)) rfl ?_
    refine smv rfl rfl ?_
    refine St.val (v := (.string (bs a0))) (Yields.move rfl) rfl rfl rfl ?_
    obtain ⟨x7, e8, hm⟩ := bS hm
    refine St.val (v := (.int .u8 ((x7.toNat : Nat) : Int))) (Yields.indexStr (nlit e8) tu9 rfl rfl) rfl rfl rfl ?_
    refine St.val (v := (.bool (decide (((x7.toNat : Nat) : Int) = 45)))) (Yields.eq rfl rfl) rfl rfl rfl ?_
    refine spt rfl rfl rfl ?_
    refine St.nil ?_
    obtain rfl := sI hm
    intro a w ha hs
    exact ⟨ha.covers ⟨rfl, rfl, trivial⟩, (Among.of Among.none _ hs)⟩
   replace hm := iF hm q6
   refine sv (v := vF) (Yields.isnt q6 (Yields.gt rfl rfl)) rfl ?_
   refine smv rfl rfl ?_
   refine su rfl rfl rfl ?_
   refine su rfl rfl rfl ?_
   refine su rfl rfl rfl ?_
   refine spf rfl rfl rfl ?_
   refine St.nil ?_
   obtain rfl := sI hm
   intro a w ha hs
   exact ⟨ha.covers ⟨rfl, rfl, trivial⟩, (Among.of Among.none _ hs)⟩
  rintro a w ⟨ha, hs⟩
  replace hm := hk5
  refine St.use (?_ : St _ _ _ _ _ _) ha hs
  clear ha hs a w
  refine St.cond_b rfl ?_ ?_
  ·intro q9
   replace q9 : z4 = true := q9
   replace hm := iT hm q9
   refine ssr ?_
   refine smv rfl rfl ?_
   obtain ⟨x10, e11, hm⟩ := bS hm
   refine sv (v := (.string (bs x10))) (Yields.subSD e11 tu9 rfl rfl) rfl ?_
   refine sas rfl rfl ?_
   refine snn ?_
   refine ssr ?_
   refine smv rfl rfl ?_
   refine sv (v := (.bool (decide (x10 = ([48] : List UInt8))))) (Yields.eqStr rfl rfl) rfl ?_
   refine snn ?_
   refine St.cond_b rfl ?_ ?_
   ·intro q12
    replace q12 : x10 = ([48] : List UInt8) := of_decide_eq_true q12
    replace hm := iT hm q12
    refine ssr ?_
    refine sas rfl rfl ?_
    refine snn ?_
    refine St.ret ?_
    refine St.thenret ?_
    obtain rfl := sI hm
    obtain rfl := aR ho3
    exact St.doneR1 rfl rfl ⟨rfl, rfl⟩ (fun w hs => Among.of Among.none w hs)
   intro q13
   replace q13 : ¬ (x10 = ([48] : List UInt8)) := of_decide_eq_false q13
   replace hm := iF hm q13
   refine St.skip ?_
   obtain rfl := sI hm
   intro a w ha hs
   exact ⟨x10, rfl, ha.covers ⟨rfl, trivial⟩, (Among.of Among.none _ hs)⟩
  intro q14
  replace q14 : ¬ (z4 = true) := bf q14
  replace hm := iF hm q14
  refine St.skip ?_
  obtain rfl := sI hm
  intro a w ha hs
  exact ⟨a0, rfl, ha.covers ⟨rfl, trivial⟩, (Among.of Among.none _ hs)⟩
 rintro a w ⟨z1, rfl, ha, hs⟩
 replace hm := aL ho3
 refine St.use (?_ : St _ _ _ _ _ _) ha hs
 clear ha hs a w
 refine St.seq ?_
 obtain ⟨z15, hm, hk16⟩ := bS hm
 refine St.cutI (fun a w => Has Tryz.f59.ntmps a [(0, .string (bs z1)), (33, .bool z15)] ∧ Sat ⟨w0, fun b => m0 b ≠ none, F⟩ F [] w) ?_ ?_
 ·skip
  refine St.region ?_
  refine smv rfl rfl ?_
  refine sv (v := (.int .i64 ((z1.length : Nat) : Int))) (Yields.lenStr tu9 rfl) rfl ?_
  by_cases q17 : ((z1.length : Nat) : Int) < 1
  ·replace hm := iT hm q17
   refine sv (v := vT) (Yields.is q17 (Yields.lt rfl rfl)) rfl ?_
   refine smv rfl rfl ?_
   refine su rfl rfl rfl ?_
   refine su rfl rfl rfl ?_
   refine su rfl rfl rfl ?_
   refine spt rfl rfl rfl ?_
   refine smv rfl rfl ?_
   refine su rfl rfl rfl ?_
   refine su rfl rfl rfl ?_
   refine su rfl rfl rfl ?_
   refine su rfl rfl rfl ?_
   refine St.unwanted trivial rfl rfl ?_
   refine St.unwanted trivial rfl rfl ?_
   refine St.unwanted trivial rfl rfl ?_
   refine su rfl rfl rfl ?_
   refine spt rfl rfl rfl ?_
   refine St.nil ?_
   obtain rfl := sI hm
   intro a w ha hs
   exact ⟨ha.covers ⟨rfl, rfl, trivial⟩, (Among.of Among.none _ hs)⟩
  replace hm := iF hm q17
  refine sv (v := vF) (Yields.isnt q17 (Yields.lt rfl rfl)) rfl ?_
  refine smv rfl rfl ?_
  refine St.val (v := (.string (bs z1))) (Yields.move rfl) rfl rfl rfl ?_
  refine St.val (v := (.int .i64 ((z1.length : Nat) : Int))) (Yields.lenStr tu9 rfl) rfl rfl rfl ?_
  by_cases q18 : ((z1.length : Nat) : Int) > 10
  ·replace hm := iT hm q18
   refine St.val (v := vT) (Yields.is q18 (Yields.gt rfl rfl)) rfl rfl rfl ?_
   refine spf rfl rfl rfl ?_
   refine smv rfl rfl ?_
   refine su rfl rfl rfl ?_
   refine su rfl rfl rfl ?_
   refine su rfl rfl rfl ?_
   refine su rfl rfl rfl ?_
   refine St.unwanted trivial rfl rfl ?_
   refine St.unwanted trivial rfl rfl ?_
   refine St.unwanted trivial rfl rfl ?_
   refine su rfl rfl rfl ?_
   refine spt rfl rfl rfl ?_
   refine St.nil ?_
   obtain rfl := sI hm
   intro a w ha hs
   exact ⟨ha.covers ⟨rfl, rfl, trivial⟩, (Among.of Among.none _ hs)⟩
  replace hm := iF hm q18
  refine St.val (v := vF) (Yields.isnt q18 (Yields.gt rfl rfl)) rfl rfl rfl ?_
  refine spf rfl rfl rfl ?_
  refine smv rfl rfl ?_
  refine St.val (v := (.string (bs z1))) (Yields.move rfl) rfl rfl rfl ?_
  obtain ⟨x19, e20, hm⟩ := bS hm
  refine St.val (v := (.int .u8 ((x19.toNat : Nat) : Int))) (Yields.indexStr (nlit e20) tu9 rfl rfl) rfl rfl rfl ?_
  by_cases q21 : ((x19.toNat : Nat) : Int) = 48
  ·replace hm := iT hm q21
   refine St.val (v := vT) (Yields.is q21 (Yields.eq rfl rfl)) rfl rfl rfl ?_
   refine St.val (v := vT) (Yields.move rfl) rfl rfl rfl ?_
   refine St.val (v := (.string (bs z1))) (Yields.move rfl) rfl rfl rfl ?_
   refine St.val (v := (.int .i64 ((z1.length : Nat) : Int))) (Yields.lenStr tu9 rfl) rfl rfl rfl ?_
   refine St.val (v := (.bool (decide (((z1.length : Nat) : Int) > 1)))) (Yields.gt rfl rfl) rfl rfl rfl ?_
   refine St.val (v := (.bool (decide (((z1.length : Nat) : Int) > 1)))) (Yields.pick_t rfl rfl) rfl rfl rfl ?_
   refine spf rfl rfl rfl ?_
   refine St.nil ?_
   obtain rfl := sI hm
   intro a w ha hs
   exact ⟨ha.covers ⟨rfl, rfl, trivial⟩, (Among.of Among.none _ hs)⟩
  replace hm := iF hm q21
  refine St.val (v := vF) (Yields.isnt q21 (Yields.eq rfl rfl)) rfl rfl rfl ?_
  refine St.val (v := vF) (Yields.move rfl) rfl rfl rfl ?_
  refine su rfl rfl rfl ?_
  refine su rfl rfl rfl ?_
  refine su rfl rfl rfl ?_
  refine St.val (v := vF) (Yields.pick_f rfl rfl) rfl rfl rfl ?_
  refine spf rfl rfl rfl ?_
  refine St.nil ?_
  obtain rfl := sI hm
  intro a w ha hs
  exact ⟨ha.covers ⟨rfl, rfl, trivial⟩, (Among.of Among.none _ hs)⟩
 rintro a w ⟨ha, hs⟩
 replace hm := hk16
 refine St.use (?_ : St _ _ _ _ _ _) ha hs
 clear ha hs a w
 refine St.cond_b rfl ?_ ?_
 ·intro q22
  replace q22 : z15 = true := q22
  replace hm := iT hm q22
  refine ssr ?_
  refine sas rfl rfl ?_
  refine snn ?_
  refine St.ret ?_
  refine St.thenret ?_
  obtain rfl := sI hm
  exact St.doneR1 rfl rfl ⟨rfl, rfl⟩ (fun w hs => Among.of Among.none w hs)
 intro q23
 replace q23 : ¬ (z15 = true) := bf q23
 replace hm := iF hm q23
 refine skn ?_
 obtain ⟨o25, hm, ho26⟩ := jS hm
 refine St.cutI (fun a w => ∃ z24 : Unit, o25 = .inl z24 ∧ Has Tryz.f59.ntmps a [] ∧ Sat ⟨w0, fun b => m0 b ≠ none, F⟩ F [] w) ?_ ?_
 ·skip
  refine ssr ?_
  refine sas rfl rfl ?_
  refine snn ?_
  refine St.block ?_
  refine St.loopM hm (fun s28 a w => Has Tryz.f59.ntmps a [(0, .string (bs z1)), (3, .int .i64 ((s28 : Nat) : Int))] ∧ Sat ⟨w0, fun b => m0 b ≠ none, F⟩ F [] w) ?_ ?_
  ·skip
   intro a w ha hs
   exact ⟨ha.covers ⟨rfl, rfl, trivial⟩, (Among.of Among.none _ hs)⟩
  rintro s28 o29 co30 hm ho31 a w ⟨ha, hs⟩
  refine St.use (?_ : St _ _ _ _ _ _) ha hs
  clear ha hs a w
  refine St.seq ?_
  refine ssr ?_
  refine smv rfl rfl ?_
  refine smv rfl rfl ?_
  refine sv (v := (.int .i64 ((z1.length : Nat) : Int))) (Yields.lenStr tu9 rfl) rfl ?_
  refine sv (v := (.bool (decide (((s28 : Nat) : Int) < ((z1.length : Nat) : Int))))) (Yields.lt rfl rfl) rfl ?_
  refine snn ?_
  refine St.cond_b rfl ?_ ?_
  ·intro q32
   replace q32 : ((s28 : Nat) : Int) < ((z1.length : Nat) : Int) := of_decide_eq_true q32
   replace hm := iT hm q32
   refine skn ?_
   refine St.seq ?_
   refine St.block ?_
   obtain ⟨z33, hm, hk34⟩ := bS hm
   refine St.cutI (fun a w => Has Tryz.f59.ntmps a [(0, .string (bs z1)), (3, .int .i64 ((s28 : Nat) : Int)), (49, .bool z33)] ∧ Sat ⟨w0, fun b => m0 b ≠ none, F⟩ F [] w) ?_ ?_
   ·skip
    refine St.region ?_
    refine smv rfl rfl ?_
    refine smv rfl rfl ?_
    obtain ⟨x35, e36, hm⟩ := bS hm
    refine sv (v := (.int .u8 ((x35.toNat : Nat) : Int))) (Yields.indexStr (nlit e36) tu9 rfl rfl) rfl ?_
    by_cases q37 : ((x35.toNat : Nat) : Int) < 48
    ·replace hm := iT hm q37
     refine sv (v := vT) (Yields.is q37 (Yields.lt rfl rfl)) rfl ?_
     refine smv rfl rfl ?_
     refine su rfl rfl rfl ?_
     refine su rfl rfl rfl ?_
     refine su rfl rfl rfl ?_
     refine su rfl rfl rfl ?_
     refine spt rfl rfl rfl ?_
     refine St.nil ?_
     obtain rfl := sI hm
     intro a w ha hs
     exact ⟨ha.covers ⟨rfl, rfl, rfl, trivial⟩, (Among.of Among.none _ hs)⟩
    replace hm := iF hm q37
    refine sv (v := vF) (Yields.isnt q37 (Yields.lt rfl rfl)) rfl ?_
    refine smv rfl rfl ?_
    refine St.val (v := (.string (bs z1))) (Yields.move rfl) rfl rfl rfl ?_
    refine St.val (v := (.int .i64 ((s28 : Nat) : Int))) (Yields.move rfl) rfl rfl rfl ?_
    obtain ⟨x38, e39, hm⟩ := bS hm
    refine St.val (v := (.int .u8 ((x38.toNat : Nat) : Int))) (Yields.indexStr (nlit e39) tu9 rfl rfl) rfl rfl rfl ?_
    refine St.val (v := (.bool (decide (((x38.toNat : Nat) : Int) > 57)))) (Yields.gt rfl rfl) rfl rfl rfl ?_
    refine spf rfl rfl rfl ?_
    refine St.nil ?_
    obtain rfl := sI hm
    intro a w ha hs
    exact ⟨ha.covers ⟨rfl, rfl, rfl, trivial⟩, (Among.of Among.none _ hs)⟩
   rintro a w ⟨ha, hs⟩
   replace hm := hk34
   refine St.use (?_ : St _ _ _ _ _ _) ha hs
   clear ha hs a w
   refine St.cond_b rfl ?_ ?_
   ·intro q40
    replace q40 : z33 = true := q40
    replace hm := iT hm q40
    refine ssr ?_
    refine sas rfl rfl ?_
    refine snn ?_
    refine St.ret ?_
    refine St.inret ?_
    refine St.thenret ?_
    refine St.thenret ?_
    refine St.inret ?_
    refine St.thenret ?_
    obtain rfl := sI hm
    obtain rfl := aR ho31
    obtain rfl := aR ho26
    exact St.doneR1 rfl rfl ⟨rfl, rfl⟩ (fun w hs => Among.of Among.none w hs)
   intro q41
   replace q41 : ¬ (z33 = true) := bf q41
   replace hm := iF hm q41
   refine St.skip ?_
   refine St.innorm ?_
   refine St.norm ?_
   refine St.region ?_
   refine smv rfl rfl ?_
   obtain ⟨x42, e43, hm⟩ := bS hm
   refine sv (v := (.int .i64 ((s28 + 1 : Nat) : Int))) (Yields.addn (j := 1) rfl rfl rfl (by have q_0 := q32; have q_1 := (Mir.small_le e43); omega)) rfl ?_
   refine sas rfl rfl ?_
   refine snn ?_
   obtain rfl := sI hm
   intro a w ha hs
   exact ⟨s28 + 1, aL ho31, ha.covers ⟨rfl, rfl, trivial⟩, (Among.of Among.none _ hs)⟩
  intro q44
  replace q44 : ¬ (((s28 : Nat) : Int) < ((z1.length : Nat) : Int)) := of_decide_eq_false q44
  replace hm := iF hm q44
  refine St.exit ?_
  refine St.thenexit ?_
  refine St.thenexit ?_
  refine St.inexit ?_
  obtain rfl := sI hm
  obtain rfl := aR ho31
  intro a w ha hs
  exact ⟨(), rfl, ha.covers trivial, (Among.of Among.none _ hs)⟩
 rintro a w ⟨z24, rfl, ha, hs⟩
 replace hm := aL ho26
 refine St.use (?_ : St _ _ _ _ _ _) ha hs
 clear ha hs a w
 refine ssr ?_
 refine sas rfl rfl ?_
 refine snn ?_
 refine St.ret ?_
 obtain rfl := sI hm
 exact St.doneR1 rfl rfl ⟨rfl, rfl⟩ (fun w hs => Among.of Among.none w hs)
theorem m_ref14_integer_sp {F : PH} {g : Nat} {a0 : List UInt8} {r : Int × Bool} (hm : m_ref14_integer g a0 = some r) :
  CallSp Tryz.prog 33 #[.string (bs a0)] F [] (fun u F' H' => u = (.tuple #[.int .i64 r.1, .bool r.2]) ∧ H' = []) := by

 unfold m_ref14_integer at hm
 refine CallSp.enter (args := [.string (bs a0)]) Tryz.func33 rfl rfl ?_
 intro w0 m0 hm0
 refine ssr ?_
 refine sas rfl rfl ?_
 refine sas rfl rfl ?_
 refine snn ?_
 refine St.seq ?_
 refine ssr ?_
 refine smv rfl rfl ?_
 obtain ⟨q1, e2, hm⟩ := bS hm
 refine St.call [] (m_ref14_isWhole_sp e2) rfl (fun _ ha => ev1 ha rfl) rfl en59 rfl rfl trivial ?_
 rintro _ F3 _ ⟨rfl, rfl⟩ l4
 refine sv (v := (.bool (!q1))) (Yields.not rfl) rfl ?_
 refine snn ?_
 refine St.cond_b rfl ?_ ?_
 ·intro q5
  replace q5 : ¬ (q1 = true) := nb_t q5
  replace hm := iF hm q5
  refine ssr ?_
  refine sas rfl rfl ?_
  refine sas rfl rfl ?_
  refine snn ?_
  refine St.ret ?_
  refine St.thenret ?_
  obtain rfl := sI hm
  exact St.doneR2 rfl rfl rfl ⟨rfl, rfl⟩ (fun w hs => Among.of Among.none w hs)
 intro q6
 replace q6 : q1 = true := nb_f q6
 replace hm := iT hm q6
 refine skn ?_
 refine ssr ?_
 refine smv rfl rfl ?_
 obtain ⟨q7, e8, hm⟩ := bS hm
 refine St.call [] (x_atoi60_sp e8) rfl (fun _ ha => ev1 ha rfl) rfl en60 rfl rfl trivial ?_
 rintro _ F9 _ ⟨rfl, rfl⟩ l10
 refine smv rfl rfl ?_
 refine sv (v := (.int .i64 q7)) (Yields.extract rfl rfl) rfl ?_
 refine sv (v := .nilIface) (Yields.extract rfl rfl) rfl ?_
 refine sas rfl rfl ?_
 refine sas rfl rfl ?_
 refine snn ?_
 refine ssr ?_
 refine smv rfl rfl ?_
 refine sas rfl rfl ?_
 refine sas rfl rfl ?_
 refine snn ?_
 refine St.ret ?_
 obtain rfl := sI hm
 exact St.doneR2 rfl rfl rfl ⟨rfl, rfl⟩ (fun w hs => Among.of Among.none w hs)
theorem m_ref14_number_sp {F : PH} {g : Nat} {a0 : List UInt8} {r : Int × Bool} (hm : m_ref14_number g a0 = some r) :
  CallSp Tryz.prog 15 #[.string (bs a0)] F [] (fun u F' H' => u = (.tuple #[.int .i64 r.1, .bool r.2]) ∧ H' = []) := by

 unfold m_ref14_number at hm
 refine CallSp.enter (args := [.string (bs a0)]) Tryz.func15 rfl rfl ?_
 intro w0 m0 hm0
 refine ssr ?_
 refine sas rfl rfl ?_
 refine sas rfl rfl ?_
 refine snn ?_
 refine St.seq ?_
 obtain ⟨z1, hm, hk2⟩ := bS hm
 refine St.cutI (fun a w => Has Tryz.f15.ntmps a [(0, .string (bs a0)), (10, .bool z1)] ∧ Sat ⟨w0, fun b => m0 b ≠ none, F⟩ F [] w) ?_ ?_
 ·skip
  refine St.region ?_
  refine smv rfl rfl ?_
  by_cases q3 : a0 = ([] : List UInt8)
  ·replace hm := iT hm q3
   refine sv (v := vT) (Yields.is q3 (Yields.eqStr rfl rfl)) rfl ?_
   refine smv rfl rfl ?_
   refine su rfl rfl rfl ?_
   refine su rfl rfl rfl ?_
   refine su rfl rfl rfl ?_
   refine spt rfl rfl rfl ?_
   refine St.nil ?_
   obtain rfl := sI hm
   intro a w ha hs
   exact ⟨ha.covers ⟨rfl, rfl, trivial⟩, (Among.of Among.none _ hs)⟩
  replace hm := iF hm q3
  refine sv (v := vF) (Yields.isnt q3 (Yields.eqStr rfl rfl)) rfl ?_
  refine smv rfl rfl ?_
  refine St.val (v := (.string (bs a0))) (Yields.move rfl) rfl rfl rfl ?_
  obtain ⟨x4, e5, hm⟩ := bS hm
  refine St.val (v := (.int .u8 ((x4.toNat : Nat) : Int))) (Yields.indexStr (nlit e5) tu9 rfl rfl) rfl rfl rfl ?_
  refine St.val (v := (.bool (decide (((x4.toNat : Nat) : Int) = 45)))) (Yields.eq rfl rfl) rfl rfl rfl ?_
  refine spf rfl rfl rfl ?_
  refine St.nil ?_
  obtain rfl := sI hm
  intro a w ha hs
  exact ⟨ha.covers ⟨rfl, rfl, trivial⟩, (Among.of Among.none _ hs)⟩
 rintro a w ⟨ha, hs⟩
 replace hm := hk2
 refine St.use (?_ : St _ _ _ _ _ _) ha hs
 clear ha hs a w
 refine St.cond_b rfl ?_ ?_
 ·intro q6
  replace q6 : z1 = true := q6
  replace hm := iT hm q6
  refine ssr ?_
  refine sas rfl rfl ?_
  refine sas rfl rfl ?_
  refine snn ?_
  refine St.ret ?_
  refine St.thenret ?_
  obtain rfl := sI hm
  exact St.doneR2 rfl rfl rfl ⟨rfl, rfl⟩ (fun w hs => Among.of Among.none w hs)
 intro q7
 replace q7 : ¬ (z1 = true) := bf q7
 replace hm := iF hm q7
 refine skn ?_
 refine ssr ?_
 refine smv rfl rfl ?_
 obtain ⟨q8, e9, hm⟩ := bS hm
 refine St.call [] (m_ref14_integer_sp e9) rfl (fun _ ha => ev1 ha rfl) rfl en33 rfl rfl trivial ?_
 rintro _ F10 _ ⟨rfl, rfl⟩ l11
 refine sv (v := (.int .i64 q8.1)) (Yields.extract rfl rfl) rfl ?_
 refine sv (v := (.bool q8.2)) (Yields.extract rfl rfl) rfl ?_
 refine sas rfl rfl ?_
 refine sas rfl rfl ?_
 refine snn ?_
 refine St.ret ?_
 obtain rfl := sI hm
 exact St.doneR2 rfl rfl rfl ⟨rfl, rfl⟩ (fun w hs => Among.of Among.none w hs)
theorem m_ref14_isRun_sp {F : PH} {g : Nat} {a0 : List UInt8} {r : Bool} (hm : m_ref14_isRun g a0 = some r) :
  CallSp Tryz.prog 16 #[.string (bs a0)] F [] (fun u F' H' => u = (.bool r) ∧ H' = []) := by

 unfold m_ref14_isRun at hm
 refine CallSp.enter (args := [.string (bs a0)]) Tryz.func16 rfl rfl ?_
 intro w0 m0 hm0
 refine ssr ?_
 refine sas rfl rfl ?_
 refine snn ?_
 obtain ⟨o2, hm, ho3⟩ := jS hm
 refine St.cutI (fun a w => ∃ z1 : Unit, o2 = .inl z1 ∧ Has Tryz.f16.ntmps a [(0, .string (bs a0))] ∧ Sat ⟨w0, fun b => m0 b ≠ none, F⟩ F [] w) ?_ ?_
 ·skip
  refine ssr ?_
  refine sas rfl rfl ?_
  refine snn ?_
  refine St.block ?_
  refine St.loopM hm (fun s5 a w => Has Tryz.f16.ntmps a [(0, .string (bs a0)), (3, .int .i64 ((s5 : Nat) : Int))] ∧ Sat ⟨w0, fun b => m0 b ≠ none, F⟩ F [] w) ?_ ?_
  ·skip
   intro a w ha hs
   exact ⟨ha.covers ⟨rfl, rfl, trivial⟩, (Among.of Among.none _ hs)⟩
  rintro s5 o6 co7 hm ho8 a w ⟨ha, hs⟩
  refine St.use (?_ : St _ _ _ _ _ _) ha hs
  clear ha hs a w
  refine St.seq ?_
  refine ssr ?_
  refine smv rfl rfl ?_
  refine smv rfl rfl ?_
  refine sv (v := (.int .i64 ((a0.length : Nat) : Int))) (Yields.lenStr tu9 rfl) rfl ?_
  refine sv (v := (.bool (decide (((s5 : Nat) : Int) < ((a0.length : Nat) : Int))))) (Yields.lt rfl rfl) rfl ?_
  refine snn ?_
  refine St.cond_b rfl ?_ ?_
  ·intro q9
   replace q9 : ((s5 : Nat) : Int) < ((a0.length : Nat) : Int) := of_decide_eq_true q9
   replace hm := iT hm q9
   refine skn ?_
   refine St.seq ?_
   refine St.block ?_
   refine ssr ?_
   refine smv rfl rfl ?_
   refine smv rfl rfl ?_
   obtain ⟨x10, e11, hm⟩ := bS hm
   refine sv (v := (.int .u8 ((x10.toNat : Nat) : Int))) (Yields.indexStr (nlit e11) tu9 rfl rfl) rfl ?_
   refine sas rfl rfl ?_
   refine snn ?_
   obtain ⟨z12, hm, hk13⟩ := bS hm
   refine St.cutI (fun a w => Has Tryz.f16.ntmps a [(0, .string (bs a0)), (3, .int .i64 ((s5 : Nat) : Int)), (39, .bool z12)] ∧ Sat ⟨w0, fun b => m0 b ≠ none, F⟩ F [] w) ?_ ?_
   ·skip
    refine St.region ?_
    refine smv rfl rfl ?_
    by_cases q14 : ((x10.toNat : Nat) : Int) < 97
    ·replace hm := iT hm q14
     refine sv (v := vT) (Yields.is q14 (Yields.lt rfl rfl)) rfl ?_
     refine smv rfl rfl ?_
     refine su rfl rfl rfl ?_
     refine su rfl rfl rfl ?_
     refine spt rfl rfl rfl ?_
     refine smv rfl rfl ?_
     refine St.val (v := (.int .u8 ((x10.toNat : Nat) : Int))) (Yields.move rfl) rfl rfl rfl ?_
     by_cases q15 : ((x10.toNat : Nat) : Int) < 65
     ·replace hm := iT hm q15
      refine St.val (v := vT) (Yields.is q15 (Yields.lt rfl rfl)) rfl rfl rfl ?_
      refine St.val (v := vT) (Yields.move rfl) rfl rfl rfl ?_
      refine su rfl rfl rfl ?_
      refine su rfl rfl rfl ?_
      refine St.val (v := vT) (Yields.pick_t rfl rfl) rfl rfl rfl ?_
      refine spt rfl rfl rfl ?_
      refine smv rfl rfl ?_
      refine St.val (v := (.int .u8 ((x10.toNat : Nat) : Int))) (Yields.move rfl) rfl rfl rfl ?_
      by_cases q16 : ((x10.toNat : Nat) : Int) < 48
      ·replace hm := iT hm q16
       refine St.val (v := vT) (Yields.is q16 (Yields.lt rfl rfl)) rfl rfl rfl ?_
       refine St.val (v := vT) (Yields.move rfl) rfl rfl rfl ?_
       refine su rfl rfl rfl ?_
       refine su rfl rfl rfl ?_
       refine St.val (v := vT) (Yields.pick_t rfl rfl) rfl rfl rfl ?_
       refine spt rfl rfl rfl ?_
       refine smv rfl rfl ?_
       refine St.val (v := (.int .u8 ((x10.toNat : Nat) : Int))) (Yields.move rfl) rfl rfl rfl ?_
       refine St.val (v := (.bool (!decide (((x10.toNat : Nat) : Int) = 95)))) (Yields.ne rfl rfl) rfl rfl rfl ?_
       refine spt rfl rfl rfl ?_
       refine St.nil ?_
       obtain rfl := sI hm
       intro a w ha hs
       exact ⟨ha.covers ⟨rfl, rfl, rfl, trivial⟩, (Among.of Among.none _ hs)⟩
      replace hm := iF hm q16
      refine St.val (v := vF) (Yields.isnt q16 (Yields.lt rfl rfl)) rfl rfl rfl ?_
      refine St.val (v := vF) (Yields.move rfl) rfl rfl rfl ?_
      refine St.val (v := (.int .u8 ((x10.toNat : Nat) : Int))) (Yields.move rfl) rfl rfl rfl ?_
      by_cases q17 : ((x10.toNat : Nat) : Int) > 57
      ·replace hm := iT hm q17
       refine St.val (v := vT) (Yields.is q17 (Yields.gt rfl rfl)) rfl rfl rfl ?_
       refine St.val (v := vT) (Yields.pick_f rfl rfl) rfl rfl rfl ?_
       refine spt rfl rfl rfl ?_
       refine smv rfl rfl ?_
       refine St.val (v := (.int .u8 ((x10.toNat : Nat) : Int))) (Yields.move rfl) rfl rfl rfl ?_
       refine St.val (v := (.bool (!decide (((x10.toNat : Nat) : Int) = 95)))) (Yields.ne rfl rfl) rfl rfl rfl ?_
       refine spt rfl rfl rfl ?_
       refine St.nil ?_
       obtain rfl := sI hm
       intro a w ha hs
       exact ⟨ha.covers ⟨rfl, rfl, rfl, trivial⟩, (Among.of Among.none _ hs)⟩
      replace hm := iF hm q17
      refine St.val (v := vF) (Yields.isnt q17 (Yields.gt rfl rfl)) rfl rfl rfl ?_
      refine St.val (v := vF) (Yields.pick_f rfl rfl) rfl rfl rfl ?_
      refine spt rfl rfl rfl ?_
      refine smv rfl rfl ?_
      refine su rfl rfl rfl ?_
      refine su rfl rfl rfl ?_
      refine spf rfl rfl rfl ?_
      refine St.nil ?_
      obtain rfl := sI hm
      intro a w ha hs
      exact ⟨ha.covers ⟨rfl, rfl, rfl, trivial⟩, (Among.of Among.none _ hs)⟩
     replace hm := iF hm q15
     refine St.val (v := vF) (Yields.isnt q15 (Yields.lt rfl rfl)) rfl rfl rfl ?_
     refine St.val (v := vF) (Yields.move rfl) rfl rfl rfl ?_
     refine St.val (v := (.int .u8 ((x10.toNat : Nat) : Int))) (Yields.move rfl) rfl rfl rfl ?_
     by_cases q18 : ((x10.toNat : Nat) : Int) > 90
     ·replace hm := iT hm q18
      refine St.val (v := vT) (Yields.is q18 (Yields.gt rfl rfl)) rfl rfl rfl ?_
      refine St.val (v := vT) (Yields.pick_f rfl rfl) rfl rfl rfl ?_
      refine spt rfl rfl rfl ?_
      refine smv rfl rfl ?_
      refine St.val (v := (.int .u8 ((x10.toNat : Nat) : Int))) (Yields.move rfl) rfl rfl rfl ?_
      by_cases q19 : ((x10.toNat : Nat) : Int) < 48
      ·replace hm := iT hm q19
       refine St.val (v := vT) (Yields.is q19 (Yields.lt rfl rfl)) rfl rfl rfl ?_
       refine St.val (v := vT) (Yields.move rfl) rfl rfl rfl ?_
       refine su rfl rfl rfl ?_
       refine su rfl rfl rfl ?_
       refine St.val (v := vT) (Yields.pick_t rfl rfl) rfl rfl rfl ?_
       refine spt rfl rfl rfl ?_
       refine smv rfl rfl ?_
       refine St.val (v := (.int .u8 ((x10.toNat : Nat) : Int))) (Yields.move rfl) rfl rfl rfl ?_
       refine St.val (v := (.bool (!decide (((x10.toNat : Nat) : Int) = 95)))) (Yields.ne rfl rfl) rfl rfl rfl ?_
       refine spt rfl rfl rfl ?_
       refine St.nil ?_
       obtain rfl := sI hm
       intro a w ha hs
       exact ⟨ha.covers ⟨rfl, rfl, rfl, trivial⟩, (Among.of Among.none _ hs)⟩
      replace hm := iF hm q19
      refine St.val (v := vF) (Yields.isnt q19 (Yields.lt rfl rfl)) rfl rfl rfl ?_
      refine St.val (v := vF) (Yields.move rfl) rfl rfl rfl ?_
      refine St.val (v := (.int .u8 ((x10.toNat : Nat) : Int))) (Yields.move rfl) rfl rfl rfl ?_
      by_cases q20 : ((x10.toNat : Nat) : Int) > 57
      ·replace hm := iT hm q20
       refine St.val (v := vT) (Yields.is q20 (Yields.gt rfl rfl)) rfl rfl rfl ?_
       refine St.val (v := vT) (Yields.pick_f rfl rfl) rfl rfl rfl ?_
       refine spt rfl rfl rfl ?_
       refine smv rfl rfl ?_
       refine St.val (v := (.int .u8 ((x10.toNat : Nat) : Int))) (Yields.move rfl) rfl rfl rfl ?_
       refine St.val (v := (.bool (!decide (((x10.toNat : Nat) : Int) = 95)))) (Yields.ne rfl rfl) rfl rfl rfl ?_
       refine spt rfl rfl rfl ?_
       refine St.nil ?_
       obtain rfl := sI hm
       intro a w ha hs
       exact ⟨ha.covers ⟨rfl, rfl, rfl, trivial⟩, (Among.of Among.none _ hs)⟩
      replace hm := iF hm q20
      refine St.val (v := vF) (Yields.isnt q20 (Yields.gt rfl rfl)) rfl rfl rfl ?_
      refine St.val (v := vF) (Yields.pick_f rfl rfl) rfl rfl rfl ?_
      refine spt rfl rfl rfl ?_
      refine smv rfl rfl ?_
      refine su rfl rfl rfl ?_
      refine su rfl rfl rfl ?_
      refine spf rfl rfl rfl ?_
      refine St.nil ?_
      obtain rfl := sI hm
      intro a w ha hs
      exact ⟨ha.covers ⟨rfl, rfl, rfl, trivial⟩, (Among.of Among.none _ hs)⟩
     replace hm := iF hm q18
     refine St.val (v := vF) (Yields.isnt q18 (Yields.gt rfl rfl)) rfl rfl rfl ?_
     refine St.val (v := vF) (Yields.pick_f rfl rfl) rfl rfl rfl ?_
     refine spt rfl rfl rfl ?_
     refine smv rfl rfl ?_
     refine su rfl rfl rfl ?_
     refine su rfl rfl rfl ?_
     refine su rfl rfl rfl ?_
     refine St.unwanted trivial rfl rfl ?_
     refine St.unwanted trivial rfl rfl ?_
     refine su rfl rfl rfl ?_
     refine spf rfl rfl rfl ?_
     refine smv rfl rfl ?_
     refine su rfl rfl rfl ?_
     refine su rfl rfl rfl ?_
     refine spf rfl rfl rfl ?_
     refine St.nil ?_
     obtain rfl := sI hm
     intro a w ha hs
     exact ⟨ha.covers ⟨rfl, rfl, rfl, trivial⟩, (Among.of Among.none _ hs)⟩
    replace hm := iF hm q14
    refine sv (v := vF) (Yields.isnt q14 (Yields.lt rfl rfl)) rfl ?_
    refine smv rfl rfl ?_
    refine St.val (v := (.int .u8 ((x10.toNat : Nat) : Int))) (Yields.move rfl) rfl rfl rfl ?_
    by_cases q21 : ((x10.toNat : Nat) : Int) > 122
    ·replace hm := iT hm q21
     refine St.val (v := vT) (Yields.is q21 (Yields.gt rfl rfl)) rfl rfl rfl ?_
     refine spf rfl rfl rfl ?_
     refine smv rfl rfl ?_
     refine St.val (v := (.int .u8 ((x10.toNat : Nat) : Int))) (Yields.move rfl) rfl rfl rfl ?_
     by_cases q22 : ((x10.toNat : Nat) : Int) < 65
     ·replace hm := iT hm q22
      refine St.val (v := vT) (Yields.is q22 (Yields.lt rfl rfl)) rfl rfl rfl ?_
      refine St.val (v := vT) (Yields.move rfl) rfl rfl rfl ?_
      refine su rfl rfl rfl ?_
      refine su rfl rfl rfl ?_
      refine St.val (v := vT) (Yields.pick_t rfl rfl) rfl rfl rfl ?_
      refine spt rfl rfl rfl ?_
      refine smv rfl rfl ?_
      refine St.val (v := (.int .u8 ((x10.toNat : Nat) : Int))) (Yields.move rfl) rfl rfl rfl ?_
      by_cases q23 : ((x10.toNat : Nat) : Int) < 48
      ·replace hm := iT hm q23
       refine St.val (v := vT) (Yields.is q23 (Yields.lt rfl rfl)) rfl rfl rfl ?_
       refine St.val (v := vT) (Yields.move rfl) rfl rfl rfl ?_
       refine su rfl rfl rfl ?_
       refine su rfl rfl rfl ?_
       refine St.val (v := vT) (Yields.pick_t rfl rfl) rfl rfl rfl ?_
       refine spt rfl rfl rfl ?_
       refine smv rfl rfl ?_
       refine St.val (v := (.int .u8 ((x10.toNat : Nat) : Int))) (Yields.move rfl) rfl rfl rfl ?_
       refine St.val (v := (.bool (!decide (((x10.toNat : Nat) : Int) = 95)))) (Yields.ne rfl rfl) rfl rfl rfl ?_
       refine spt rfl rfl rfl ?_
       refine St.nil ?_
       obtain rfl := sI hm
       intro a w ha hs
       exact ⟨ha.covers ⟨rfl, rfl, rfl, trivial⟩, (Among.of Among.none _ hs)⟩
      replace hm := iF hm q23
      refine St.val (v := vF) (Yields.isnt q23 (Yields.lt rfl rfl)) rfl rfl rfl ?_
      refine St.val (v := vF) (Yields.move rfl) rfl rfl rfl ?_
      refine St.val (v := (.int .u8 ((x10.toNat : Nat) : Int))) (Yields.move rfl) rfl rfl rfl ?_
      by_cases q24 : ((x10.toNat : Nat) : Int) > 57
      ·replace hm := iT hm q24
       refine St.val (v := vT) (Yields.is q24 (Yields.gt rfl rfl)) rfl rfl rfl ?_
       refine St.val (v := vT) (Yields.pick_f rfl rfl) rfl rfl rfl ?_
       refine spt rfl rfl rfl ?_
       refine smv rfl rfl ?_
       refine St.val (v := (.int .u8 ((x10.toNat : Nat) : Int))) (Yields.move rfl) rfl rfl rfl ?_
       refine St.val (v := (.bool (!decide (((x10.toNat : Nat) : Int) = 95)))) (Yields.ne rfl rfl) rfl rfl rfl ?_
       refine spt rfl rfl rfl ?_
       refine St.nil ?_
       obtain rfl := sI hm
       intro a w ha hs
       exact ⟨ha.covers ⟨rfl, rfl, rfl, trivial⟩, (Among.of Among.none _ hs)⟩
      replace hm := iF hm q24
      refine St.val (v := vF) (Yields.isnt q24 (Yields.gt rfl rfl)) rfl rfl rfl ?_
      refine St.val (v := vF) (Yields.pick_f rfl rfl) rfl rfl rfl ?_
      refine spt rfl rfl rfl ?_
      refine smv rfl rfl ?_
      refine su rfl rfl rfl ?_
      refine su rfl rfl rfl ?_
      refine spf rfl rfl rfl ?_
      refine St.nil ?_
      obtain rfl := sI hm
      intro a w ha hs
      exact ⟨ha.covers ⟨rfl, rfl, rfl, trivial⟩, (Among.of Among.none _ hs)⟩
     replace hm := iF hm q22
     refine St.val (v := vF) (Yields.isnt q22 (Yields.lt rfl rfl)) rfl rfl rfl ?_
     refine St.val (v := vF) (Yields.move rfl) rfl rfl rfl ?_
     refine St.val (v := (.int .u8 ((x10.toNat : Nat) : Int))) (Yields.move rfl) rfl rfl rfl ?_
     by_cases q25 : ((x10.toNat : Nat) : Int) > 90
     ·replace hm := iT hm q25
      refine St.val (v := vT) (Yields.is q25 (Yields.gt rfl rfl)) rfl rfl rfl ?_
      refine St.val (v := vT) (Yields.pick_f rfl rfl) rfl rfl rfl ?_
      refine spt rfl rfl rfl ?_
      refine smv rfl rfl ?_
      refine St.val (v := (.int .u8 ((x10.toNat : Nat) : Int))) (Yields.move rfl) rfl rfl rfl ?_
      by_cases q26 : ((x10.toNat : Nat) : Int) < 48
      ·replace hm := iT hm q26
       refine St.val (v := vT) (Yields.is q26 (Yields.lt rfl rfl)) rfl rfl rfl ?_
       refine St.val (v := vT) (Yields.move rfl) rfl rfl rfl ?_
       refine su rfl rfl rfl ?_
       refine su rfl rfl rfl ?_
       refine St.val (v := vT) (Yields.pick_t rfl rfl) rfl rfl rfl ?_
       refine spt rfl rfl rfl ?_
       refine smv rfl rfl ?_
       refine St.val (v := (.int .u8 ((x10.toNat : Nat) : Int))) (Yields.move rfl) rfl rfl rfl ?_
       refine St.val (v := (.bool (!decide (((x10.toNat : Nat) : Int) = 95)))) (Yields.ne rfl rfl) rfl rfl rfl ?_
       refine spt rfl rfl rfl ?_
       refine St.nil ?_
       obtain rfl := sI hm
       intro a w ha hs
       exact ⟨ha.covers ⟨rfl, rfl, rfl, trivial⟩, (Among.of Among.none _ hs)⟩
      replace hm := iF hm q26
      refine St.val (v := vF) (Yields.isnt q26 (Yields.lt rfl rfl)) rfl rfl rfl ?_
      refine St.val (v := vF) (Yields.move rfl) rfl rfl rfl ?_
      refine St.val (v := (.int .u8 ((x10.toNat : Nat) : Int))) (Yields.move rfl) rfl rfl rfl ?_
      by_cases q27 : ((x10.toNat : Nat) : Int) > 57
      ·replace hm := iT hm q27
       refine St.val (v := vT) (Yields.is q27 (Yields.gt rfl rfl)) rfl rfl rfl ?_
       refine St.val (v := vT) (Yields.pick_f rfl rfl) rfl rfl rfl ?_
       refine spt rfl rfl rfl ?_
       refine smv rfl rfl ?_
       refine St.val (v := (.int .u8 ((x10.toNat : Nat) : Int))) (Yields.move rfl) rfl rfl rfl ?_
       refine St.val (v := (.bool (!decide (((x10.toNat : Nat) : Int) = 95)))) (Yields.ne rfl rfl) rfl rfl rfl ?_
       refine spt rfl rfl rfl ?_
       refine St.nil ?_
       obtain rfl := sI hm
       intro a w ha hs
       exact ⟨ha.covers ⟨rfl, rfl, rfl, trivial⟩, (Among.of Among.none _ hs)⟩
      replace hm := iF hm q27
      refine St.val (v := vF) (Yields.isnt q27 (Yields.gt rfl rfl)) rfl rfl rfl ?_
      refine St.val (v := vF) (Yields.pick_f rfl rfl) rfl rfl rfl ?_
      refine spt rfl rfl rfl ?_
      refine smv rfl rfl ?_
      refine su rfl rfl rfl ?_
      refine su rfl rfl rfl ?_
      refine spf rfl rfl rfl ?_
      refine St.nil ?_
      obtain rfl := sI hm
      intro a w ha hs
      exact ⟨ha.covers ⟨rfl, rfl, rfl, trivial⟩, (Among.of Among.none _ hs)⟩
     replace hm := iF hm q25
     refine St.val (v := vF) (Yields.isnt q25 (Yields.gt rfl rfl)) rfl rfl rfl ?_
     refine St.val (v := vF) (Yields.pick_f rfl rfl) rfl rfl rfl ?_
     refine spt rfl rfl rfl ?_
     refine smv rfl rfl ?_
     refine su rfl rfl rfl ?_
     refine su rfl rfl rfl ?_
     refine su rfl rfl rfl ?_
     refine St.unwanted trivial rfl rfl ?_
     refine St.unwanted trivial rfl rfl ?_
     refine su rfl rfl rfl ?_
     refine spf rfl rfl rfl ?_
     refine smv rfl rfl ?_
     refine su rfl rfl rfl ?_
     refine su rfl rfl rfl ?_
     refine spf rfl rfl rfl ?_
     refine St.nil ?_
     obtain rfl := sI hm
     intro a w ha hs
     exact ⟨ha.covers ⟨rfl, rfl, rfl, trivial⟩, (Among.of Among.none _ hs)⟩
    replace hm := iF hm q21
    refine St.val (v := vF) (Yields.isnt q21 (Yields.gt rfl rfl)) rfl rfl rfl ?_
    refine spf rfl rfl rfl ?_
    refine smv rfl rfl ?_
    refine su rfl rfl rfl ?_
    refine su rfl rfl rfl ?_
    refine su rfl rfl rfl ?_
    refine St.unwanted trivial rfl rfl ?_
    refine St.unwanted trivial rfl rfl ?_
    refine su rfl rfl rfl ?_
    refine spf rfl rfl rfl ?_
    refine smv rfl rfl ?_
    refine su rfl rfl rfl ?_
    refine su rfl rfl rfl ?_
    refine su rfl rfl rfl ?_
    refine St.unwanted trivial rfl rfl ?_
    refine St.unwanted trivial rfl rfl ?_
    refine su rfl rfl rfl ?_
    refine spf rfl rfl rfl ?_
    refine smv rfl rfl ?_
    refine su rfl rfl rfl ?_
    refine su rfl rfl rfl ?_
    refine spf rfl rfl rfl ?_
    refine St.nil ?_
    obtain rfl := sI hm
    intro a w ha hs
    exact ⟨ha.covers ⟨rfl, rfl, rfl, trivial⟩, (Among.of Among.none _ hs)⟩
   rintro a w ⟨ha, hs⟩
   replace hm := hk13
   refine St.use (?_ : St _ _ _ _ _ _) ha hs
   clear ha hs a w
   refine St.cond_b rfl ?_ ?_
   ·intro q28
    replace q28 : z12 = true := q28
    replace hm := iT hm q28
    refine ssr ?_
    refine sas rfl rfl ?_
    refine snn ?_
    refine St.ret ?_
    refine St.inret ?_
    refine St.thenret ?_
    refine St.thenret ?_
    refine St.inret ?_
    refine St.thenret ?_
    obtain rfl := sI hm
    obtain rfl := aR ho8
    obtain rfl := aR ho3
    exact St.doneR1 rfl rfl ⟨rfl, rfl⟩ (fun w hs => Among.of Among.none w hs)
   intro q29
   replace q29 : ¬ (z12 = true) := bf q29
   replace hm := iF hm q29
   refine St.skip ?_
   refine St.innorm ?_
   refine St.norm ?_
   refine St.region ?_
   refine smv rfl rfl ?_
   obtain ⟨x30, e31, hm⟩ := bS hm
   refine sv (v := (.int .i64 ((s5 + 1 : Nat) : Int))) (Yields.addn (j := 1) rfl rfl rfl (by have q_0 := q9; have q_1 := (Mir.small_le e31); omega)) rfl ?_
   refine sas rfl rfl ?_
   refine snn ?_
   obtain rfl := sI hm
   intro a w ha hs
   exact ⟨s5 + 1, aL ho8, ha.covers ⟨rfl, rfl, trivial⟩, (Among.of Among.none _ hs)⟩
  intro q32
  replace q32 : ¬ (((s5 : Nat) : Int) < ((a0.length : Nat) : Int)) := of_decide_eq_false q32
  replace hm := iF hm q32
  refine St.exit ?_
  refine St.thenexit ?_
  refine St.thenexit ?_
  refine St.inexit ?_
  obtain rfl := sI hm
  obtain rfl := aR ho8
  intro a w ha hs
  exact ⟨(), rfl, ha.covers ⟨rfl, trivial⟩, (Among.of Among.none _ hs)⟩
 rintro a w ⟨z1, rfl, ha, hs⟩
 replace hm := aL ho3
 refine St.use (?_ : St _ _ _ _ _ _) ha hs
 clear ha hs a w
 refine ssr ?_
 refine smv rfl rfl ?_
 refine sv (v := (.bool (!decide (a0 = ([] : List UInt8))))) (Yields.neStr rfl rfl) rfl ?_
 refine sas rfl rfl ?_
 refine snn ?_
 refine St.ret ?_
 obtain rfl := sI hm
 exact St.doneR1 rfl rfl ⟨rfl, rfl⟩ (fun w hs => Among.of Among.none w hs)
theorem m_ref14_all_sp {F : PH} {g : Nat} {a0 : List (List UInt8)} {pA0 : Option Addr} {pc0 : Nat} (ph0 : Fsl 16 Kind.str F pA0 pc0 a0) {r : List Int × Bool} (hm : m_ref14_all g a0 = some r) :
  CallSp Tryz.prog 35 #[.slice pA0 a0.length pc0] F [] (fun u F' H' => ∃ (B0 : Option Addr) (d0 : Nat), u = (.tuple #[.slice B0 r.1.length d0, .bool r.2]) ∧ Fsl 8 (Kind.int .i64) F' B0 d0 r.1 ∧ H' = []) := by

 unfold m_ref14_all at hm
 refine CallSp.enter (args := [.slice pA0 a0.length pc0]) Tryz.func35 rfl rfl ?_
 intro w0 m0 hm0
 refine ssr ?_
 refine sas rfl rfl ?_
 refine sas rfl rfl ?_
 refine snn ?_
 refine ssr ?_
 refine sas rfl rfl ?_
 refine snn ?_
 obtain ⟨o11, hm, ho12⟩ := jS hm
 refine St.cutI (fun a w => ∃ z2 : List Int, o11 = .inl z2 ∧ ∃ (A6 : Option Addr) (c7 : Nat) (cells9 : List Value) (F3 : PH), PH.le F F3 ∧ Cat (Kind.int .i64) F3 cells9 z2 ∧ Bnd 8 z2 ∧ Has Tryz.f35.ntmps a [(4, .slice A6 z2.length c7)] ∧ Sat ⟨w0, fun b => m0 b ≠ none, F⟩ F3 [rowo A6 z2.length c7 3 1 cells9] w) ?_ ?_
 ·skip
  refine ssr ?_
  refine sas rfl rfl ?_
  refine snn ?_
  refine St.block ?_
  refine St.loopM hm (fun s22 a w => ∃ (A27 : Option Addr) (c28 : Nat) (cells30 : List Value) (F32 : PH), PH.le F F32 ∧ Cat (Kind.int .i64) F32 cells30 s22.1 ∧ Bnd 8 s22.1 ∧ Has Tryz.f35.ntmps a [(0, .slice pA0 a0.length pc0), (4, .slice A27 s22.1.length c28), (5, .int .i64 ((s22.2 : Nat) : Int))] ∧ Sat ⟨w0, fun b => m0 b ≠ none, F⟩ F32 [rowo A27 s22.1.length c28 3 1 cells30] w) ?_ ?_
  ·skip
   refine St.rowo_new 3 1 ?_
   intro a w ha hs
   exact ⟨none, 0, [], F, (PH.le_refl _), (show Cat (Kind.int .i64) _ [] [] from rfl), Bnd.of_nil, ha.covers ⟨rfl, rfl, rfl, trivial⟩, (Among.of (Among.take 0 rfl rfl Among.none) _ hs)⟩
  rintro s22 o23 co24 hm ho25 a w ⟨A27, c28, cells30, F32, l33, h29, b31, ha, hs⟩
  refine St.use (?_ : St _ _ _ _ _ _) ha hs
  clear ha hs a w
  refine St.seq ?_
  refine ssr ?_
  refine smv rfl rfl ?_
  refine smv rfl rfl ?_
  refine sv (v := (.int .i64 ((a0.length : Nat) : Int))) (Yields.lenSlice tu29 rfl) rfl ?_
  refine sv (v := (.bool (decide (((s22.2 : Nat) : Int) < ((a0.length : Nat) : Int))))) (Yields.lt rfl rfl) rfl ?_
  refine snn ?_
  refine St.cond_b rfl ?_ ?_
  ·intro q35
   replace q35 : ((s22.2 : Nat) : Int) < ((a0.length : Nat) : Int) := of_decide_eq_true q35
   replace hm := iT hm q35
   refine skn ?_
   refine St.seq ?_
   refine St.block ?_
   refine ssr ?_
   refine smv rfl rfl ?_
   refine smv rfl rfl ?_
   obtain ⟨x36, e37, hm⟩ := bS hm
   obtain ⟨p38, cs39, jx40, R41, k42⟩ := (Fsl.mono l33 ph0).nidx e37
   obtain rfl := R41
   refine sv (v := (.pointer (some p38))) (Yields.idx jx40 ts29 rfl rfl) rfl ?_
   refine sv (v := (.string (bs x36))) (Yields.load rfl (Loads.Fat k42 tc9 rfl)) rfl ?_
   obtain ⟨q43, e44, hm⟩ := bS hm
   refine St.call [rowo A27 s22.1.length c28 3 1 cells30] (m_ref14_number_sp e44) rfl (fun _ ha => ev1 ha rfl) rfl en15 rfl rfl trivial ?_
   rintro _ F45 _ ⟨rfl, rfl⟩ l46
   refine smv rfl rfl ?_
   refine sv (v := (.int .i64 q43.1)) (Yields.extract rfl rfl) rfl ?_
   refine sv (v := (.bool q43.2)) (Yields.extract rfl rfl) rfl ?_
   refine sas rfl rfl ?_
   refine sas rfl rfl ?_
   refine snn ?_
   refine St.seq ?_
   refine ssr ?_
   refine smv rfl rfl ?_
   refine sv (v := (.bool (!q43.2))) (Yields.not rfl) rfl ?_
   refine snn ?_
   refine St.cond_b rfl ?_ ?_
   ·intro q47
    replace q47 : ¬ (q43.2 = true) := nb_t q47
    replace hm := iF hm q47
    refine ssr ?_
    refine sas rfl rfl ?_
    refine sas rfl rfl ?_
    refine snn ?_
    refine St.ret ?_
    refine St.thenret ?_
    refine St.inret ?_
    refine St.thenret ?_
    refine St.thenret ?_
    refine St.inret ?_
    refine St.thenret ?_
    obtain rfl := sI hm
    obtain rfl := aR ho25
    obtain rfl := aR ho12
    exact St.doneR2 rfl rfl rfl ⟨none, 0, rfl, Fsl.nil, rfl⟩ (fun w hs => Among.of Among.none w hs)
   intro q48
   replace q48 : q43.2 = true := nb_f q48
   replace hm := iT hm q48
   refine skn ?_
   refine St.region ?_
   refine smv rfl rfl ?_
   refine smv rfl rfl ?_
   refine St.buildSlice (e := 3) (cells := #[.int .i64 q43.1]) (vs := #[(0, .int .i64 q43.1)]) (fun _ ha => evp1 ha rfl) (fun _ => by kernel_rfl) rfl trivial ?_
   intro b49
   obtain ⟨x54, e55, hm⟩ := bS hm
   refine St.pushL (R := [blk b49 (.cells #[.int .i64 q43.1] 3 (0, 0))]) (R3 := []) e55 ts37 rfl rfl rfl rfl rfl 1 rfl rfl 0 rfl 0 rfl rfl (Cat.mono l46 h29) ⟨[.int .i64 q43.1], _, rfl, rfl, rfl⟩ rfl trivial ?_
   intro A50 c51 cells52 h53
   refine sas rfl rfl ?_
   refine St.nil ?_
   refine St.innorm ?_
   refine St.norm ?_
   refine St.region ?_
   refine smv rfl rfl ?_
   refine sv (v := (.int .i64 ((s22.2 + 1 : Nat) : Int))) (Yields.addn (j := 1) rfl rfl rfl (by have q_0 := q35; have q_1 := ph0.bnd.2; omega)) rfl ?_
   refine sas rfl rfl ?_
   refine snn ?_
   obtain rfl := sI hm
   intro a w ha hs
   exact ⟨(x54, s22.2 + 1), aL ho25, A50, c51, cells52, F45, (PH.le_trans l33 l46), h53, (Bnd.of_push e55), ha.covers ⟨rfl, rfl, rfl, trivial⟩, (Among.of (Among.take 0 rfl rfl Among.none) _ hs)⟩
  intro q57
  replace q57 : ¬ (((s22.2 : Nat) : Int) < ((a0.length : Nat) : Int)) := of_decide_eq_false q57
  replace hm := iF hm q57
  refine St.exit ?_
  refine St.thenexit ?_
  refine St.thenexit ?_
  refine St.inexit ?_
  obtain rfl := sI hm
  obtain rfl := aR ho25
  intro a w ha hs
  exact ⟨s22.1, rfl, A27, c28, cells30, F32, l33, h29, b31, ha.covers ⟨rfl, trivial⟩, (Among.of (Among.take 0 rfl rfl Among.none) _ hs)⟩
 rintro a w ⟨z2, rfl, A6, c7, cells9, F3, l4, h8, b10, ha, hs⟩
 replace hm := aL ho12
 refine St.use (?_ : St _ _ _ _ _ _) ha hs
 clear ha hs a w
 refine ssr ?_
 refine smv rfl rfl ?_
 refine sas rfl rfl ?_
 refine sas rfl rfl ?_
 refine snn ?_
 refine St.ret ?_
 refine St.frz 0 rfl rfl rfl h8 b10 ?_
 intro F58 l59 h60
 obtain rfl := sI hm
 exact St.doneR2 rfl rfl rfl ⟨A6, c7, rfl, h60, rfl⟩ (fun w hs => Among.of Among.none w hs)
theorem m_ref14_made_sp {F : PH} {g : Nat} {a0 : List (List UInt8)} {pA0 : Option Addr} {pc0 : Nat} (ph0 : Fsl 16 Kind.str F pA0 pc0 a0) {r : Int × Int × Int × Int × List UInt8 × List Int × Bool} (hm : m_ref14_made g a0 = some r) :
  CallSp Tryz.prog 34 #[.slice pA0 a0.length pc0] F [] (fun u F' H' => ∃ (B5 : Option Addr) (d5 : Nat), u = (.tuple #[.agg #[.int .i64 r.1, .int .i64 r.2.1, .int .i64 r.2.2.1, .int .i64 r.2.2.2.1, .string (bs r.2.2.2.2.1), .slice B5 r.2.2.2.2.2.1.length d5, .slice none 0 0], .bool r.2.2.2.2.2.2]) ∧ Fsl 8 (Kind.int .i64) F' B5 d5 r.2.2.2.2.2.1 ∧ H' = []) := by

 unfold m_ref14_made at hm
 refine CallSp.enter (args := [.slice pA0 a0.length pc0]) Tryz.func34 rfl rfl ?_
 intro w0 m0 hm0
 refine ssr ?_
 refine St.alloc tz40 trivial rfl ?_
 intro b2
 refine sas rfl rfl ?_
 refine snn ?_
 refine ssr ?_
 refine sv (v := (.agg #[.int .i64 2, .int .i64 0, .int .i64 0, .int .i64 0, .string (bs []), .slice none 0 0, .slice none 0 0])) (Yields.build (v := (.agg #[.int .i64 2, .int .i64 0, .int .i64 0, .int .i64 0, .string (bs []), .slice none 0 0, .slice none 0 0])) (vs := #[(0, .int .i64 2)]) (fun _ ha => evp1 ha rfl) (fun _ => by kernel_rfl)) rfl ?_
 refine St.alloc tz40 trivial rfl ?_
 intro b3
 refine St.storen (R := [blk b2 (.cells #[.int .i64 0, .int .i64 0, .int .i64 0, .int .i64 0, .string (bs []), .slice none 0 0, .slice none 0 0] 40 (0, 0))]) rfl rfl 0 rfl rfl ta40 rfl rfl rfl trivial (cs' := #[.int .i64 2, .int .i64 0, .int .i64 0, .int .i64 0, .string (bs []), .slice none 0 0, .slice none 0 0]) rfl ?_
 refine snn ?_
 refine St.seq ?_
 refine ssr ?_
 refine smv rfl rfl ?_
 refine sv (v := (.int .i64 ((a0.length : Nat) : Int))) (Yields.lenSlice tu29 rfl) rfl ?_
 refine sv (v := (.bool (decide (((a0.length : Nat) : Int) = 0)))) (Yields.eq rfl rfl) rfl ?_
 refine snn ?_
 refine St.cond_b rfl ?_ ?_
 ·intro q4
  replace q4 : ((a0.length : Nat) : Int) = 0 := of_decide_eq_true q4
  replace hm := iT hm q4
  refine ssr ?_
  refine sv (v := (.agg #[.int .i64 2, .int .i64 0, .int .i64 0, .int .i64 0, .string (bs []), .slice none 0 0, .slice none 0 0])) (Yields.load rfl (Loads.Hk (vs := [.int .i64 2, .int .i64 0, .int .i64 0, .int .i64 0, .string (bs []), .slice none 0 0, .slice none 0 0]) 0 rfl ta40 rfl rfl)) rfl ?_
  refine St.storen (R := [blk b3 (.cells #[.int .i64 2, .int .i64 0, .int .i64 0, .int .i64 0, .string (bs []), .slice none 0 0, .slice none 0 0] 40 (0, 0))]) rfl rfl 1 rfl rfl ta40 rfl rfl rfl trivial (cs' := #[.int .i64 2, .int .i64 0, .int .i64 0, .int .i64 0, .string (bs []), .slice none 0 0, .slice none 0 0]) rfl ?_
  refine sas rfl rfl ?_
  refine snn ?_
  refine St.ret ?_
  refine St.thenret ?_
  obtain rfl := sI hm
  exact St.doneR2 rfl (ResOk.cell rfl (Loads.Hk (vs := [.int .i64 2, .int .i64 0, .int .i64 0, .int .i64 0, .string (bs []), .slice none 0 0, .slice none 0 0]) 0 rfl ta40 rfl rfl)) rfl ⟨none, 0, rfl, Fsl.nil, rfl⟩ (fun w hs => Among.of Among.none w hs)
 intro q5
 replace q5 : ¬ (((a0.length : Nat) : Int) = 0) := of_decide_eq_false q5
 replace hm := iF hm q5
 refine skn ?_
 refine St.seq ?_
 refine StD.start [] [blk b3 (.cells #[.int .i64 2, .int .i64 0, .int .i64 0, .int .i64 0, .string (bs []), .slice none 0 0, .slice none 0 0] 40 (0, 0)), blk b2 (.cells #[.int .i64 0, .int .i64 0, .int .i64 0, .int .i64 0, .string (bs []), .slice none 0 0, .slice none 0 0] 40 (0, 0))] hmix ?_
 refine sdp 0 (v := (.slice pA0 a0.length pc0)) (listed' := #[true, false, false, false, false, false, false]) rfl (fun _ => Yields.move rfl) rfl (by kernel_rfl) rfl ?_
 obtain ⟨x6, e7, hm⟩ := bS hm
 replace e7 := nlit e7
 obtain ⟨p8, cs9, jx10, R11, k12⟩ := ph0.idx e7
 obtain rfl := R11
 refine sdp 1 (v := (.pointer (some p8))) (listed' := #[true, true, false, false, false, false, false]) rfl (fun _ => Yields.idx jx10 ts29 rfl rfl) rfl (by kernel_rfl) rfl ?_
 refine sdt [0, 1, 3, 4, 5, 6] 2 (v := (.string (bs x6))) (listed' := #[true, true, true, false, false, false, false]) rfl (Yields.load rfl (Loads.Fat k12 tc9 rfl)) rfl Among.refl (by kernel_rfl) rfl ?_
 refine sdp 3 (v := (.slice pA0 a0.length pc0)) (listed' := #[true, true, true, true, false, false, false]) rfl (fun _ => Yields.move rfl) rfl (by kernel_rfl) rfl ?_
 obtain ⟨x17, e18, hm⟩ := bS hm
 obtain ⟨A13, c14, s15, h16⟩ := ph0.subx e18
 refine sdp 4 (v := (.slice A13 x17.length c14)) (listed' := #[true, true, true, true, true, false, false]) rfl (fun _ => Yields.subD s15 ts29 rfl rfl) rfl (by kernel_rfl) rfl ?_
 refine sdp 5 (v := (.string (bs x6))) (listed' := #[true, true, true, true, true, true, false]) rfl (fun _ => Yields.assign rfl) rfl (by kernel_rfl) rfl ?_
 refine sdp 6 (v := (.slice A13 x17.length c14)) (listed' := #[true, true, true, true, true, true, true]) rfl (fun _ => Yields.assign rfl) rfl (by kernel_rfl) rfl ?_
 refine StD.done (by kernel_rfl) ?_
 refine St.norm ?_
 obtain ⟨o27, hm, ho28⟩ := jS hm
 refine St.cutI (fun a w => ∃ z20 : Nat × List UInt8 × List (List UInt8), o27 = .inl z20 ∧ ∃ (A24 : Option Addr) (c25 : Nat) (F21 : PH), PH.le F F21 ∧ Fsl 16 Kind.str F21 A24 c25 z20.2.2 ∧ Has Tryz.f34.ntmps a [(2, .pointer (some ⟨b2, 0, none⟩)), (4, .pointer (some ⟨b3, 0, none⟩)), (6, .slice A24 z20.2.2.length c25)] ∧ Sat ⟨w0, fun b => m0 b ≠ none, F⟩ F21 [blk b2 (.cells #[.int .i64 0, .int .i64 0, .int .i64 0, .int .i64 0, .string (bs []), .slice none 0 0, .slice none 0 0] 40 (0, 0)), blk b3 (.cells #[.int .i64 2, .int .i64 0, .int .i64 0, .int .i64 ((z20.1 : Nat) : Int), .string (bs z20.2.1), .slice none 0 0, .slice none 0 0] 40 (0, 0))] w) ?_ ?_
 ·skip
  refine ssr ?_
  refine smv rfl rfl ?_
  refine snn ?_
  refine St.block ?_
  obtain ⟨z29, hm, hk30⟩ := bS hm
  refine St.cutI (fun a w => Has Tryz.f34.ntmps a [(2, .pointer (some ⟨b2, 0, none⟩)), (4, .pointer (some ⟨b3, 0, none⟩)), (5, .string (bs x6)), (6, .slice A13 x17.length c14), (21, .string (bs x6)), (23, .bool z29)] ∧ Sat ⟨w0, fun b => m0 b ≠ none, F⟩ F [blk b2 (.cells #[.int .i64 0, .int .i64 0, .int .i64 0, .int .i64 0, .string (bs []), .slice none 0 0, .slice none 0 0] 40 (0, 0)), blk b3 (.cells #[.int .i64 2, .int .i64 0, .int .i64 0, .int .i64 0, .string (bs []), .slice none 0 0, .slice none 0 0] 40 (0, 0))] w) ?_ ?_
  ·skip
   refine ssr ?_
   refine sv (v := (.bool (decide (x6 = ([99, 111, 110] : List UInt8))))) (Yields.eqStr rfl rfl) rfl ?_
   refine sas rfl rfl ?_
   refine snn ?_
   refine St.cond_b rfl ?_ ?_
   ·intro q31
    replace q31 : x6 = ([99, 111, 110] : List UInt8) := of_decide_eq_true q31
    replace hm := iT hm q31
    refine St.skip ?_
    obtain rfl := sI hm
    intro a w ha hs
    exact ⟨ha.covers ⟨rfl, rfl, rfl, rfl, rfl, rfl, trivial⟩, (Among.of (Among.take 1 rfl rfl (Among.take 0 rfl rfl Among.none)) _ hs)⟩
   intro q32
   replace q32 : ¬ (x6 = ([99, 111, 110] : List UInt8)) := of_decide_eq_false q32
   replace hm := iF hm q32
   refine St.region ?_
   refine sv (v := (.bool (decide (x6 = ([99, 97, 108, 108] : List UInt8))))) (Yields.eqStr rfl rfl) rfl ?_
   refine sas rfl rfl ?_
   refine St.nil ?_
   obtain rfl := sI hm
   intro a w ha hs
   exact ⟨ha.covers ⟨rfl, rfl, rfl, rfl, rfl, rfl, trivial⟩, (Among.of (Among.take 1 rfl rfl (Among.take 0 rfl rfl Among.none)) _ hs)⟩
  rintro a w ⟨ha, hs⟩
  replace hm := hk30
  refine St.use (?_ : St _ _ _ _ _ _) ha hs
  clear ha hs a w
  refine St.cond_b rfl ?_ ?_
  ·intro q33
   replace q33 : z29 = true := q33
   replace hm := iT hm q33
   refine St.seq ?_
   obtain ⟨z34, hm, hk37⟩ := bS hm
   refine St.cutI (fun a w => ∃ (F35 : PH), PH.le F F35 ∧ Has Tryz.f34.ntmps a [(2, .pointer (some ⟨b2, 0, none⟩)), (4, .pointer (some ⟨b3, 0, none⟩)), (5, .string (bs x6)), (6, .slice A13 x17.length c14), (35, .bool z34)] ∧ Sat ⟨w0, fun b => m0 b ≠ none, F⟩ F35 [blk b2 (.cells #[.int .i64 0, .int .i64 0, .int .i64 0, .int .i64 0, .string (bs []), .slice none 0 0, .slice none 0 0] 40 (0, 0)), blk b3 (.cells #[.int .i64 2, .int .i64 0, .int .i64 0, .int .i64 0, .string (bs []), .slice none 0 0, .slice none 0 0] 40 (0, 0))] w) ?_ ?_
   ·skip
    refine St.region ?_
    refine smv rfl rfl ?_
    refine sv (v := (.int .i64 ((x17.length : Nat) : Int))) (Yields.lenSlice tu29 rfl) rfl ?_
    by_cases q38 : ((x17.length : Nat) : Int) = 0
    ·replace hm := iT hm q38
     refine sv (v := vT) (Yields.is q38 (Yields.eq rfl rfl)) rfl ?_
     refine smv rfl rfl ?_
     refine su rfl rfl rfl ?_
     refine su rfl rfl rfl ?_
     refine su rfl rfl rfl ?_
     refine su rfl rfl rfl ?_
     refine su rfl rfl rfl ?_
     refine spt rfl rfl rfl ?_
     refine St.nil ?_
     obtain rfl := sI hm
     intro a w ha hs
     exact ⟨F, (PH.le_refl _), ha.covers ⟨rfl, rfl, rfl, rfl, rfl, trivial⟩, (Among.of (Among.take 0 rfl rfl (Among.take 0 rfl rfl Among.none)) _ hs)⟩
    replace hm := iF hm q38
    refine sv (v := vF) (Yields.isnt q38 (Yields.eq rfl rfl)) rfl ?_
    refine smv rfl rfl ?_
    refine St.val (v := (.slice A13 x17.length c14)) (Yields.move rfl) rfl rfl rfl ?_
    obtain ⟨x39, e40, hm⟩ := bS hm
    replace e40 := nlit e40
    obtain ⟨p41, cs42, jx43, R44, k45⟩ := h16.idx e40
    obtain rfl := R44
    refine St.val (v := (.pointer (some p41))) (Yields.idx jx43 ts29 rfl rfl) rfl rfl rfl ?_
    refine St.val (v := (.string (bs x39))) (Yields.load rfl (Loads.Fat k45 tc9 rfl)) rfl rfl rfl ?_
    obtain ⟨q46, e47, hm⟩ := bS hm
    refine St.call [blk b2 (.cells #[.int .i64 0, .int .i64 0, .int .i64 0, .int .i64 0, .string (bs []), .slice none 0 0, .slice none 0 0] 40 (0, 0)), blk b3 (.cells #[.int .i64 2, .int .i64 0, .int .i64 0, .int .i64 0, .string (bs []), .slice none 0 0, .slice none 0 0] 40 (0, 0))] (m_ref14_isRun_sp e47) rfl (fun _ ha => ev1 ha rfl) rfl en16 rfl rfl rfl ?_
    rintro _ F48 _ ⟨rfl, rfl⟩ l49
    refine St.val (v := (.bool (!q46))) (Yields.not rfl) rfl rfl rfl ?_
    refine spf rfl rfl rfl ?_
    refine St.nil ?_
    obtain rfl := sI hm
    intro a w ha hs
    exact ⟨F48, l49, ha.covers ⟨rfl, rfl, rfl, rfl, rfl, trivial⟩, (Among.of (Among.take 0 rfl rfl (Among.take 0 rfl rfl Among.none)) _ hs)⟩
   rintro a w ⟨F35, l36, ha, hs⟩
   replace hm := hk37
   refine St.use (?_ : St _ _ _ _ _ _) ha hs
   clear ha hs a w
   refine St.cond_b rfl ?_ ?_
   ·intro q50
    replace q50 : z34 = true := q50
    replace hm := iT hm q50
    refine ssr ?_
    refine sv (v := (.agg #[.int .i64 2, .int .i64 0, .int .i64 0, .int .i64 0, .string (bs []), .slice none 0 0, .slice none 0 0])) (Yields.load rfl (Loads.Hk (vs := [.int .i64 2, .int .i64 0, .int .i64 0, .int .i64 0, .string (bs []), .slice none 0 0, .slice none 0 0]) 1 rfl ta40 rfl rfl)) rfl ?_
    refine St.storen (R := [blk b3 (.cells #[.int .i64 2, .int .i64 0, .int .i64 0, .int .i64 0, .string (bs []), .slice none 0 0, .slice none 0 0] 40 (0, 0))]) rfl rfl 0 rfl rfl ta40 rfl rfl rfl trivial (cs' := #[.int .i64 2, .int .i64 0, .int .i64 0, .int .i64 0, .string (bs []), .slice none 0 0, .slice none 0 0]) rfl ?_
    refine sas rfl rfl ?_
    refine snn ?_
    refine St.ret ?_
    refine St.thenret ?_
    refine St.inret ?_
    refine St.thenret ?_
    obtain rfl := sI hm
    obtain rfl := aR ho28
    exact St.doneR2 rfl (ResOk.cell rfl (Loads.Hk (vs := [.int .i64 2, .int .i64 0, .int .i64 0, .int .i64 0, .string (bs []), .slice none 0 0, .slice none 0 0]) 0 rfl ta40 rfl rfl)) rfl ⟨none, 0, rfl, Fsl.nil, rfl⟩ (fun w hs => Among.of Among.none w hs)
   intro q51
   replace q51 : ¬ (z34 = true) := bf q51
   replace hm := iF hm q51
   refine skn ?_
   refine St.seq ?_
   refine StD.start [6] [blk b2 (.cells #[.int .i64 0, .int .i64 0, .int .i64 0, .int .i64 0, .string (bs []), .slice none 0 0, .slice none 0 0] 40 (0, 0)), blk b3 (.cells #[.int .i64 2, .int .i64 0, .int .i64 0, .int .i64 0, .string (bs []), .slice none 0 0, .slice none 0 0] 40 (0, 0))] hmix ?_
   refine sdp 0 (v := (.slice A13 x17.length c14)) (listed' := #[true, false, false, false, false, false, false, false]) rfl (fun _ => Yields.move rfl) rfl (by kernel_rfl) rfl ?_
   obtain ⟨x52, e53, hm⟩ := bS hm
   replace e53 := nlit e53
   obtain ⟨p54, cs55, jx56, R57, k58⟩ := (Fsl.mono l36 h16).idx e53
   obtain rfl := R57
   refine sdp 1 (v := (.pointer (some p54))) (listed' := #[true, true, false, false, false, false, false, false]) rfl (fun _ => Yields.idx jx56 ts29 rfl rfl) rfl (by kernel_rfl) rfl ?_
   refine sdt [0, 1, 3, 4, 5, 7] 2 (v := (.string (bs x52))) (listed' := #[true, true, true, false, false, false, false, false]) rfl (Yields.load rfl (Loads.Fat k58 tc9 rfl)) rfl Among.refl (by kernel_rfl) rfl ?_
   refine sdp 3 (v := (.slice A13 x17.length c14)) (listed' := #[true, true, true, true, false, false, false, false]) rfl (fun _ => Yields.move rfl) rfl (by kernel_rfl) rfl ?_
   obtain ⟨x63, e64, hm⟩ := bS hm
   obtain ⟨A59, c60, s61, h62⟩ := (Fsl.mono l36 h16).subx e64
   refine sdp 4 (v := (.slice A59 x63.length c60)) (listed' := #[true, true, true, true, true, false, false, false]) rfl (fun _ => Yields.subD s61 ts29 rfl rfl) rfl (by kernel_rfl) rfl ?_
   refine sdp 5 (v := (.pointer (some ⟨b3, 4, none⟩))) (listed' := #[true, true, true, true, true, true, false, false]) rfl (fun _ => Yields.fieldAddr (v := (.pointer (some ⟨b3, 4, none⟩))) rfl (fun _ => by kernel_rfl)) rfl (by kernel_rfl) rfl ?_
   refine StD.only (i := 6) rfl (by kernel_rfl) (listed' := #[true, true, true, true, true, true, true, false]) rfl ?_
   intro hcl66
   refine St.store (R := [blk b2 (.cells #[.int .i64 0, .int .i64 0, .int .i64 0, .int .i64 0, .string (bs []), .slice none 0 0, .slice none 0 0] 40 (0, 0))]) rfl rfl 1 rfl rfl tc9 rfl rfl trivial (cs' := #[.int .i64 2, .int .i64 0, .int .i64 0, .int .i64 0, .string (bs x52), .slice none 0 0, .slice none 0 0]) rfl ?_
   refine StD.next hcl66 (fun h => by cases h) ?_
   refine sdp 7 (v := (.slice A59 x63.length c60)) (listed' := #[true, true, true, true, true, true, true, true]) rfl (fun _ => Yields.assign rfl) rfl (by kernel_rfl) rfl ?_
   refine StD.done (by kernel_rfl) ?_
   refine St.norm ?_
   refine ssr ?_
   refine sfa (v := (.pointer (some ⟨b3, 3, none⟩))) rfl (fun _ => by kernel_rfl) rfl ?_
   refine St.store (R := [blk b2 (.cells #[.int .i64 0, .int .i64 0, .int .i64 0, .int .i64 0, .string (bs []), .slice none 0 0, .slice none 0 0] 40 (0, 0))]) rfl rfl 0 rfl rfl tc3 rfl rfl trivial (cs' := #[.int .i64 2, .int .i64 0, .int .i64 0, .int .i64 1, .string (bs x52), .slice none 0 0, .slice none 0 0]) rfl ?_
   refine snn ?_
   refine ssr ?_
   refine smv rfl rfl ?_
   refine sv (v := (.bool (decide (x6 = ([99, 97, 108, 108] : List UInt8))))) (Yields.eqStr rfl rfl) rfl ?_
   refine snn ?_
   refine St.cond_b rfl ?_ ?_
   ·intro q67
    replace q67 : x6 = ([99, 97, 108, 108] : List UInt8) := of_decide_eq_true q67
    replace hm := iT hm q67
    refine St.region ?_
    refine sfa (v := (.pointer (some ⟨b3, 3, none⟩))) rfl (fun _ => by kernel_rfl) rfl ?_
    refine St.store (R := [blk b2 (.cells #[.int .i64 0, .int .i64 0, .int .i64 0, .int .i64 0, .string (bs []), .slice none 0 0, .slice none 0 0] 40 (0, 0))]) rfl rfl 0 rfl rfl tc3 rfl rfl trivial (cs' := #[.int .i64 2, .int .i64 0, .int .i64 0, .int .i64 3, .string (bs x52), .slice none 0 0, .slice none 0 0]) rfl ?_
    refine St.nil ?_
    refine St.innorm ?_
    obtain rfl := sI hm
    intro a w ha hs
    exact ⟨((3 : Nat), x52, x63), rfl, A59, c60, F35, l36, h62, ha.covers ⟨rfl, rfl, rfl, trivial⟩, (Among.of (Among.take 1 rfl rfl (Among.take 0 rfl rfl Among.none)) _ hs)⟩
   intro q68
   replace q68 : ¬ (x6 = ([99, 97, 108, 108] : List UInt8)) := of_decide_eq_false q68
   replace hm := iF hm q68
   refine St.skip ?_
   refine St.innorm ?_
   obtain rfl := sI hm
   intro a w ha hs
   exact ⟨((1 : Nat), x52, x63), rfl, A59, c60, F35, l36, h62, ha.covers ⟨rfl, rfl, rfl, trivial⟩, (Among.of (Among.take 1 rfl rfl (Among.take 0 rfl rfl Among.none)) _ hs)⟩
  intro q69
  replace q69 : ¬ (z29 = true) := bf q69
  replace hm := iF hm q69
  refine ssr ?_
  refine sv (v := (.bool (decide (x6 = ([105, 110, 116] : List UInt8))))) (Yields.eqStr rfl rfl) rfl ?_
  refine sas rfl rfl ?_
  refine snn ?_
  refine St.cond_b rfl ?_ ?_
  ·intro q70
   replace q70 : x6 = ([105, 110, 116] : List UInt8) := of_decide_eq_true q70
   replace hm := iT hm q70
   refine St.seq ?_
   refine ssr ?_
   refine smv rfl rfl ?_
   refine sv (v := (.int .i64 ((x17.length : Nat) : Int))) (Yields.lenSlice tu29 rfl) rfl ?_
   refine sv (v := (.bool (!decide (((x17.length : Nat) : Int) = 1)))) (Yields.ne rfl rfl) rfl ?_
   refine snn ?_
   refine St.cond_b rfl ?_ ?_
   ·intro q71
    replace q71 : ¬ (((x17.length : Nat) : Int) = 1) := nd_t q71
    replace hm := iF hm q71
    refine ssr ?_
    refine sv (v := (.agg #[.int .i64 2, .int .i64 0, .int .i64 0, .int .i64 0, .string (bs []), .slice none 0 0, .slice none 0 0])) (Yields.load rfl (Loads.Hk (vs := [.int .i64 2, .int .i64 0, .int .i64 0, .int .i64 0, .string (bs []), .slice none 0 0, .slice none 0 0]) 1 rfl ta40 rfl rfl)) rfl ?_
    refine St.storen (R := [blk b3 (.cells #[.int .i64 2, .int .i64 0, .int .i64 0, .int .i64 0, .string (bs []), .slice none 0 0, .slice none 0 0] 40 (0, 0))]) rfl rfl 0 rfl rfl ta40 rfl rfl rfl trivial (cs' := #[.int .i64 2, .int .i64 0, .int .i64 0, .int .i64 0, .string (bs []), .slice none 0 0, .slice none 0 0]) rfl ?_
    refine sas rfl rfl ?_
    refine snn ?_
    refine St.ret ?_
    refine St.thenret ?_
    refine St.inret ?_
    refine St.thenret ?_
    obtain rfl := sI hm
    obtain rfl := aR ho28
    exact St.doneR2 rfl (ResOk.cell rfl (Loads.Hk (vs := [.int .i64 2, .int .i64 0, .int .i64 0, .int .i64 0, .string (bs []), .slice none 0 0, .slice none 0 0]) 0 rfl ta40 rfl rfl)) rfl ⟨none, 0, rfl, Fsl.nil, rfl⟩ (fun w hs => Among.of Among.none w hs)
   intro q72
   replace q72 : ((x17.length : Nat) : Int) = 1 := nd_f q72
   replace hm := iT hm q72
   refine skn ?_
   refine ssr ?_
   refine smv rfl rfl ?_
   obtain ⟨x73, e74, hm⟩ := bS hm
   replace e74 := nlit e74
   obtain ⟨p75, cs76, jx77, R78, k79⟩ := h16.idx e74
   obtain rfl := R78
   refine sv (v := (.pointer (some p75))) (Yields.idx jx77 ts29 rfl rfl) rfl ?_
   refine sv (v := (.string (bs x73))) (Yields.load rfl (Loads.Fat k79 tc9 rfl)) rfl ?_
   obtain ⟨q80, e81, hm⟩ := bS hm
   refine St.call [blk b2 (.cells #[.int .i64 0, .int .i64 0, .int .i64 0, .int .i64 0, .string (bs []), .slice none 0 0, .slice none 0 0] 40 (0, 0)), blk b3 (.cells #[.int .i64 2, .int .i64 0, .int .i64 0, .int .i64 0, .string (bs []), .slice none 0 0, .slice none 0 0] 40 (0, 0))] (m_ref14_integer_sp e81) rfl (fun _ ha => ev1 ha rfl) rfl en33 rfl rfl trivial ?_
   rintro _ F82 _ ⟨rfl, rfl⟩ l83
   refine smv rfl rfl ?_
   refine sv (v := (.int .i64 q80.1)) (Yields.extract rfl rfl) rfl ?_
   refine sv (v := (.bool q80.2)) (Yields.extract rfl rfl) rfl ?_
   refine sas rfl rfl ?_
   refine sas rfl rfl ?_
   refine snn ?_
   refine ssr ?_
   refine smv rfl rfl ?_
   refine sfa (v := (.pointer (some ⟨b3, 3, none⟩))) rfl (fun _ => by kernel_rfl) rfl ?_
   refine St.store (R := [blk b2 (.cells #[.int .i64 0, .int .i64 0, .int .i64 0, .int .i64 0, .string (bs []), .slice none 0 0, .slice none 0 0] 40 (0, 0))]) rfl rfl 1 rfl rfl tc3 rfl rfl trivial (cs' := #[.int .i64 2, .int .i64 0, .int .i64 0, .int .i64 2, .string (bs []), .slice none 0 0, .slice none 0 0]) rfl ?_
   refine sfa (v := (.pointer (some ⟨b3, 1, none⟩))) rfl (fun _ => by kernel_rfl) rfl ?_
   refine St.store (R := [blk b2 (.cells #[.int .i64 0, .int .i64 0, .int .i64 0, .int .i64 0, .string (bs []), .slice none 0 0, .slice none 0 0] 40 (0, 0))]) rfl rfl 0 rfl rfl tc3 rfl rfl trivial (cs' := #[.int .i64 2, .int .i64 q80.1, .int .i64 0, .int .i64 2, .string (bs []), .slice none 0 0, .slice none 0 0]) rfl ?_
   refine snn ?_
   refine ssr ?_
   refine sv (v := (.agg #[.int .i64 2, .int .i64 q80.1, .int .i64 0, .int .i64 2, .string (bs []), .slice none 0 0, .slice none 0 0])) (Yields.load rfl (Loads.Hk (vs := [.int .i64 2, .int .i64 q80.1, .int .i64 0, .int .i64 2, .string (bs []), .slice none 0 0, .slice none 0 0]) 0 rfl ta40 rfl rfl)) rfl ?_
   refine smv rfl rfl ?_
   refine St.storen (R := [blk b3 (.cells #[.int .i64 2, .int .i64 q80.1, .int .i64 0, .int .i64 2, .string (bs []), .slice none 0 0, .slice none 0 0] 40 (0, 0))]) rfl rfl 1 rfl rfl ta40 rfl rfl rfl trivial (cs' := #[.int .i64 2, .int .i64 q80.1, .int .i64 0, .int .i64 2, .string (bs []), .slice none 0 0, .slice none 0 0]) rfl ?_
   refine sas rfl rfl ?_
   refine snn ?_
   refine St.ret ?_
   refine St.inret ?_
   refine St.thenret ?_
   obtain rfl := sI hm
   obtain rfl := aR ho28
   exact St.doneR2 rfl (ResOk.cell rfl (Loads.Hk (vs := [.int .i64 2, .int .i64 q80.1, .int .i64 0, .int .i64 2, .string (bs []), .slice none 0 0, .slice none 0 0]) 0 rfl ta40 rfl rfl)) rfl ⟨none, 0, rfl, Fsl.nil, rfl⟩ (fun w hs => Among.of Among.none w hs)
  intro q84
  replace q84 : ¬ (x6 = ([105, 110, 116] : List UInt8)) := of_decide_eq_false q84
  replace hm := iF hm q84
  refine ssr ?_
  refine sv (v := (.bool (decide (x6 = ([97, 112, 112, 108, 121] : List UInt8))))) (Yields.eqStr rfl rfl) rfl ?_
  refine sas rfl rfl ?_
  refine snn ?_
  refine St.cond_b rfl ?_ ?_
  ·intro q85
   replace q85 : x6 = ([97, 112, 112, 108, 121] : List UInt8) := of_decide_eq_true q85
   replace hm := iT hm q85
   refine St.region ?_
   refine sfa (v := (.pointer (some ⟨b3, 3, none⟩))) rfl (fun _ => by kernel_rfl) rfl ?_
   refine St.store (R := [blk b2 (.cells #[.int .i64 0, .int .i64 0, .int .i64 0, .int .i64 0, .string (bs []), .slice none 0 0, .slice none 0 0] 40 (0, 0))]) rfl rfl 1 rfl rfl tc3 rfl rfl trivial (cs' := #[.int .i64 2, .int .i64 0, .int .i64 0, .int .i64 4, .string (bs []), .slice none 0 0, .slice none 0 0]) rfl ?_
   refine St.nil ?_
   refine St.innorm ?_
   obtain rfl := sI hm
   intro a w ha hs
   exact ⟨((4 : Nat), ([] : List UInt8), x17), rfl, A13, c14, F, (PH.le_refl _), h16, ha.covers ⟨rfl, rfl, rfl, trivial⟩, (Among.of (Among.take 1 rfl rfl (Among.take 0 rfl rfl Among.none)) _ hs)⟩
  intro q86
  replace q86 : ¬ (x6 = ([97, 112, 112, 108, 121] : List UInt8)) := of_decide_eq_false q86
  replace hm := iF hm q86
  refine ssr ?_
  refine sv (v := (.bool (decide (x6 = ([111, 114] : List UInt8))))) (Yields.eqStr rfl rfl) rfl ?_
  refine sas rfl rfl ?_
  refine snn ?_
  refine St.cond_b rfl ?_ ?_
  ·intro q87
   replace q87 : x6 = ([111, 114] : List UInt8) := of_decide_eq_true q87
   replace hm := iT hm q87
   refine St.region ?_
   refine sfa (v := (.pointer (some ⟨b3, 3, none⟩))) rfl (fun _ => by kernel_rfl) rfl ?_
   refine St.store (R := [blk b2 (.cells #[.int .i64 0, .int .i64 0, .int .i64 0, .int .i64 0, .string (bs []), .slice none 0 0, .slice none 0 0] 40 (0, 0))]) rfl rfl 1 rfl rfl tc3 rfl rfl trivial (cs' := #[.int .i64 2, .int .i64 0, .int .i64 0, .int .i64 5, .string (bs []), .slice none 0 0, .slice none 0 0]) rfl ?_
   refine St.nil ?_
   refine St.innorm ?_
   obtain rfl := sI hm
   intro a w ha hs
   exact ⟨((5 : Nat), ([] : List UInt8), x17), rfl, A13, c14, F, (PH.le_refl _), h16, ha.covers ⟨rfl, rfl, rfl, trivial⟩, (Among.of (Among.take 1 rfl rfl (Among.take 0 rfl rfl Among.none)) _ hs)⟩
  intro q88
  replace q88 : ¬ (x6 = ([111, 114] : List UInt8)) := of_decide_eq_false q88
  replace hm := iF hm q88
  refine ssr ?_
  refine sv (v := (.bool (decide (x6 = ([102, 97, 105, 108] : List UInt8))))) (Yields.eqStr rfl rfl) rfl ?_
  refine sas rfl rfl ?_
  refine snn ?_
  refine St.cond_b rfl ?_ ?_
  ·intro q89
   replace q89 : x6 = ([102, 97, 105, 108] : List UInt8) := of_decide_eq_true q89
   replace hm := iT hm q89
   refine ssr ?_
   refine sfa (v := (.pointer (some ⟨b3, 3, none⟩))) rfl (fun _ => by kernel_rfl) rfl ?_
   refine St.store (R := [blk b2 (.cells #[.int .i64 0, .int .i64 0, .int .i64 0, .int .i64 0, .string (bs []), .slice none 0 0, .slice none 0 0] 40 (0, 0))]) rfl rfl 1 rfl rfl tc3 rfl rfl trivial (cs' := #[.int .i64 2, .int .i64 0, .int .i64 0, .int .i64 7, .string (bs []), .slice none 0 0, .slice none 0 0]) rfl ?_
   refine snn ?_
   refine ssr ?_
   refine sv (v := (.agg #[.int .i64 2, .int .i64 0, .int .i64 0, .int .i64 7, .string (bs []), .slice none 0 0, .slice none 0 0])) (Yields.load rfl (Loads.Hk (vs := [.int .i64 2, .int .i64 0, .int .i64 0, .int .i64 7, .string (bs []), .slice none 0 0, .slice none 0 0]) 0 rfl ta40 rfl rfl)) rfl ?_
   refine smv rfl rfl ?_
   refine sv (v := (.int .i64 ((x17.length : Nat) : Int))) (Yields.lenSlice tu29 rfl) rfl ?_
   refine sv (v := (.bool (decide (((x17.length : Nat) : Int) = 0)))) (Yields.eq rfl rfl) rfl ?_
   refine St.storen (R := [blk b3 (.cells #[.int .i64 2, .int .i64 0, .int .i64 0, .int .i64 7, .string (bs []), .slice none 0 0, .slice none 0 0] 40 (0, 0))]) rfl rfl 1 rfl rfl ta40 rfl rfl rfl trivial (cs' := #[.int .i64 2, .int .i64 0, .int .i64 0, .int .i64 7, .string (bs []), .slice none 0 0, .slice none 0 0]) rfl ?_
   refine sas rfl rfl ?_
   refine snn ?_
   refine St.ret ?_
   refine St.inret ?_
   refine St.thenret ?_
   obtain rfl := sI hm
   obtain rfl := aR ho28
   exact St.doneR2 rfl (ResOk.cell rfl (Loads.Hk (vs := [.int .i64 2, .int .i64 0, .int .i64 0, .int .i64 7, .string (bs []), .slice none 0 0, .slice none 0 0]) 0 rfl ta40 rfl rfl)) rfl ⟨none, 0, rfl, Fsl.nil, rfl⟩ (fun w hs => Among.of Among.none w hs)
  intro q90
  replace q90 : ¬ (x6 = ([102, 97, 105, 108] : List UInt8)) := of_decide_eq_false q90
  replace hm := iF hm q90
  refine ssr ?_
  refine sv (v := (.agg #[.int .i64 2, .int .i64 0, .int .i64 0, .int .i64 0, .string (bs []), .slice none 0 0, .slice none 0 0])) (Yields.load rfl (Loads.Hk (vs := [.int .i64 2, .int .i64 0, .int .i64 0, .int .i64 0, .string (bs []), .slice none 0 0, .slice none 0 0]) 1 rfl ta40 rfl rfl)) rfl ?_
  refine St.storen (R := [blk b3 (.cells #[.int .i64 2, .int .i64 0, .int .i64 0, .int .i64 0, .string (bs []), .slice none 0 0, .slice none 0 0] 40 (0, 0))]) rfl rfl 0 rfl rfl ta40 rfl rfl rfl trivial (cs' := #[.int .i64 2, .int .i64 0, .int .i64 0, .int .i64 0, .string (bs []), .slice none 0 0, .slice none 0 0]) rfl ?_
  refine sas rfl rfl ?_
  refine snn ?_
  refine St.ret ?_
  refine St.inret ?_
  refine St.thenret ?_
  obtain rfl := sI hm
  obtain rfl := aR ho28
  exact St.doneR2 rfl (ResOk.cell rfl (Loads.Hk (vs := [.int .i64 2, .int .i64 0, .int .i64 0, .int .i64 0, .string (bs []), .slice none 0 0, .slice none 0 0]) 0 rfl ta40 rfl rfl)) rfl ⟨none, 0, rfl, Fsl.nil, rfl⟩ (fun w hs => Among.of Among.none w hs)
 rintro a w ⟨z20, rfl, A24, c25, F21, l22, h26, ha, hs⟩
 replace hm := aL ho28
 refine St.use (?_ : St _ _ _ _ _ _) ha hs
 clear ha hs a w
 refine ssr ?_
 refine smv rfl rfl ?_
 obtain ⟨q91, e92, hm⟩ := bS hm
 refine St.call [blk b2 (.cells #[.int .i64 0, .int .i64 0, .int .i64 0, .int .i64 0, .string (bs []), .slice none 0 0, .slice none 0 0] 40 (0, 0)), blk b3 (.cells #[.int .i64 2, .int .i64 0, .int .i64 0, .int .i64 ((z20.1 : Nat) : Int), .string (bs z20.2.1), .slice none 0 0, .slice none 0 0] 40 (0, 0))] (m_ref14_all_sp h26 e92) rfl (fun _ ha => ev1 ha rfl) rfl en35 rfl rfl trivial ?_
 rintro _ F93 _ ⟨A95, c96, rfl, h97, rfl⟩ l94
 refine smv rfl rfl ?_
 refine sv (v := (.slice A95 q91.1.length c96)) (Yields.extract rfl rfl) rfl ?_
 refine sv (v := (.bool q91.2)) (Yields.extract rfl rfl) rfl ?_
 refine sas rfl rfl ?_
 refine sas rfl rfl ?_
 refine snn ?_
 refine ssr ?_
 refine smv rfl rfl ?_
 refine sfa (v := (.pointer (some ⟨b3, 5, none⟩))) rfl (fun _ => by kernel_rfl) rfl ?_
 refine St.store (R := [blk b2 (.cells #[.int .i64 0, .int .i64 0, .int .i64 0, .int .i64 0, .string (bs []), .slice none 0 0, .slice none 0 0] 40 (0, 0))]) rfl rfl 1 rfl rfl tc37 rfl rfl trivial (cs' := #[.int .i64 2, .int .i64 0, .int .i64 0, .int .i64 ((z20.1 : Nat) : Int), .string (bs z20.2.1), .slice A95 q91.1.length c96, .slice none 0 0]) rfl ?_
 refine snn ?_
 refine ssr ?_
 refine sv (v := (.agg #[.int .i64 2, .int .i64 0, .int .i64 0, .int .i64 ((z20.1 : Nat) : Int), .string (bs z20.2.1), .slice A95 q91.1.length c96, .slice none 0 0])) (Yields.load rfl (Loads.Hk (vs := [.int .i64 2, .int .i64 0, .int .i64 0, .int .i64 ((z20.1 : Nat) : Int), .string (bs z20.2.1), .slice A95 q91.1.length c96, .slice none 0 0]) 0 rfl ta40 rfl rfl)) rfl ?_
 refine smv rfl rfl ?_
 refine St.storen (R := [blk b3 (.cells #[.int .i64 2, .int .i64 0, .int .i64 0, .int .i64 ((z20.1 : Nat) : Int), .string (bs z20.2.1), .slice A95 q91.1.length c96, .slice none 0 0] 40 (0, 0))]) rfl rfl 1 rfl rfl ta40 rfl rfl rfl trivial (cs' := #[.int .i64 2, .int .i64 0, .int .i64 0, .int .i64 ((z20.1 : Nat) : Int), .string (bs z20.2.1), .slice A95 q91.1.length c96, .slice none 0 0]) rfl ?_
 refine sas rfl rfl ?_
 refine snn ?_
 refine St.ret ?_
 obtain rfl := sI hm
 exact St.doneR2 rfl (ResOk.cell rfl (Loads.Hk (vs := [.int .i64 2, .int .i64 0, .int .i64 0, .int .i64 ((z20.1 : Nat) : Int), .string (bs z20.2.1), .slice A95 q91.1.length c96, .slice none 0 0]) 0 rfl ta40 rfl rfl)) rfl ⟨A95, c96, rfl, h97, rfl⟩ (fun w hs => Among.of Among.none w hs)
theorem m_bytealg_LastIndexByteString_sp {F : PH} {g : Nat} {a0 : List UInt8} {a1 : Int} {r : Int} (hm : m_bytealg_LastIndexByteString g a0 a1 = some r) :
  CallSp Tryz.prog 80 #[.string (bs a0), .int .u8 a1] F [] (fun u F' H' => u = (.int .i64 r) ∧ H' = []) := by

 unfold m_bytealg_LastIndexByteString at hm
 refine CallSp.enter (args := [.string (bs a0), .int .u8 a1]) Tryz.func80 rfl rfl ?_
 intro w0 m0 hm0
 refine ssr ?_
 refine sas rfl rfl ?_
 refine snn ?_
 obtain ⟨o2, hm, ho3⟩ := jS hm
 refine St.cutI (fun a w => ∃ z1 : Unit, o2 = .inl z1 ∧ Has Tryz.f80.ntmps a [] ∧ Sat ⟨w0, fun b => m0 b ≠ none, F⟩ F [] w) ?_ ?_
 ·skip
  refine ssr ?_
  refine smv rfl rfl ?_
  refine sv (v := (.int .i64 ((a0.length : Nat) : Int))) (Yields.lenStr tu9 rfl) rfl ?_
  obtain ⟨x4, e5, hm⟩ := bS hm
  refine sv (v := (.int .i64 (((a0.length : Nat) : Int) - 1))) (Yields.sub rfl rfl (by have q_0 := (Mir.small_le e5); omega) (by have q_0 := (Mir.small_le e5); omega)) rfl ?_
  refine sas rfl rfl ?_
  refine snn ?_
  refine St.block ?_
  refine St.loopM hm (fun s7 a w => Has Tryz.f80.ntmps a [(0, .string (bs a0)), (1, .int .u8 a1), (5, .int .i64 s7)] ∧ Sat ⟨w0, fun b => m0 b ≠ none, F⟩ F [] w) ?_ ?_
  ·skip
   intro a w ha hs
   exact ⟨ha.covers ⟨rfl, rfl, rfl, trivial⟩, (Among.of Among.none _ hs)⟩
  rintro s7 o8 co9 hm ho10 a w ⟨ha, hs⟩
  refine St.use (?_ : St _ _ _ _ _ _) ha hs
  clear ha hs a w
  refine St.seq ?_
  refine ssr ?_
  refine smv rfl rfl ?_
  refine sv (v := (.bool (decide (s7 ≥ 0)))) (Yields.ge rfl rfl) rfl ?_
  refine snn ?_
  refine St.cond_b rfl ?_ ?_
  ·intro q11
   replace q11 : s7 ≥ 0 := of_decide_eq_true q11
   replace hm := iT hm q11
   refine skn ?_
   refine St.seq ?_
   refine St.block ?_
   refine ssr ?_
   refine smv rfl rfl ?_
   refine smv rfl rfl ?_
   obtain ⟨x12, e13, hm⟩ := bS hm
   refine sv (v := (.int .u8 ((x12.toNat : Nat) : Int))) (Yields.indexStr e13 tu9 rfl rfl) rfl ?_
   refine smv rfl rfl ?_
   refine sv (v := (.bool (decide (((x12.toNat : Nat) : Int) = a1)))) (Yields.eq rfl rfl) rfl ?_
   refine snn ?_
   refine St.cond_b rfl ?_ ?_
   ·intro q14
    replace q14 : ((x12.toNat : Nat) : Int) = a1 := of_decide_eq_true q14
    replace hm := iT hm q14
    refine ssr ?_
    refine smv rfl rfl ?_
    refine sas rfl rfl ?_
    refine snn ?_
    refine St.ret ?_
    refine St.inret ?_
    refine St.thenret ?_
    refine St.thenret ?_
    refine St.inret ?_
    refine St.thenret ?_
    obtain rfl := sI hm
    obtain rfl := aR ho10
    obtain rfl := aR ho3
    exact St.doneR1 rfl rfl ⟨rfl, rfl⟩ (fun w hs => Among.of Among.none w hs)
   intro q15
   replace q15 : ¬ (((x12.toNat : Nat) : Int) = a1) := of_decide_eq_false q15
   replace hm := iF hm q15
   refine St.skip ?_
   refine St.innorm ?_
   refine St.norm ?_
   refine St.region ?_
   refine smv rfl rfl ?_
   refine sv (v := (.int .i64 (Mir.w64 (s7 - 1)))) (Yields.subw rfl rfl) rfl ?_
   refine sas rfl rfl ?_
   refine snn ?_
   obtain rfl := sI hm
   intro a w ha hs
   exact ⟨Mir.w64 (s7 - 1), aL ho10, ha.covers ⟨rfl, rfl, rfl, trivial⟩, (Among.of Among.none _ hs)⟩
  intro q16
  replace q16 : ¬ (s7 ≥ 0) := of_decide_eq_false q16
  replace hm := iF hm q16
  refine St.exit ?_
  refine St.thenexit ?_
  refine St.thenexit ?_
  refine St.inexit ?_
  obtain rfl := sI hm
  obtain rfl := aR ho10
  intro a w ha hs
  exact ⟨(), rfl, ha.covers trivial, (Among.of Among.none _ hs)⟩
 rintro a w ⟨z1, rfl, ha, hs⟩
 replace hm := aL ho3
 refine St.use (?_ : St _ _ _ _ _ _) ha hs
 clear ha hs a w
 refine ssr ?_
 refine sas rfl rfl ?_
 refine snn ?_
 refine St.ret ?_
 obtain rfl := sI hm
 exact St.doneR1 rfl rfl ⟨rfl, rfl⟩ (fun w hs => Among.of Among.none w hs)
theorem m_strings_LastIndexByte_sp {F : PH} {g : Nat} {a0 : List UInt8} {a1 : Int} {r : Int} (hm : m_strings_LastIndexByte g a0 a1 = some r) :
  CallSp Tryz.prog 61 #[.string (bs a0), .int .u8 a1] F [] (fun u F' H' => u = (.int .i64 r) ∧ H' = []) := by

 unfold m_strings_LastIndexByte at hm
 refine CallSp.enter (args := [.string (bs a0), .int .u8 a1]) Tryz.func61 rfl rfl ?_
 intro w0 m0 hm0
 refine ssr ?_
 refine sas rfl rfl ?_
 refine snn ?_
 refine ssr ?_
 refine smv rfl rfl ?_
 refine smv rfl rfl ?_
 obtain ⟨q1, e2, hm⟩ := bS hm
 refine St.call [] (m_bytealg_LastIndexByteString_sp e2) rfl (fun _ ha => ev2 ha rfl rfl) rfl en80 rfl rfl trivial ?_
 rintro _ F3 _ ⟨rfl, rfl⟩ l4
 refine sas rfl rfl ?_
 refine snn ?_
 refine St.ret ?_
 obtain rfl := sI hm
 exact St.doneR1 rfl rfl ⟨rfl, rfl⟩ (fun w hs => Among.of Among.none w hs)
end Go.Proofs.YtefclodjekeeiaaGreatDoor
