/- Each function does what its plain words tell. -/
import Derived.Test.YtopmcncaanjboaaWFa
namespace Go.Proofs.Ytopmcncaanjboaa
open Go Go.Sy Go.RowKit
set_option linter.unusedVariables false
open Go.Mir
theorem m_law11_work_sp {F : PH} {g : Nat} {a0 : DProblem} {pA0_0 : Option Addr} {pc0_0 : Nat} {pA0_1 : Option Addr} {pc0_1 : Nat} (ph0_0 : Fsl 24 (Kind.sl 8 (Kind.int .i64)) F pA0_0 pc0_0 a0.Doms) (ph0_1 : Fsl 88 KDLimit F pA0_1 pc0_1 a0.Limits) {r : Int} (hm : m_law11_work g a0 = some r) :
  CallSp Try.prog 26 #[.agg #[.slice pA0_0 a0.Doms.length pc0_0, .slice pA0_1 a0.Limits.length pc0_1]] F [] (fun u F' H' => u = (.int .i64 r) ∧ H' = []) := by
 unfold m_law11_work at hm
 refine CallSp.enter (args := [.agg #[.slice pA0_0 a0.Doms.length pc0_0, .slice pA0_1 a0.Limits.length pc0_1]]) Try.func26 rfl rfl ?_
 intro w0 m0 hm0
 refine St.seq ?_
 refine St.region ?_
 refine St.box rfl trivial rfl ?_
 intro b3
 refine St.val (v := (.int .i64 0)) (Yields.assign rfl) trivial rfl rfl ?_
 refine St.nil ?_
 refine St.norm ?_
 refine St.seq ?_
 refine St.region ?_
 refine St.val (v := (.int .i64 1)) (Yields.assign rfl) trivial rfl rfl ?_
 refine St.nil ?_
 refine St.norm ?_
 obtain ⟨z4, hm, hk5⟩ := bS hm
 refine St.cutI (fun a w => Has Try.f26.ntmps a [(3, .int .i64 z4)] ∧ Sat ⟨w0, fun b => m0 b ≠ none, F⟩ F [] w) ?_ ?_
 ·skip
  refine St.seq ?_
  refine St.region ?_
  refine St.val (v := (.int .i64 0)) (Yields.assign rfl) trivial rfl rfl ?_
  refine St.nil ?_
  refine St.norm ?_
  refine St.block ?_
  refine St.loopM hm (fun s8 a w => Has Try.f26.ntmps a [(1, .pointer (some ⟨b3, 0, none⟩)), (3, .int .i64 s8.1), (4, .int .i64 ((s8.2 : Nat) : Int))] ∧ Sat ⟨w0, fun b => m0 b ≠ none, F⟩ F [blk b3 (.cells #[.slice pA0_0 a0.Doms.length pc0_0, .slice pA0_1 a0.Limits.length pc0_1] 25 (0, 0))] w) ?_ ?_
  ·skip
   intro a w ha hs
   exact ⟨ha.covers ⟨rfl, rfl, rfl, trivial⟩, (Among.of (Among.take 0 rfl rfl Among.none) _ hs)⟩
  ·rintro s8 o9 co10 hm ho11 a w ⟨ha, hs⟩
   refine St.use (?_ : St _ _ _ _ _ _) ha hs
   clear ha hs a w
   refine St.seq ?_
   refine St.seq ?_
   refine St.region ?_
   refine St.val (v := (.int .i64 ((s8.2 : Nat) : Int))) (Yields.move rfl) trivial rfl rfl ?_
   refine St.val (v := (.pointer (some ⟨b3, 1, none⟩))) (Yields.fieldAddr (v := (.pointer (some ⟨b3, 1, none⟩))) rfl (fun _ => by kernel_rfl)) trivial rfl rfl ?_
   refine St.val (v := (.slice pA0_1 a0.Limits.length pc0_1)) (Yields.load rfl (Loads.H1 0 rfl tc23 rfl)) trivial rfl rfl ?_
   refine St.val (v := (.int .i64 ((a0.Limits.length : Nat) : Int))) (Yields.lenSlice tu23 rfl) trivial rfl rfl ?_
   refine St.val (v := (.bool (decide (((s8.2 : Nat) : Int) < ((a0.Limits.length : Nat) : Int))))) (Yields.lt rfl rfl) trivial rfl rfl ?_
   refine St.nil ?_
   refine St.norm ?_
   refine St.cond_b rfl ?_ ?_
   ·intro q12
    replace q12 : ((s8.2 : Nat) : Int) < ((a0.Limits.length : Nat) : Int) := of_decide_eq_true q12
    replace hm := iT hm q12
    refine St.skip ?_
    refine St.norm ?_
    refine St.seq ?_
    refine St.block ?_
    refine St.seq ?_
    refine St.region ?_
    refine St.val (v := (.int .i64 1)) (Yields.assign rfl) trivial rfl rfl ?_
    refine St.nil ?_
    refine St.norm ?_
    obtain ⟨z13, hm, hk14⟩ := bS hm
    refine St.cutI (fun a w => Has Try.f26.ntmps a [(1, .pointer (some ⟨b3, 0, none⟩)), (3, .int .i64 s8.1), (4, .int .i64 ((s8.2 : Nat) : Int)), (5, .int .i64 z13)] ∧ Sat ⟨w0, fun b => m0 b ≠ none, F⟩ F [blk b3 (.cells #[.slice pA0_0 a0.Doms.length pc0_0, .slice pA0_1 a0.Limits.length pc0_1] 25 (0, 0))] w) ?_ ?_
    ·skip
     refine St.seq ?_
     refine St.region ?_
     refine St.val (v := (.int .i64 0)) (Yields.assign rfl) trivial rfl rfl ?_
     refine St.nil ?_
     refine St.norm ?_
     refine St.block ?_
     refine St.loopM hm (fun s17 a w => Has Try.f26.ntmps a [(1, .pointer (some ⟨b3, 0, none⟩)), (3, .int .i64 s8.1), (4, .int .i64 ((s8.2 : Nat) : Int)), (5, .int .i64 s17.1), (6, .int .i64 ((s17.2 : Nat) : Int))] ∧ Sat ⟨w0, fun b => m0 b ≠ none, F⟩ F [blk b3 (.cells #[.slice pA0_0 a0.Doms.length pc0_0, .slice pA0_1 a0.Limits.length pc0_1] 25 (0, 0))] w) ?_ ?_
     ·skip
      intro a w ha hs
      exact ⟨ha.covers ⟨rfl, rfl, rfl, rfl, rfl, trivial⟩, (Among.of (Among.take 0 rfl rfl Among.none) _ hs)⟩
     ·rintro s17 o18 co19 hm ho20 a w ⟨ha, hs⟩
      refine St.use (?_ : St _ _ _ _ _ _) ha hs
      clear ha hs a w
      refine St.seq ?_
      refine St.seq ?_
      refine St.region ?_
      refine St.val (v := (.int .i64 ((s17.2 : Nat) : Int))) (Yields.move rfl) trivial rfl rfl ?_
      refine St.val (v := (.pointer (some ⟨b3, 1, none⟩))) (Yields.fieldAddr (v := (.pointer (some ⟨b3, 1, none⟩))) rfl (fun _ => by kernel_rfl)) trivial rfl rfl ?_
      refine St.val (v := (.slice pA0_1 a0.Limits.length pc0_1)) (Yields.load rfl (Loads.H1 0 rfl tc23 rfl)) trivial rfl rfl ?_
      refine St.val (v := (.int .i64 ((s8.2 : Nat) : Int))) (Yields.move rfl) trivial rfl rfl ?_
      obtain ⟨x21, e22, hm⟩ := bS hm
      obtain ⟨p23, cs24, jx25, R26, k27⟩ := ph0_1.nidx e22
      obtain ⟨A28, c29, A31, c32, A34, c35, rfl, h30, h33, h36⟩ := DLimit.opn R26
      refine St.val (v := (.pointer (some p23))) (Yields.idx jx25 ts23 rfl rfl) trivial rfl rfl ?_
      refine St.val (v := (.pointer (some (p23.add 1)))) (Yields.fieldAddr (v := (.pointer (some (p23.add 1)))) rfl (fun _ => by kernel_rfl)) trivial rfl rfl ?_
      refine St.val (v := (.slice A28 x21.Vars.length c29)) (Yields.load rfl (Loads.Fatk 1 k27 tc26 rfl)) trivial rfl rfl ?_
      refine St.val (v := (.int .i64 ((x21.Vars.length : Nat) : Int))) (Yields.lenSlice tu26 rfl) trivial rfl rfl ?_
      refine St.val (v := (.bool (decide (((s17.2 : Nat) : Int) < ((x21.Vars.length : Nat) : Int))))) (Yields.lt rfl rfl) trivial rfl rfl ?_
      refine St.nil ?_
      refine St.norm ?_
      refine St.cond_b rfl ?_ ?_
      ·intro q40
       replace q40 : ((s17.2 : Nat) : Int) < ((x21.Vars.length : Nat) : Int) := of_decide_eq_true q40
       replace hm := iT hm q40
       refine St.skip ?_
       refine St.norm ?_
       obtain ⟨z41, hm, hk42⟩ := bS hm
       refine St.cutI (fun a w => Has Try.f26.ntmps a [(1, .pointer (some ⟨b3, 0, none⟩)), (3, .int .i64 s8.1), (4, .int .i64 ((s8.2 : Nat) : Int)), (5, .int .i64 z41), (6, .int .i64 ((s17.2 : Nat) : Int))] ∧ Sat ⟨w0, fun b => m0 b ≠ none, F⟩ F [blk b3 (.cells #[.slice pA0_0 a0.Doms.length pc0_0, .slice pA0_1 a0.Limits.length pc0_1] 25 (0, 0))] w) ?_ ?_
       ·skip
        refine St.block ?_
        refine St.seq ?_
        refine St.region ?_
        refine St.val (v := (.pointer (some ⟨b3, 1, none⟩))) (Yields.fieldAddr (v := (.pointer (some ⟨b3, 1, none⟩))) rfl (fun _ => by kernel_rfl)) trivial rfl rfl ?_
        refine St.val (v := (.slice pA0_1 a0.Limits.length pc0_1)) (Yields.load rfl (Loads.H1 0 rfl tc23 rfl)) trivial rfl rfl ?_
        refine St.val (v := (.int .i64 ((s8.2 : Nat) : Int))) (Yields.move rfl) trivial rfl rfl ?_
        obtain ⟨x43, e44, hm⟩ := bS hm
        obtain ⟨p45, cs46, jx47, R48, k49⟩ := ph0_1.nidx e44
        obtain ⟨A50, c51, A53, c54, A56, c57, rfl, h52, h55, h58⟩ := DLimit.opn R48
        refine St.val (v := (.pointer (some p45))) (Yields.idx jx47 ts23 rfl rfl) trivial rfl rfl ?_
        refine St.val (v := (.pointer (some (p45.add 1)))) (Yields.fieldAddr (v := (.pointer (some (p45.add 1)))) rfl (fun _ => by kernel_rfl)) trivial rfl rfl ?_
        refine St.val (v := (.slice A50 x43.Vars.length c51)) (Yields.load rfl (Loads.Fatk 1 k49 tc26 rfl)) trivial rfl rfl ?_
        refine St.val (v := (.int .i64 ((s17.2 : Nat) : Int))) (Yields.move rfl) trivial rfl rfl ?_
        obtain ⟨x62, e63, hm⟩ := bS hm
        obtain ⟨p64, cs65, jx66, R67, k68⟩ := h52.nidx e63
        obtain rfl := R67
        refine St.val (v := (.pointer (some p64))) (Yields.idx jx66 ts26 rfl rfl) trivial rfl rfl ?_
        refine St.val (v := (.int .i64 x62)) (Yields.load rfl (Loads.Fat k68 tc3 rfl)) trivial rfl rfl ?_
        refine St.val (v := (.int .i64 x62)) (Yields.assign rfl) trivial rfl rfl ?_
        refine St.nil ?_
        refine St.norm ?_
        obtain ⟨z69, hm, hk70⟩ := bS hm
        refine St.cutI (fun a w => Has Try.f26.ntmps a [(1, .pointer (some ⟨b3, 0, none⟩)), (3, .int .i64 s8.1), (4, .int .i64 ((s8.2 : Nat) : Int)), (5, .int .i64 s17.1), (6, .int .i64 ((s17.2 : Nat) : Int)), (7, .int .i64 x62), (47, .bool z69)] ∧ Sat ⟨w0, fun b => m0 b ≠ none, F⟩ F [blk b3 (.cells #[.slice pA0_0 a0.Doms.length pc0_0, .slice pA0_1 a0.Limits.length pc0_1] 25 (0, 0))] w) ?_ ?_
        ·skip
         refine St.region ?_
         refine St.val (v := (.int .i64 x62)) (Yields.move rfl) trivial rfl rfl ?_
         by_cases q71 : x62 ≥ 0
         ·replace hm := iT hm q71
          refine St.val (v := (.bool true)) (Yields.is q71 (Yields.ge rfl rfl)) trivial rfl rfl ?_
          refine St.val (v := (.bool true)) (Yields.move rfl) trivial rfl rfl ?_
          refine St.val (v := (.int .i64 x62)) (Yields.move rfl) rfl rfl rfl ?_
          refine St.val (v := (.pointer (some ⟨b3, 0, none⟩))) (Yields.fieldAddr (v := (.pointer (some ⟨b3, 0, none⟩))) rfl (fun _ => by kernel_rfl)) rfl rfl rfl ?_
          refine St.val (v := (.slice pA0_0 a0.Doms.length pc0_0)) (Yields.load rfl (Loads.H1 0 rfl tc22 rfl)) rfl rfl rfl ?_
          refine St.val (v := (.int .i64 ((a0.Doms.length : Nat) : Int))) (Yields.lenSlice tu22 rfl) rfl rfl rfl ?_
          by_cases q72 : x62 < ((a0.Doms.length : Nat) : Int)
          ·replace hm := iT hm q72
           refine St.val (v := (.bool true)) (Yields.is q72 (Yields.lt rfl rfl)) rfl rfl rfl ?_
           refine St.val (v := (.bool true)) (Yields.pick_t rfl rfl) trivial rfl rfl ?_
           refine St.val (v := (.bool true)) (Yields.move rfl) trivial rfl rfl ?_
           refine St.val (v := (.int .i64 s17.1)) (Yields.move rfl) rfl rfl rfl ?_
           refine St.val (v := (.bool (decide (s17.1 < 1048576)))) (Yields.lt rfl rfl) rfl rfl rfl ?_
           refine St.val (v := (.bool (decide (s17.1 < 1048576)))) (Yields.pick_t rfl rfl) trivial rfl rfl ?_
           refine St.nil ?_
           obtain rfl := sI hm
           intro a w ha hs
           exact ⟨ha.covers ⟨rfl, rfl, rfl, rfl, rfl, rfl, rfl, trivial⟩, (Among.of (Among.take 0 rfl rfl Among.none) _ hs)⟩
          ·replace hm := iF hm q72
           refine St.val (v := (.bool false)) (Yields.isnt q72 (Yields.lt rfl rfl)) rfl rfl rfl ?_
           refine St.val (v := (.bool false)) (Yields.pick_t rfl rfl) trivial rfl rfl ?_
           refine St.val (v := (.bool false)) (Yields.move rfl) trivial rfl rfl ?_
           refine St.unwanted rfl rfl rfl ?_
           refine St.unwanted rfl rfl rfl ?_
           refine St.val (v := (.bool false)) (Yields.pick_f rfl rfl) trivial rfl rfl ?_
           refine St.nil ?_
           obtain rfl := sI hm
           intro a w ha hs
           exact ⟨ha.covers ⟨rfl, rfl, rfl, rfl, rfl, rfl, rfl, trivial⟩, (Among.of (Among.take 0 rfl rfl Among.none) _ hs)⟩
         ·replace hm := iF hm q71
          refine St.val (v := (.bool false)) (Yields.isnt q71 (Yields.ge rfl rfl)) trivial rfl rfl ?_
          refine St.val (v := (.bool false)) (Yields.move rfl) trivial rfl rfl ?_
          refine St.unwanted rfl rfl rfl ?_
          refine St.unwanted rfl rfl rfl ?_
          refine St.unwanted rfl rfl rfl ?_
          refine St.unwanted rfl rfl rfl ?_
          refine St.unwanted rfl rfl rfl ?_
          refine St.val (v := (.bool false)) (Yields.pick_f rfl rfl) trivial rfl rfl ?_
          refine St.val (v := (.bool false)) (Yields.move rfl) trivial rfl rfl ?_
          refine St.unwanted rfl rfl rfl ?_
          refine St.unwanted rfl rfl rfl ?_
          refine St.val (v := (.bool false)) (Yields.pick_f rfl rfl) trivial rfl rfl ?_
          refine St.nil ?_
          obtain rfl := sI hm
          intro a w ha hs
          exact ⟨ha.covers ⟨rfl, rfl, rfl, rfl, rfl, rfl, rfl, trivial⟩, (Among.of (Among.take 0 rfl rfl Among.none) _ hs)⟩
        ·rintro a w ⟨ha, hs⟩
         replace hm := hk70
         refine St.use (?_ : St _ _ _ _ _ _) ha hs
         clear ha hs a w
         refine St.cond_b rfl ?_ ?_
         ·intro q73
          replace q73 : z69 = true := q73
          replace hm := iT hm q73
          refine St.region ?_
          refine St.val (v := (.int .i64 s17.1)) (Yields.move rfl) trivial rfl rfl ?_
          refine St.val (v := (.pointer (some ⟨b3, 0, none⟩))) (Yields.fieldAddr (v := (.pointer (some ⟨b3, 0, none⟩))) rfl (fun _ => by kernel_rfl)) trivial rfl rfl ?_
          refine St.val (v := (.slice pA0_0 a0.Doms.length pc0_0)) (Yields.load rfl (Loads.H1 0 rfl tc22 rfl)) trivial rfl rfl ?_
          refine St.val (v := (.int .i64 x62)) (Yields.move rfl) trivial rfl rfl ?_
          obtain ⟨x74, e75, hm⟩ := bS hm
          obtain ⟨p76, cs77, jx78, R79, k80⟩ := ph0_0.idx e75
          obtain ⟨A81, c82, rfl, h83⟩ := R79
          refine St.val (v := (.pointer (some p76))) (Yields.idx jx78 ts22 rfl rfl) trivial rfl rfl ?_
          refine St.val (v := (.slice A81 x74.length c82)) (Yields.load rfl (Loads.Fat k80 tc26 rfl)) trivial rfl rfl ?_
          refine St.val (v := (.int .i64 ((x74.length : Nat) : Int))) (Yields.lenSlice tu26 rfl) trivial rfl rfl ?_
          refine St.val (v := (.int .i64 ((x74.length + 1 : Nat) : Int))) (Yields.addn (j := 1) rfl rfl rfl (by have q_0 := h83.bnd.2; omega)) trivial rfl rfl ?_
          refine St.val (v := (.int .i64 (Mir.w64 (s17.1 * ((x74.length + 1 : Nat) : Int))))) (Yields.mulw rfl rfl) trivial rfl rfl ?_
          refine St.val (v := (.int .i64 (Mir.w64 (s17.1 * ((x74.length + 1 : Nat) : Int))))) (Yields.assign rfl) trivial rfl rfl ?_
          refine St.nil ?_
          refine St.innorm ?_
          obtain rfl := sI hm
          intro a w ha hs
          exact ⟨ha.covers ⟨rfl, rfl, rfl, rfl, rfl, trivial⟩, (Among.of (Among.take 0 rfl rfl Among.none) _ hs)⟩
         ·intro q85
          replace q85 : ¬ (z69 = true) := bf q85
          replace hm := iF hm q85
          refine St.skip ?_
          refine St.innorm ?_
          obtain rfl := sI hm
          intro a w ha hs
          exact ⟨ha.covers ⟨rfl, rfl, rfl, rfl, rfl, trivial⟩, (Among.of (Among.take 0 rfl rfl Among.none) _ hs)⟩
       ·rintro a w ⟨ha, hs⟩
        replace hm := hk42
        refine St.use (?_ : St _ _ _ _ _ _) ha hs
        clear ha hs a w
        refine St.region ?_
        refine St.val (v := (.int .i64 ((s17.2 : Nat) : Int))) (Yields.move rfl) trivial rfl rfl ?_
        refine St.val (v := (.int .i64 ((s17.2 + 1 : Nat) : Int))) (Yields.addn (j := 1) rfl rfl rfl (by have q_0 := q40; have q_1 := h30.bnd.2; omega)) trivial rfl rfl ?_
        refine St.val (v := (.int .i64 ((s17.2 + 1 : Nat) : Int))) (Yields.assign rfl) trivial rfl rfl ?_
        refine St.nil ?_
        refine St.norm ?_
        obtain rfl := sI hm
        intro a w ha hs
        exact ⟨(z41, s17.2 + 1), aL ho20, ha.covers ⟨rfl, rfl, rfl, rfl, rfl, trivial⟩, (Among.of (Among.take 0 rfl rfl Among.none) _ hs)⟩
      ·intro q86
       replace q86 : ¬ (((s17.2 : Nat) : Int) < ((x21.Vars.length : Nat) : Int)) := of_decide_eq_false q86
       replace hm := iF hm q86
       refine St.exit ?_
       refine St.thenexit ?_
       refine St.thenexit ?_
       refine St.inexit ?_
       obtain rfl := sI hm
       obtain rfl := aR ho20
       intro a w ha hs
       exact ⟨ha.covers ⟨rfl, rfl, rfl, rfl, trivial⟩, (Among.of (Among.take 0 rfl rfl Among.none) _ hs)⟩
    ·rintro a w ⟨ha, hs⟩
     replace hm := hk14
     refine St.use (?_ : St _ _ _ _ _ _) ha hs
     clear ha hs a w
     refine St.region ?_
     refine St.val (v := (.int .i64 s8.1)) (Yields.move rfl) trivial rfl rfl ?_
     refine St.val (v := (.int .i64 z13)) (Yields.move rfl) trivial rfl rfl ?_
     refine St.val (v := (.int .i64 (Mir.w64 (s8.1 + z13)))) (Yields.addw rfl rfl) trivial rfl rfl ?_
     refine St.val (v := (.int .i64 (Mir.w64 (s8.1 + z13)))) (Yields.assign rfl) trivial rfl rfl ?_
     refine St.nil ?_
     refine St.innorm ?_
     refine St.norm ?_
     refine St.region ?_
     refine St.val (v := (.int .i64 ((s8.2 : Nat) : Int))) (Yields.move rfl) trivial rfl rfl ?_
     refine St.val (v := (.int .i64 ((s8.2 + 1 : Nat) : Int))) (Yields.addn (j := 1) rfl rfl rfl (by have q_0 := q12; have q_1 := ph0_1.bnd.2; omega)) trivial rfl rfl ?_
     refine St.val (v := (.int .i64 ((s8.2 + 1 : Nat) : Int))) (Yields.assign rfl) trivial rfl rfl ?_
     refine St.nil ?_
     refine St.norm ?_
     obtain rfl := sI hm
     intro a w ha hs
     exact ⟨(Mir.w64 (s8.1 + z13), s8.2 + 1), aL ho11, ha.covers ⟨rfl, rfl, rfl, trivial⟩, (Among.of (Among.take 0 rfl rfl Among.none) _ hs)⟩
   ·intro q87
    replace q87 : ¬ (((s8.2 : Nat) : Int) < ((a0.Limits.length : Nat) : Int)) := of_decide_eq_false q87
    replace hm := iF hm q87
    refine St.exit ?_
    refine St.thenexit ?_
    refine St.thenexit ?_
    refine St.inexit ?_
    obtain rfl := sI hm
    obtain rfl := aR ho11
    intro a w ha hs
    exact ⟨ha.covers ⟨rfl, trivial⟩, (Among.of Among.none _ hs)⟩
 ·rintro a w ⟨ha, hs⟩
  replace hm := hk5
  refine St.use (?_ : St _ _ _ _ _ _) ha hs
  clear ha hs a w
  refine St.seq ?_
  refine St.region ?_
  refine St.val (v := (.int .i64 z4)) (Yields.move rfl) trivial rfl rfl ?_
  refine St.val (v := (.int .i64 z4)) (Yields.assign rfl) trivial rfl rfl ?_
  refine St.nil ?_
  refine St.norm ?_
  refine St.ret ?_
  obtain rfl := sI hm
  exact St.doneR1 rfl rfl ⟨rfl, rfl⟩ (fun w hs => Among.of Among.none w hs)

theorem m_law11_isHeavy_sp {F : PH} {g : Nat} {a0 : DProblem} {pA0_0 : Option Addr} {pc0_0 : Nat} {pA0_1 : Option Addr} {pc0_1 : Nat} (ph0_0 : Fsl 24 (Kind.sl 8 (Kind.int .i64)) F pA0_0 pc0_0 a0.Doms) (ph0_1 : Fsl 88 KDLimit F pA0_1 pc0_1 a0.Limits) {r : Bool} (hm : m_law11_isHeavy g a0 = some r) :
  CallSp Try.prog 7 #[.agg #[.slice pA0_0 a0.Doms.length pc0_0, .slice pA0_1 a0.Limits.length pc0_1]] F [] (fun u F' H' => u = (.bool r) ∧ H' = []) := by
 unfold m_law11_isHeavy at hm
 refine CallSp.enter (args := [.agg #[.slice pA0_0 a0.Doms.length pc0_0, .slice pA0_1 a0.Limits.length pc0_1]]) Try.func7 rfl rfl ?_
 intro w0 m0 hm0
 refine St.seq ?_
 refine St.region ?_
 refine St.box rfl trivial rfl ?_
 intro b3
 refine St.val (v := (.bool false)) (Yields.assign rfl) trivial rfl rfl ?_
 refine St.nil ?_
 refine St.norm ?_
 obtain ⟨z4, hm, hk7⟩ := bS hm
 refine St.cutI (fun a w => ∃ (F5 : PH), PH.le F F5 ∧ Has Try.f7.ntmps a [(2, .bool z4)] ∧ Sat ⟨w0, fun b => m0 b ≠ none, F⟩ F5 [] w) ?_ ?_
 ·skip
  refine St.region ?_
  refine St.val (v := (.agg #[.slice pA0_0 a0.Doms.length pc0_0, .slice pA0_1 a0.Limits.length pc0_1])) (Yields.load rfl (Loads.Hk (vs := [.slice pA0_0 a0.Doms.length pc0_0, .slice pA0_1 a0.Limits.length pc0_1]) 0 rfl ta25 rfl rfl)) trivial rfl rfl ?_
  obtain ⟨q8, e9, hm⟩ := bS hm
  refine St.call [blk b3 (.cells #[.slice pA0_0 a0.Doms.length pc0_0, .slice pA0_1 a0.Limits.length pc0_1] 25 (0, 0))] (m_ref11_Validate_sp (a0 := a0) ph0_0 ph0_1 e9) rfl (fun _ ha => ev1 ha rfl) rfl en24 rfl rfl trivial ?_
  rintro _ F10 _ ⟨rfl, rfl⟩ l11
  by_cases q12 : q8 = 0
  ·replace hm := iT hm q12
   refine St.val (v := (.bool true)) (Yields.is q12 (Yields.eq rfl rfl)) trivial rfl rfl ?_
   refine St.val (v := (.bool true)) (Yields.move rfl) trivial rfl rfl ?_
   refine St.val (v := (.agg #[.slice pA0_0 a0.Doms.length pc0_0, .slice pA0_1 a0.Limits.length pc0_1])) (Yields.load rfl (Loads.Hk (vs := [.slice pA0_0 a0.Doms.length pc0_0, .slice pA0_1 a0.Limits.length pc0_1]) 0 rfl ta25 rfl rfl)) rfl rfl rfl ?_
   obtain ⟨q13, e14, hm⟩ := bS hm
   refine St.call [blk b3 (.cells #[.slice pA0_0 a0.Doms.length pc0_0, .slice pA0_1 a0.Limits.length pc0_1] 25 (0, 0))] (m_ref11_IsCostly_sp (a0 := a0) (Fsl.mono l11 ph0_0) (Fsl.mono l11 ph0_1) e14) rfl (fun _ ha => ev1 ha rfl) rfl en25 rfl rfl rfl ?_
   rintro _ F15 _ ⟨rfl, rfl⟩ l16
   by_cases q17 : q13 = true
   ·replace hm := iT hm q17
    have hb18 : (q13) = true := q17
    try rw [hb18]
    refine St.val (v := (.bool false)) (Yields.not_t rfl) rfl rfl rfl ?_
    refine St.val (v := (.bool false)) (Yields.pick_t rfl rfl) trivial rfl rfl ?_
    refine St.val (v := (.bool false)) (Yields.move rfl) trivial rfl rfl ?_
    refine St.unwanted rfl rfl rfl ?_
    refine St.unwanted rfl rfl rfl ?_
    refine St.unwanted rfl rfl rfl ?_
    refine St.val (v := (.bool false)) (Yields.pick_f rfl rfl) trivial rfl rfl ?_
    refine St.val (v := (.bool false)) (Yields.assign rfl) trivial rfl rfl ?_
    refine St.nil ?_
    obtain rfl := sI hm
    intro a w ha hs
    exact ⟨F15, (PH.le_trans l11 l16), ha.covers ⟨rfl, trivial⟩, (Among.of Among.none _ hs)⟩
   ·replace hm := iF hm q17
    have hb19 : (q13) = false := eq_false_of_ne_true q17
    try rw [hb19]
    refine St.val (v := (.bool true)) (Yields.not_f rfl) rfl rfl rfl ?_
    refine St.val (v := (.bool true)) (Yields.pick_t rfl rfl) trivial rfl rfl ?_
    refine St.val (v := (.bool true)) (Yields.move rfl) trivial rfl rfl ?_
    refine St.val (v := (.agg #[.slice pA0_0 a0.Doms.length pc0_0, .slice pA0_1 a0.Limits.length pc0_1])) (Yields.load rfl (Loads.Hk (vs := [.slice pA0_0 a0.Doms.length pc0_0, .slice pA0_1 a0.Limits.length pc0_1]) 0 rfl ta25 rfl rfl)) rfl rfl rfl ?_
    obtain ⟨q20, e21, hm⟩ := bS hm
    refine St.call [blk b3 (.cells #[.slice pA0_0 a0.Doms.length pc0_0, .slice pA0_1 a0.Limits.length pc0_1] 25 (0, 0))] (m_law11_work_sp (a0 := a0) (Fsl.mono (PH.le_trans l11 l16) ph0_0) (Fsl.mono (PH.le_trans l11 l16) ph0_1) e21) rfl (fun _ ha => ev1 ha rfl) rfl en26 rfl rfl rfl ?_
    rintro _ F22 _ ⟨rfl, rfl⟩ l23
    refine St.val (v := (.bool (decide (q20 > 60000)))) (Yields.gt rfl rfl) rfl rfl rfl ?_
    refine St.val (v := (.bool (decide (q20 > 60000)))) (Yields.pick_t rfl rfl) trivial rfl rfl ?_
    refine St.val (v := (.bool (decide (q20 > 60000)))) (Yields.assign rfl) trivial rfl rfl ?_
    refine St.nil ?_
    obtain rfl := sI hm
    intro a w ha hs
    exact ⟨F22, (PH.le_trans l11 (PH.le_trans l16 l23)), ha.covers ⟨rfl, trivial⟩, (Among.of Among.none _ hs)⟩
  ·replace hm := iF hm q12
   refine St.val (v := (.bool false)) (Yields.isnt q12 (Yields.eq rfl rfl)) trivial rfl rfl ?_
   refine St.val (v := (.bool false)) (Yields.move rfl) trivial rfl rfl ?_
   refine St.unwanted rfl rfl rfl ?_
   refine St.unwanted rfl rfl rfl ?_
   refine St.unwanted rfl rfl rfl ?_
   refine St.val (v := (.bool false)) (Yields.pick_f rfl rfl) trivial rfl rfl ?_
   refine St.val (v := (.bool false)) (Yields.move rfl) trivial rfl rfl ?_
   refine St.unwanted rfl rfl rfl ?_
   refine St.unwanted rfl rfl rfl ?_
   refine St.unwanted rfl rfl rfl ?_
   refine St.val (v := (.bool false)) (Yields.pick_f rfl rfl) trivial rfl rfl ?_
   refine St.val (v := (.bool false)) (Yields.assign rfl) trivial rfl rfl ?_
   refine St.nil ?_
   obtain rfl := sI hm
   intro a w ha hs
   exact ⟨F10, l11, ha.covers ⟨rfl, trivial⟩, (Among.of Among.none _ hs)⟩
 ·rintro a w ⟨F5, l6, ha, hs⟩
  replace hm := hk7
  refine St.use (?_ : St _ _ _ _ _ _) ha hs
  clear ha hs a w
  refine St.ret ?_
  obtain rfl := sI hm
  exact St.doneR1 rfl rfl ⟨rfl, rfl⟩ (fun w hs => Among.of Among.none w hs)

theorem m_law11_tuples_sp {F : PH} {g : Nat} {a0 : DProblem} {pA0_0 : Option Addr} {pc0_0 : Nat} {pA0_1 : Option Addr} {pc0_1 : Nat} (ph0_0 : Fsl 24 (Kind.sl 8 (Kind.int .i64)) F pA0_0 pc0_0 a0.Doms) (ph0_1 : Fsl 88 KDLimit F pA0_1 pc0_1 a0.Limits) {r : Int} (hm : m_law11_tuples g a0 = some r) :
  CallSp Try.prog 12 #[.agg #[.slice pA0_0 a0.Doms.length pc0_0, .slice pA0_1 a0.Limits.length pc0_1]] F [] (fun u F' H' => u = (.int .i64 r) ∧ H' = []) := by
 unfold m_law11_tuples at hm
 refine CallSp.enter (args := [.agg #[.slice pA0_0 a0.Doms.length pc0_0, .slice pA0_1 a0.Limits.length pc0_1]]) Try.func12 rfl rfl ?_
 intro w0 m0 hm0
 refine St.seq ?_
 refine St.region ?_
 refine St.box rfl trivial rfl ?_
 intro b3
 refine St.val (v := (.int .i64 0)) (Yields.assign rfl) trivial rfl rfl ?_
 refine St.nil ?_
 refine St.norm ?_
 refine St.seq ?_
 refine St.region ?_
 refine St.val (v := (.pointer (some ⟨b3, 0, none⟩))) (Yields.fieldAddr (v := (.pointer (some ⟨b3, 0, none⟩))) rfl (fun _ => by kernel_rfl)) trivial rfl rfl ?_
 refine St.val (v := (.slice pA0_0 a0.Doms.length pc0_0)) (Yields.load rfl (Loads.H1 0 rfl tc22 rfl)) trivial rfl rfl ?_
 obtain ⟨q4, e5, hm⟩ := bS hm
 refine St.call [blk b3 (.cells #[.slice pA0_0 a0.Doms.length pc0_0, .slice pA0_1 a0.Limits.length pc0_1] 25 (0, 0))] (m_ref11_Combinations_sp ph0_0 e5) rfl (fun _ ha => ev1 ha rfl) rfl en30 rfl rfl trivial ?_
 rintro _ F6 _ ⟨rfl, rfl⟩ l7
 refine St.val (v := (.int .i64 q4)) (Yields.assign rfl) trivial rfl rfl ?_
 refine St.nil ?_
 refine St.norm ?_
 refine St.ret ?_
 obtain rfl := sI hm
 exact St.doneR1 rfl rfl ⟨rfl, rfl⟩ (fun w hs => Among.of Among.none w hs)

theorem m_domain_combinations_sp {F : PH} {g : Nat} {a0 : List (List Int)} {a1 : List Int} {pA0 : Option Addr} {pc0 : Nat} {pA1 : Option Addr} {pc1 : Nat} (ph0 : Fsl 24 (Kind.sl 8 (Kind.int .i64)) F pA0 pc0 a0) (ph1 : Fsl 8 (Kind.int .i64) F pA1 pc1 a1) {r : Int} (hm : m_domain_combinations g a0 a1 = some r) :
  CallSp Try.prog 51 #[.slice pA0 a0.length pc0, .slice pA1 a1.length pc1] F [] (fun u F' H' => u = (.int .i64 r) ∧ H' = []) := by
 unfold m_domain_combinations at hm
 refine CallSp.enter (args := [.slice pA0 a0.length pc0, .slice pA1 a1.length pc1]) Try.func51 rfl rfl ?_
 intro w0 m0 hm0
 refine St.seq ?_
 refine St.region ?_
 refine St.val (v := (.int .i64 0)) (Yields.assign rfl) trivial rfl rfl ?_
 refine St.nil ?_
 refine St.norm ?_
 refine St.seq ?_
 refine St.region ?_
 refine St.val (v := (.int .i64 1)) (Yields.assign rfl) trivial rfl rfl ?_
 refine St.nil ?_
 refine St.norm ?_
 obtain ⟨o4, hm, ho5⟩ := jS hm
 refine St.cutI (fun a w => ∃ z3 : Int, o4 = .inl z3 ∧ Has Try.f51.ntmps a [(5, .int .i64 z3)] ∧ Sat ⟨w0, fun b => m0 b ≠ none, F⟩ F [] w) ?_ ?_
 ·skip
  refine St.seq ?_
  refine St.region ?_
  refine St.val (v := (.slice pA1 a1.length pc1)) (Yields.move rfl) trivial rfl rfl ?_
  refine St.val (v := (.int .i64 ((a1.length : Nat) : Int))) (Yields.lenSlice tu26 rfl) trivial rfl rfl ?_
  refine St.val (v := (.int .i64 0)) (Yields.move rfl) trivial rfl rfl ?_
  refine St.nil ?_
  refine St.norm ?_
  refine St.block ?_
  refine St.loopM hm (fun s8 a w => Has Try.f51.ntmps a [(0, .slice pA0 a0.length pc0), (5, .int .i64 s8.1), (8, .slice pA1 a1.length pc1), (9, .int .i64 ((a1.length : Nat) : Int)), (10, .int .i64 ((s8.2 : Nat) : Int))] ∧ Sat ⟨w0, fun b => m0 b ≠ none, F⟩ F [] w) ?_ ?_
  ·skip
   intro a w ha hs
   exact ⟨ha.covers ⟨rfl, rfl, rfl, rfl, rfl, trivial⟩, (Among.of Among.none _ hs)⟩
  ·rintro s8 o9 co10 hm ho11 a w ⟨ha, hs⟩
   refine St.use (?_ : St _ _ _ _ _ _) ha hs
   clear ha hs a w
   refine St.seq ?_
   refine St.region ?_
   refine St.val (v := (.bool (decide (((s8.2 : Nat) : Int) < ((a1.length : Nat) : Int))))) (Yields.lt rfl rfl) trivial rfl rfl ?_
   refine St.nil ?_
   refine St.norm ?_
   refine St.seq ?_
   refine St.cond_b rfl ?_ ?_
   ·intro q12
    replace q12 : ((s8.2 : Nat) : Int) < ((a1.length : Nat) : Int) := of_decide_eq_true q12
    replace hm := iT hm q12
    refine St.skip ?_
    refine St.norm ?_
    refine St.seq ?_
    refine St.block ?_
    refine St.seq ?_
    refine St.region ?_
    obtain ⟨x13, e14, hm⟩ := bS hm
    obtain ⟨p15, cs16, jx17, R18, k19⟩ := ph1.nidx e14
    obtain rfl := R18
    refine St.val (v := (.pointer (some p15))) (Yields.idx jx17 ts26 rfl rfl) trivial rfl rfl ?_
    refine St.val (v := (.int .i64 x13)) (Yields.load rfl (Loads.Fat k19 tc3 rfl)) trivial rfl rfl ?_
    refine St.val (v := (.int .i64 x13)) (Yields.assign rfl) trivial rfl rfl ?_
    refine St.nil ?_
    refine St.norm ?_
    refine St.seq ?_
    refine St.region ?_
    refine St.val (v := (.int .i64 s8.1)) (Yields.move rfl) trivial rfl rfl ?_
    refine St.val (v := (.slice pA0 a0.length pc0)) (Yields.move rfl) trivial rfl rfl ?_
    refine St.val (v := (.int .i64 x13)) (Yields.move rfl) trivial rfl rfl ?_
    obtain ⟨x20, e21, hm⟩ := bS hm
    obtain ⟨p22, cs23, jx24, R25, k26⟩ := ph0.idx e21
    obtain ⟨A27, c28, rfl, h29⟩ := R25
    refine St.val (v := (.pointer (some p22))) (Yields.idx jx24 ts22 rfl rfl) trivial rfl rfl ?_
    refine St.val (v := (.slice A27 x20.length c28)) (Yields.load rfl (Loads.Fat k26 tc26 rfl)) trivial rfl rfl ?_
    refine St.val (v := (.int .i64 ((x20.length : Nat) : Int))) (Yields.lenSlice tu26 rfl) trivial rfl rfl ?_
    refine St.val (v := (.int .i64 (Mir.w64 (s8.1 * ((x20.length : Nat) : Int))))) (Yields.mulw rfl rfl) trivial rfl rfl ?_
    refine St.val (v := (.int .i64 (Mir.w64 (s8.1 * ((x20.length : Nat) : Int))))) (Yields.assign rfl) trivial rfl rfl ?_
    refine St.nil ?_
    refine St.norm ?_
    refine St.seq ?_
    refine St.region ?_
    refine St.val (v := (.int .i64 (Mir.w64 (s8.1 * ((x20.length : Nat) : Int))))) (Yields.move rfl) trivial rfl rfl ?_
    refine St.val (v := (.bool (decide (Mir.w64 (s8.1 * ((x20.length : Nat) : Int)) > 20000)))) (Yields.gt rfl rfl) trivial rfl rfl ?_
    refine St.nil ?_
    refine St.norm ?_
    refine St.cond_b rfl ?_ ?_
    ·intro q31
     replace q31 : Mir.w64 (s8.1 * ((x20.length : Nat) : Int)) > 20000 := of_decide_eq_true q31
     replace hm := iT hm q31
     refine St.seq ?_
     refine St.region ?_
     refine St.val (v := (.int .i64 20001)) (Yields.assign rfl) trivial rfl rfl ?_
     refine St.nil ?_
     refine St.norm ?_
     refine St.ret ?_
     refine St.inret ?_
     refine St.thenret ?_
     refine St.thenret ?_
     refine St.inret ?_
     refine St.thenret ?_
     obtain rfl := sI hm
     obtain rfl := aR ho11
     obtain rfl := aR ho5
     exact St.doneR1 rfl rfl ⟨rfl, rfl⟩ (fun w hs => Among.of Among.none w hs)
    ·intro q32
     replace q32 : ¬ (Mir.w64 (s8.1 * ((x20.length : Nat) : Int)) > 20000) := of_decide_eq_false q32
     replace hm := iF hm q32
     refine St.skip ?_
     refine St.innorm ?_
     refine St.norm ?_
     refine St.region ?_
     refine St.val (v := (.int .i64 ((s8.2 + 1 : Nat) : Int))) (Yields.addn (j := 1) rfl rfl rfl (by have q_0 := q12; have q_1 := ph1.bnd.2; omega)) trivial rfl rfl ?_
     refine St.val (v := (.int .i64 ((s8.2 + 1 : Nat) : Int))) (Yields.move rfl) trivial rfl rfl ?_
     refine St.nil ?_
     refine St.norm ?_
     obtain rfl := sI hm
     intro a w ha hs
     exact ⟨(Mir.w64 (s8.1 * ((x20.length : Nat) : Int)), s8.2 + 1), aL ho11, ha.covers ⟨rfl, rfl, rfl, rfl, rfl, trivial⟩, (Among.of Among.none _ hs)⟩
   ·intro q33
    replace q33 : ¬ (((s8.2 : Nat) : Int) < ((a1.length : Nat) : Int)) := of_decide_eq_false q33
    replace hm := iF hm q33
    refine St.exit ?_
    refine St.thenexit ?_
    refine St.thenexit ?_
    refine St.inexit ?_
    obtain rfl := sI hm
    obtain rfl := aR ho11
    intro a w ha hs
    exact ⟨s8.1, rfl, ha.covers ⟨rfl, trivial⟩, (Among.of Among.none _ hs)⟩
 ·rintro a w ⟨z3, rfl, ha, hs⟩
  replace hm := aL ho5
  refine St.use (?_ : St _ _ _ _ _ _) ha hs
  clear ha hs a w
  refine St.seq ?_
  refine St.region ?_
  refine St.val (v := (.int .i64 z3)) (Yields.move rfl) trivial rfl rfl ?_
  refine St.val (v := (.int .i64 z3)) (Yields.assign rfl) trivial rfl rfl ?_
  refine St.nil ?_
  refine St.norm ?_
  refine St.ret ?_
  obtain rfl := sI hm
  exact St.doneR1 rfl rfl ⟨rfl, rfl⟩ (fun w hs => Among.of Among.none w hs)

theorem m_domain_isCostly_sp {F : PH} {g : Nat} {a0 : DProblem} {pA0_0 : Option Addr} {pc0_0 : Nat} {pA0_1 : Option Addr} {pc0_1 : Nat} (ph0_0 : Fsl 24 (Kind.sl 8 (Kind.int .i64)) F pA0_0 pc0_0 a0.Doms) (ph0_1 : Fsl 88 KDLimit F pA0_1 pc0_1 a0.Limits) {r : Bool} (hm : m_domain_isCostly g a0 = some r) :
  CallSp Try.prog 27 #[.agg #[.slice pA0_0 a0.Doms.length pc0_0, .slice pA0_1 a0.Limits.length pc0_1]] F [] (fun u F' H' => u = (.bool r) ∧ H' = []) := by
 unfold m_domain_isCostly at hm
 refine CallSp.enter (args := [.agg #[.slice pA0_0 a0.Doms.length pc0_0, .slice pA0_1 a0.Limits.length pc0_1]]) Try.func27 rfl rfl ?_
 intro w0 m0 hm0
 refine St.seq ?_
 refine St.region ?_
 refine St.box rfl trivial rfl ?_
 intro b3
 refine St.val (v := (.bool false)) (Yields.assign rfl) trivial rfl rfl ?_
 refine St.nil ?_
 refine St.norm ?_
 obtain ⟨o7, hm, ho8⟩ := jS hm
 refine St.cutI (fun a w => ∃ z4 : Unit, o7 = .inl z4 ∧ ∃ (F5 : PH), PH.le F F5 ∧ Has Try.f27.ntmps a [] ∧ Sat ⟨w0, fun b => m0 b ≠ none, F⟩ F5 [] w) ?_ ?_
 ·skip
  refine St.seq ?_
  refine St.region ?_
  refine St.val (v := (.pointer (some ⟨b3, 1, none⟩))) (Yields.fieldAddr (v := (.pointer (some ⟨b3, 1, none⟩))) rfl (fun _ => by kernel_rfl)) trivial rfl rfl ?_
  refine St.val (v := (.slice pA0_1 a0.Limits.length pc0_1)) (Yields.load rfl (Loads.H1 0 rfl tc23 rfl)) trivial rfl rfl ?_
  refine St.val (v := (.int .i64 ((a0.Limits.length : Nat) : Int))) (Yields.lenSlice tu23 rfl) trivial rfl rfl ?_
  refine St.val (v := (.int .i64 0)) (Yields.move rfl) trivial rfl rfl ?_
  refine St.nil ?_
  refine St.norm ?_
  refine St.block ?_
  refine St.loopM hm (fun s11 a w => ∃ (F15 : PH), PH.le F F15 ∧ Has Try.f27.ntmps a [(1, .pointer (some ⟨b3, 0, none⟩)), (6, .slice pA0_1 a0.Limits.length pc0_1), (7, .int .i64 ((a0.Limits.length : Nat) : Int)), (8, .int .i64 ((s11 : Nat) : Int))] ∧ Sat ⟨w0, fun b => m0 b ≠ none, F⟩ F15 [blk b3 (.cells #[.slice pA0_0 a0.Doms.length pc0_0, .slice pA0_1 a0.Limits.length pc0_1] 25 (0, 0))] w) ?_ ?_
  ·skip
   intro a w ha hs
   exact ⟨F, (PH.le_refl _), ha.covers ⟨rfl, rfl, rfl, rfl, trivial⟩, (Among.of (Among.take 0 rfl rfl Among.none) _ hs)⟩
  ·rintro s11 o12 co13 hm ho14 a w ⟨F15, l16, ha, hs⟩
   refine St.use (?_ : St _ _ _ _ _ _) ha hs
   clear ha hs a w
   refine St.seq ?_
   refine St.region ?_
   refine St.val (v := (.bool (decide (((s11 : Nat) : Int) < ((a0.Limits.length : Nat) : Int))))) (Yields.lt rfl rfl) trivial rfl rfl ?_
   refine St.nil ?_
   refine St.norm ?_
   refine St.seq ?_
   refine St.cond_b rfl ?_ ?_
   ·intro q17
    replace q17 : ((s11 : Nat) : Int) < ((a0.Limits.length : Nat) : Int) := of_decide_eq_true q17
    replace hm := iT hm q17
    refine St.skip ?_
    refine St.norm ?_
    refine St.seq ?_
    refine St.block ?_
    refine St.seq ?_
    refine St.region ?_
    obtain ⟨x18, e19, hm⟩ := bS hm
    obtain ⟨p20, cs21, jx22, R23, k24⟩ := (Fsl.mono l16 ph0_1).nidx e19
    obtain ⟨A25, c26, A28, c29, A31, c32, rfl, h27, h30, h33⟩ := DLimit.opn R23
    refine St.val (v := (.pointer (some p20))) (Yields.idx jx22 ts23 rfl rfl) trivial rfl rfl ?_
    refine St.val (v := (.agg #[.int .i64 x18.Kind, .slice A25 x18.Vars.length c26, .slice A28 x18.A.length c29, .int .i64 x18.B, .slice A31 x18.Rows.length c32])) (Yields.load rfl (Loads.Fatn0 k24 ta28)) trivial rfl rfl ?_
    refine St.alloc tz28 trivial rfl ?_
    intro b37
    refine St.storen (R := [blk b3 (.cells #[.slice pA0_0 a0.Doms.length pc0_0, .slice pA0_1 a0.Limits.length pc0_1] 25 (0, 0))]) rfl rfl 0 rfl rfl ta28 rfl rfl rfl trivial (cs' := #[.int .i64 x18.Kind, .slice A25 x18.Vars.length c26, .slice A28 x18.A.length c29, .int .i64 x18.B, .slice A31 x18.Rows.length c32]) rfl ?_
    refine St.nil ?_
    refine St.norm ?_
    obtain ⟨z38, hm, hk41⟩ := bS hm
    refine St.cutI (fun a w => ∃ (F39 : PH), PH.le F15 F39 ∧ Has Try.f27.ntmps a [(1, .pointer (some ⟨b3, 0, none⟩)), (6, .slice pA0_1 a0.Limits.length pc0_1), (7, .int .i64 ((a0.Limits.length : Nat) : Int)), (8, .int .i64 ((s11 : Nat) : Int)), (23, .bool z38)] ∧ Sat ⟨w0, fun b => m0 b ≠ none, F⟩ F39 [blk b3 (.cells #[.slice pA0_0 a0.Doms.length pc0_0, .slice pA0_1 a0.Limits.length pc0_1] 25 (0, 0))] w) ?_ ?_
    ·skip
     refine St.region ?_
     refine St.val (v := (.pointer (some ⟨b37, 1, none⟩))) (Yields.fieldAddr (v := (.pointer (some ⟨b37, 1, none⟩))) rfl (fun _ => by kernel_rfl)) trivial rfl rfl ?_
     refine St.val (v := (.slice A25 x18.Vars.length c26)) (Yields.load rfl (Loads.H1 0 rfl tc26 rfl)) trivial rfl rfl ?_
     refine St.val (v := (.int .i64 ((x18.Vars.length : Nat) : Int))) (Yields.lenSlice tu26 rfl) trivial rfl rfl ?_
     by_cases q42 : ((x18.Vars.length : Nat) : Int) > 3
     ·replace hm := iT hm q42
      refine St.val (v := (.bool true)) (Yields.is q42 (Yields.gt rfl rfl)) trivial rfl rfl ?_
      refine St.val (v := (.bool true)) (Yields.move rfl) trivial rfl rfl ?_
      refine St.val (v := (.pointer (some ⟨b3, 0, none⟩))) (Yields.fieldAddr (v := (.pointer (some ⟨b3, 0, none⟩))) rfl (fun _ => by kernel_rfl)) rfl rfl rfl ?_
      refine St.val (v := (.slice pA0_0 a0.Doms.length pc0_0)) (Yields.load rfl (Loads.H1 1 rfl tc22 rfl)) rfl rfl rfl ?_
      refine St.val (v := (.pointer (some ⟨b37, 1, none⟩))) (Yields.fieldAddr (v := (.pointer (some ⟨b37, 1, none⟩))) rfl (fun _ => by kernel_rfl)) rfl rfl rfl ?_
      refine St.val (v := (.slice A25 x18.Vars.length c26)) (Yields.load rfl (Loads.H1 0 rfl tc26 rfl)) rfl rfl rfl ?_
      obtain ⟨q43, e44, hm⟩ := bS hm
      refine St.call [blk b37 (.cells #[.int .i64 x18.Kind, .slice A25 x18.Vars.length c26, .slice A28 x18.A.length c29, .int .i64 x18.B, .slice A31 x18.Rows.length c32] 28 (0, 0)), blk b3 (.cells #[.slice pA0_0 a0.Doms.length pc0_0, .slice pA0_1 a0.Limits.length pc0_1] 25 (0, 0))] (m_domain_combinations_sp (Fsl.mono l16 ph0_0) h27 e44) rfl (fun _ ha => ev2 ha rfl rfl) rfl en51 rfl rfl rfl ?_
      rintro _ F45 _ ⟨rfl, rfl⟩ l46
      refine St.val (v := (.bool (decide (q43 > 20000)))) (Yields.gt rfl rfl) rfl rfl rfl ?_
      refine St.val (v := (.bool (decide (q43 > 20000)))) (Yields.pick_t rfl rfl) trivial rfl rfl ?_
      refine St.nil ?_
      obtain rfl := sI hm
      intro a w ha hs
      exact ⟨F45, l46, ha.covers ⟨rfl, rfl, rfl, rfl, rfl, trivial⟩, (Among.of (Among.take 1 rfl rfl Among.none) _ hs)⟩
     ·replace hm := iF hm q42
      refine St.val (v := (.bool false)) (Yields.isnt q42 (Yields.gt rfl rfl)) trivial rfl rfl ?_
      refine St.val (v := (.bool false)) (Yields.move rfl) trivial rfl rfl ?_
      refine St.unwanted rfl rfl rfl ?_
      refine St.unwanted rfl rfl rfl ?_
      refine St.unwanted rfl rfl rfl ?_
      refine St.unwanted rfl rfl rfl ?_
      refine St.unwanted rfl rfl rfl ?_
      refine St.unwanted rfl rfl rfl ?_
      refine St.val (v := (.bool false)) (Yields.pick_f rfl rfl) trivial rfl rfl ?_
      refine St.nil ?_
      obtain rfl := sI hm
      intro a w ha hs
      exact ⟨F15, (PH.le_refl _), ha.covers ⟨rfl, rfl, rfl, rfl, rfl, trivial⟩, (Among.of (Among.take 1 rfl rfl Among.none) _ hs)⟩
    ·rintro a w ⟨F39, l40, ha, hs⟩
     replace hm := hk41
     refine St.use (?_ : St _ _ _ _ _ _) ha hs
     clear ha hs a w
     refine St.cond_b rfl ?_ ?_
     ·intro q47
      replace q47 : z38 = true := q47
      replace hm := iT hm q47
      refine St.seq ?_
      refine St.region ?_
      refine St.val (v := (.bool true)) (Yields.assign rfl) trivial rfl rfl ?_
      refine St.nil ?_
      refine St.norm ?_
      refine St.ret ?_
      refine St.inret ?_
      refine St.thenret ?_
      refine St.thenret ?_
      refine St.inret ?_
      refine St.thenret ?_
      obtain rfl := sI hm
      obtain rfl := aR ho14
      obtain rfl := aR ho8
      exact St.doneR1 rfl rfl ⟨rfl, rfl⟩ (fun w hs => Among.of Among.none w hs)
     ·intro q48
      replace q48 : ¬ (z38 = true) := bf q48
      replace hm := iF hm q48
      refine St.skip ?_
      refine St.innorm ?_
      refine St.norm ?_
      refine St.region ?_
      refine St.val (v := (.int .i64 ((s11 + 1 : Nat) : Int))) (Yields.addn (j := 1) rfl rfl rfl (by have q_0 := q17; have q_1 := ph0_1.bnd.2; omega)) trivial rfl rfl ?_
      refine St.val (v := (.int .i64 ((s11 + 1 : Nat) : Int))) (Yields.move rfl) trivial rfl rfl ?_
      refine St.nil ?_
      refine St.norm ?_
      obtain rfl := sI hm
      intro a w ha hs
      exact ⟨s11 + 1, aL ho14, F39, (PH.le_trans l16 l40), ha.covers ⟨rfl, rfl, rfl, rfl, trivial⟩, (Among.of (Among.take 0 rfl rfl Among.none) _ hs)⟩
   ·intro q49
    replace q49 : ¬ (((s11 : Nat) : Int) < ((a0.Limits.length : Nat) : Int)) := of_decide_eq_false q49
    replace hm := iF hm q49
    refine St.exit ?_
    refine St.thenexit ?_
    refine St.thenexit ?_
    refine St.inexit ?_
    obtain rfl := sI hm
    obtain rfl := aR ho14
    intro a w ha hs
    exact ⟨(), rfl, F15, l16, ha.covers trivial, (Among.of Among.none _ hs)⟩
 ·rintro a w ⟨z4, rfl, F5, l6, ha, hs⟩
  replace hm := aL ho8
  refine St.use (?_ : St _ _ _ _ _ _) ha hs
  clear ha hs a w
  refine St.seq ?_
  refine St.region ?_
  refine St.val (v := (.bool false)) (Yields.assign rfl) trivial rfl rfl ?_
  refine St.nil ?_
  refine St.norm ?_
  refine St.ret ?_
  obtain rfl := sI hm
  exact St.doneR1 rfl rfl ⟨rfl, rfl⟩ (fun w hs => Among.of Among.none w hs)

theorem m_domain_of_sp {F : PH} {g : Nat} {a0 : DLimit} {pA0_0 : Option Addr} {pc0_0 : Nat} {pA0_1 : Option Addr} {pc0_1 : Nat} {pA0_2 : Option Addr} {pc0_2 : Nat} (ph0_0 : Fsl 8 (Kind.int .i64) F pA0_0 pc0_0 a0.Vars) (ph0_1 : Fsl 8 (Kind.int .i64) F pA0_1 pc0_1 a0.A) (ph0_2 : Fsl 24 (Kind.sl 8 (Kind.int .i64)) F pA0_2 pc0_2 a0.Rows) {r : ILimit} (hm : m_domain_of g a0 = some r) :
  CallSp Try.prog 34 #[.agg #[.int .i64 a0.Kind, .slice pA0_0 a0.Vars.length pc0_0, .slice pA0_1 a0.A.length pc0_1, .int .i64 a0.B, .slice pA0_2 a0.Rows.length pc0_2]] F [] (fun u F' H' => ∃ (wv0 : Value), u = wv0 ∧ ILimit.R F' wv0 r ∧ H' = []) := by
 unfold m_domain_of at hm
 refine CallSp.enter (args := [.agg #[.int .i64 a0.Kind, .slice pA0_0 a0.Vars.length pc0_0, .slice pA0_1 a0.A.length pc0_1, .int .i64 a0.B, .slice pA0_2 a0.Rows.length pc0_2]]) Try.func34 rfl rfl ?_
 intro w0 m0 hm0
 refine St.seq ?_
 refine St.region ?_
 refine St.box rfl trivial rfl ?_
 intro b4
 refine St.val (v := .nilIface) (Yields.assign rfl) trivial rfl rfl ?_
 refine St.nil ?_
 refine St.norm ?_
 refine St.seq ?_
 refine St.seq ?_
 refine St.region ?_
 refine St.val (v := (.pointer (some ⟨b4, 0, none⟩))) (Yields.fieldAddr (v := (.pointer (some ⟨b4, 0, none⟩))) rfl (fun _ => by kernel_rfl)) trivial rfl rfl ?_
 refine St.val (v := (.int .i64 a0.Kind)) (Yields.load rfl (Loads.H1 0 rfl tc3 rfl)) trivial rfl rfl ?_
 refine St.nil ?_
 refine St.norm ?_
 refine St.block ?_
 refine St.seq ?_
 refine St.region ?_
 refine St.val (v := (.bool (decide (a0.Kind = 3)))) (Yields.eq rfl rfl) trivial rfl rfl ?_
 refine St.val (v := (.bool (decide (a0.Kind = 3)))) (Yields.assign rfl) trivial rfl rfl ?_
 refine St.nil ?_
 refine St.norm ?_
 refine St.cond_b rfl ?_ ?_
 ·intro q5
  replace q5 : a0.Kind = 3 := of_decide_eq_true q5
  replace hm := iT hm q5
  refine St.seq ?_
  refine St.region ?_
  refine St.val (v := (.agg #[])) (Yields.build (v := (.agg #[])) (vs := #[]) (fun a _ => by simp) (fun _ => by kernel_rfl)) trivial rfl rfl ?_
  refine St.val (v := (.iface 78 (.agg #[]))) (Yields.makeInterface tp78 rfl) trivial rfl rfl ?_
  refine St.val (v := (.iface 78 (.agg #[]))) (Yields.assign rfl) trivial rfl rfl ?_
  refine St.nil ?_
  refine St.norm ?_
  refine St.ret ?_
  refine St.inret ?_
  refine St.thenret ?_
  obtain rfl := sI hm
  exact St.doneR1 rfl rfl ⟨(.iface 78 (.agg #[])), rfl, ⟨(.agg #[]), ⟨[], (DApart.shut), rfl⟩, rfl⟩, rfl⟩ (fun w hs => Among.of Among.none w hs)
 ·intro q6
  replace q6 : ¬ (a0.Kind = 3) := of_decide_eq_false q6
  replace hm := iF hm q6
  refine St.seq ?_
  refine St.region ?_
  refine St.val (v := (.bool (decide (a0.Kind = 4)))) (Yields.eq rfl rfl) trivial rfl rfl ?_
  refine St.val (v := (.bool (decide (a0.Kind = 4)))) (Yields.assign rfl) trivial rfl rfl ?_
  refine St.nil ?_
  refine St.norm ?_
  refine St.cond_b rfl ?_ ?_
  ·intro q7
   replace q7 : a0.Kind = 4 := of_decide_eq_true q7
   replace hm := iT hm q7
   refine St.seq ?_
   refine St.region ?_
   refine St.val (v := (.pointer (some ⟨b4, 4, none⟩))) (Yields.fieldAddr (v := (.pointer (some ⟨b4, 4, none⟩))) rfl (fun _ => by kernel_rfl)) trivial rfl rfl ?_
   refine St.val (v := (.slice pA0_2 a0.Rows.length pc0_2)) (Yields.load rfl (Loads.H1 0 rfl tc22 rfl)) trivial rfl rfl ?_
   refine St.val (v := (.agg #[.slice pA0_2 a0.Rows.length pc0_2])) (Yields.build (v := (.agg #[.slice pA0_2 a0.Rows.length pc0_2])) (vs := #[(0, .slice pA0_2 a0.Rows.length pc0_2)]) (fun _ ha => evp1 ha rfl) (fun _ => by kernel_rfl)) trivial rfl rfl ?_
   refine St.val (v := (.iface 80 (.agg #[.slice pA0_2 a0.Rows.length pc0_2]))) (Yields.makeInterface tp80 rfl) trivial rfl rfl ?_
   refine St.val (v := (.iface 80 (.agg #[.slice pA0_2 a0.Rows.length pc0_2]))) (Yields.assign rfl) trivial rfl rfl ?_
   refine St.nil ?_
   refine St.norm ?_
   refine St.ret ?_
   refine St.inret ?_
   refine St.thenret ?_
   obtain rfl := sI hm
   exact St.doneR1 rfl rfl ⟨(.iface 80 (.agg #[.slice pA0_2 a0.Rows.length pc0_2])), rfl, ⟨(.agg #[.slice pA0_2 a0.Rows.length pc0_2]), ⟨[.slice pA0_2 a0.Rows.length pc0_2], (DTable.shut ph0_2), rfl⟩, rfl⟩, rfl⟩ (fun w hs => Among.of Among.none w hs)
  ·intro q8
   replace q8 : ¬ (a0.Kind = 4) := of_decide_eq_false q8
   replace hm := iF hm q8
   refine St.skip ?_
   refine St.innorm ?_
   refine St.norm ?_
   refine St.seq ?_
   refine St.region ?_
   refine St.val (v := (.agg #[.int .i64 a0.Kind, .slice pA0_0 a0.Vars.length pc0_0, .slice pA0_1 a0.A.length pc0_1, .int .i64 a0.B, .slice pA0_2 a0.Rows.length pc0_2])) (Yields.load rfl (Loads.Hk (vs := [.int .i64 a0.Kind, .slice pA0_0 a0.Vars.length pc0_0, .slice pA0_1 a0.A.length pc0_1, .int .i64 a0.B, .slice pA0_2 a0.Rows.length pc0_2]) 0 rfl ta28 rfl rfl)) trivial rfl rfl ?_
   refine St.val (v := (.agg #[.int .i64 a0.Kind, .slice pA0_0 a0.Vars.length pc0_0, .slice pA0_1 a0.A.length pc0_1, .int .i64 a0.B, .slice pA0_2 a0.Rows.length pc0_2])) (Yields.build (v := (.agg #[.int .i64 a0.Kind, .slice pA0_0 a0.Vars.length pc0_0, .slice pA0_1 a0.A.length pc0_1, .int .i64 a0.B, .slice pA0_2 a0.Rows.length pc0_2])) (vs := #[(0, .agg #[.int .i64 a0.Kind, .slice pA0_0 a0.Vars.length pc0_0, .slice pA0_1 a0.A.length pc0_1, .int .i64 a0.B, .slice pA0_2 a0.Rows.length pc0_2])]) (fun _ ha => evp1 ha rfl) (fun _ => by kernel_rfl)) trivial rfl rfl ?_
   refine St.val (v := (.iface 82 (.agg #[.int .i64 a0.Kind, .slice pA0_0 a0.Vars.length pc0_0, .slice pA0_1 a0.A.length pc0_1, .int .i64 a0.B, .slice pA0_2 a0.Rows.length pc0_2]))) (Yields.makeInterface tp82 rfl) trivial rfl rfl ?_
   refine St.val (v := (.iface 82 (.agg #[.int .i64 a0.Kind, .slice pA0_0 a0.Vars.length pc0_0, .slice pA0_1 a0.A.length pc0_1, .int .i64 a0.B, .slice pA0_2 a0.Rows.length pc0_2]))) (Yields.assign rfl) trivial rfl rfl ?_
   refine St.nil ?_
   refine St.norm ?_
   refine St.ret ?_
   obtain rfl := sI hm
   exact St.doneR1 rfl rfl ⟨(.iface 82 (.agg #[.int .i64 a0.Kind, .slice pA0_0 a0.Vars.length pc0_0, .slice pA0_1 a0.A.length pc0_1, .int .i64 a0.B, .slice pA0_2 a0.Rows.length pc0_2])), rfl, ⟨(.agg #[.int .i64 a0.Kind, .slice pA0_0 a0.Vars.length pc0_0, .slice pA0_1 a0.A.length pc0_1, .int .i64 a0.B, .slice pA0_2 a0.Rows.length pc0_2]), ⟨[.int .i64 a0.Kind, .slice pA0_0 a0.Vars.length pc0_0, .slice pA0_1 a0.A.length pc0_1, .int .i64 a0.B, .slice pA0_2 a0.Rows.length pc0_2], (DSum.shut ph0_0 ph0_1 ph0_2), rfl⟩, rfl⟩, rfl⟩ (fun w hs => Among.of Among.none w hs)

theorem m_domain_apart_holds_sp {F : PH} {g : Nat} {a0 : DApart} {a1 : List Int} {pA1 : Option Addr} {pc1 : Nat} (ph1 : Fsl 8 (Kind.int .i64) F pA1 pc1 a1) {r : Bool} (hm : m_domain_apart_holds g a0 a1 = some r) :
  CallSp Try.prog 81 #[.agg #[], .slice pA1 a1.length pc1] F [] (fun u F' H' => u = (.bool r) ∧ H' = []) := by
 unfold m_domain_apart_holds at hm
 refine CallSp.enter (args := [.agg #[], .slice pA1 a1.length pc1]) Try.func81 rfl rfl ?_
 intro w0 m0 hm0
 refine St.seq ?_
 refine St.region ?_
 refine St.box rfl trivial rfl ?_
 intro b2
 refine St.val (v := (.bool false)) (Yields.assign rfl) trivial rfl rfl ?_
 refine St.nil ?_
 refine St.norm ?_
 obtain ⟨o4, hm, ho5⟩ := jS hm
 refine St.cutI (fun a w => ∃ z3 : Unit, o4 = .inl z3 ∧ Has Try.f81.ntmps a [] ∧ Sat ⟨w0, fun b => m0 b ≠ none, F⟩ F [] w) ?_ ?_
 ·skip
  refine St.seq ?_
  refine St.region ?_
  refine St.val (v := (.slice pA1 a1.length pc1)) (Yields.move rfl) trivial rfl rfl ?_
  refine St.val (v := (.int .i64 ((a1.length : Nat) : Int))) (Yields.lenSlice tu26 rfl) trivial rfl rfl ?_
  refine St.val (v := (.int .i64 0)) (Yields.move rfl) trivial rfl rfl ?_
  refine St.nil ?_
  refine St.norm ?_
  refine St.block ?_
  refine St.loopM hm (fun s7 a w => Has Try.f81.ntmps a [(1, .slice pA1 a1.length pc1), (9, .slice pA1 a1.length pc1), (10, .int .i64 ((a1.length : Nat) : Int)), (11, .int .i64 ((s7 : Nat) : Int))] ∧ Sat ⟨w0, fun b => m0 b ≠ none, F⟩ F [] w) ?_ ?_
  ·skip
   intro a w ha hs
   exact ⟨ha.covers ⟨rfl, rfl, rfl, rfl, trivial⟩, (Among.of Among.none _ hs)⟩
  ·rintro s7 o8 co9 hm ho10 a w ⟨ha, hs⟩
   refine St.use (?_ : St _ _ _ _ _ _) ha hs
   clear ha hs a w
   refine St.seq ?_
   refine St.region ?_
   refine St.val (v := (.bool (decide (((s7 : Nat) : Int) < ((a1.length : Nat) : Int))))) (Yields.lt rfl rfl) trivial rfl rfl ?_
   refine St.nil ?_
   refine St.norm ?_
   refine St.seq ?_
   refine St.cond_b rfl ?_ ?_
   ·intro q11
    replace q11 : ((s7 : Nat) : Int) < ((a1.length : Nat) : Int) := of_decide_eq_true q11
    replace hm := iT hm q11
    refine St.skip ?_
    refine St.norm ?_
    obtain ⟨o13, hm, ho14⟩ := jS hm
    refine St.cutI (fun a w => ∃ z12 : Unit, o13 = .inl z12 ∧ Has Try.f81.ntmps a [(1, .slice pA1 a1.length pc1), (9, .slice pA1 a1.length pc1), (10, .int .i64 ((a1.length : Nat) : Int)), (11, .int .i64 ((s7 : Nat) : Int))] ∧ Sat ⟨w0, fun b => m0 b ≠ none, F⟩ F [] w) ?_ ?_
    ·skip
     refine St.block ?_
     refine St.seq ?_
     refine St.region ?_
     refine St.val (v := (.int .i64 ((s7 : Nat) : Int))) (Yields.move rfl) trivial rfl rfl ?_
     obtain ⟨x15, e16, hm⟩ := bS hm
     obtain ⟨p17, cs18, jx19, R20, k21⟩ := ph1.nidx e16
     obtain rfl := R20
     refine St.val (v := (.pointer (some p17))) (Yields.idx jx19 ts26 rfl rfl) trivial rfl rfl ?_
     refine St.val (v := (.int .i64 x15)) (Yields.load rfl (Loads.Fat k21 tc3 rfl)) trivial rfl rfl ?_
     refine St.val (v := (.int .i64 ((s7 : Nat) : Int))) (Yields.assign rfl) trivial rfl rfl ?_
     refine St.val (v := (.int .i64 x15)) (Yields.assign rfl) trivial rfl rfl ?_
     refine St.nil ?_
     refine St.norm ?_
     refine St.seq ?_
     refine St.region ?_
     refine St.val (v := (.slice pA1 a1.length pc1)) (Yields.move rfl) trivial rfl rfl ?_
     refine St.val (v := (.int .i64 ((s7 : Nat) : Int))) (Yields.move rfl) trivial rfl rfl ?_
     obtain ⟨x26, e27, hm⟩ := bS hm
     obtain ⟨A22, c23, s24, h25⟩ := ph1.subx e27
     refine St.val (v := (.slice A22 x26.length c23)) (Yields.subT s24 ts26 rfl rfl) trivial rfl rfl ?_
     refine St.val (v := (.int .i64 ((x26.length : Nat) : Int))) (Yields.lenSlice tu26 rfl) trivial rfl rfl ?_
     refine St.val (v := (.int .i64 0)) (Yields.move rfl) trivial rfl rfl ?_
     refine St.nil ?_
     refine St.norm ?_
     refine St.block ?_
     refine St.loopM hm (fun s30 a w => Has Try.f81.ntmps a [(1, .slice pA1 a1.length pc1), (6, .int .i64 x15), (9, .slice pA1 a1.length pc1), (10, .int .i64 ((a1.length : Nat) : Int)), (11, .int .i64 ((s7 : Nat) : Int)), (18, .slice A22 x26.length c23), (19, .int .i64 ((x26.length : Nat) : Int)), (20, .int .i64 ((s30 : Nat) : Int))] ∧ Sat ⟨w0, fun b => m0 b ≠ none, F⟩ F [] w) ?_ ?_
     ·skip
      intro a w ha hs
      exact ⟨ha.covers ⟨rfl, rfl, rfl, rfl, rfl, rfl, rfl, rfl, trivial⟩, (Among.of Among.none _ hs)⟩
     ·rintro s30 o31 co32 hm ho33 a w ⟨ha, hs⟩
      refine St.use (?_ : St _ _ _ _ _ _) ha hs
      clear ha hs a w
      refine St.seq ?_
      refine St.region ?_
      refine St.val (v := (.bool (decide (((s30 : Nat) : Int) < ((x26.length : Nat) : Int))))) (Yields.lt rfl rfl) trivial rfl rfl ?_
      refine St.nil ?_
      refine St.norm ?_
      refine St.seq ?_
      refine St.cond_b rfl ?_ ?_
      ·intro q34
       replace q34 : ((s30 : Nat) : Int) < ((x26.length : Nat) : Int) := of_decide_eq_true q34
       replace hm := iT hm q34
       refine St.skip ?_
       refine St.norm ?_
       refine St.seq ?_
       refine St.block ?_
       refine St.seq ?_
       refine St.region ?_
       obtain ⟨x35, e36, hm⟩ := bS hm
       obtain ⟨p37, cs38, jx39, R40, k41⟩ := h25.nidx e36
       obtain rfl := R40
       refine St.val (v := (.pointer (some p37))) (Yields.idx jx39 ts26 rfl rfl) trivial rfl rfl ?_
       refine St.val (v := (.int .i64 x35)) (Yields.load rfl (Loads.Fat k41 tc3 rfl)) trivial rfl rfl ?_
       refine St.val (v := (.int .i64 x35)) (Yields.assign rfl) trivial rfl rfl ?_
       refine St.nil ?_
       refine St.norm ?_
       refine St.seq ?_
       refine St.region ?_
       refine St.val (v := (.int .i64 x15)) (Yields.move rfl) trivial rfl rfl ?_
       refine St.val (v := (.int .i64 x35)) (Yields.move rfl) trivial rfl rfl ?_
       refine St.val (v := (.bool (decide (x15 = x35)))) (Yields.eq rfl rfl) trivial rfl rfl ?_
       refine St.nil ?_
       refine St.norm ?_
       refine St.cond_b rfl ?_ ?_
       ·intro q42
        replace q42 : x15 = x35 := of_decide_eq_true q42
        replace hm := iT hm q42
        refine St.seq ?_
        refine St.region ?_
        refine St.val (v := (.bool false)) (Yields.assign rfl) trivial rfl rfl ?_
        refine St.nil ?_
        refine St.norm ?_
        refine St.ret ?_
        refine St.inret ?_
        refine St.thenret ?_
        refine St.thenret ?_
        refine St.inret ?_
        refine St.inret ?_
        refine St.thenret ?_
        refine St.thenret ?_
        refine St.inret ?_
        refine St.thenret ?_
        obtain rfl := sI hm
        obtain rfl := aR ho33
        obtain rfl := aR ho14
        obtain rfl := aR ho10
        obtain rfl := aR ho5
        exact St.doneR1 rfl rfl ⟨rfl, rfl⟩ (fun w hs => Among.of Among.none w hs)
       ·intro q43
        replace q43 : ¬ (x15 = x35) := of_decide_eq_false q43
        replace hm := iF hm q43
        refine St.skip ?_
        refine St.innorm ?_
        refine St.norm ?_
        refine St.region ?_
        refine St.val (v := (.int .i64 ((s30 + 1 : Nat) : Int))) (Yields.addn (j := 1) rfl rfl rfl (by have q_0 := q34; have q_1 := h25.bnd.2; omega)) trivial rfl rfl ?_
        refine St.val (v := (.int .i64 ((s30 + 1 : Nat) : Int))) (Yields.move rfl) trivial rfl rfl ?_
        refine St.nil ?_
        refine St.norm ?_
        obtain rfl := sI hm
        intro a w ha hs
        exact ⟨s30 + 1, aL ho33, ha.covers ⟨rfl, rfl, rfl, rfl, rfl, rfl, rfl, rfl, trivial⟩, (Among.of Among.none _ hs)⟩
      ·intro q44
       replace q44 : ¬ (((s30 : Nat) : Int) < ((x26.length : Nat) : Int)) := of_decide_eq_false q44
       replace hm := iF hm q44
       refine St.exit ?_
       refine St.thenexit ?_
       refine St.thenexit ?_
       refine St.inexit ?_
       refine St.innorm ?_
       obtain rfl := sI hm
       obtain rfl := aR ho33
       intro a w ha hs
       exact ⟨(), rfl, ha.covers ⟨rfl, rfl, rfl, rfl, trivial⟩, (Among.of Among.none _ hs)⟩
    ·rintro a w ⟨z12, rfl, ha, hs⟩
     replace hm := aL ho14
     refine St.use (?_ : St _ _ _ _ _ _) ha hs
     clear ha hs a w
     refine St.region ?_
     refine St.val (v := (.int .i64 ((s7 + 1 : Nat) : Int))) (Yields.addn (j := 1) rfl rfl rfl (by have q_0 := q11; have q_1 := ph1.bnd.2; omega)) trivial rfl rfl ?_
     refine St.val (v := (.int .i64 ((s7 + 1 : Nat) : Int))) (Yields.move rfl) trivial rfl rfl ?_
     refine St.nil ?_
     refine St.norm ?_
     obtain rfl := sI hm
     intro a w ha hs
     exact ⟨s7 + 1, aL ho10, ha.covers ⟨rfl, rfl, rfl, rfl, trivial⟩, (Among.of Among.none _ hs)⟩
   ·intro q45
    replace q45 : ¬ (((s7 : Nat) : Int) < ((a1.length : Nat) : Int)) := of_decide_eq_false q45
    replace hm := iF hm q45
    refine St.exit ?_
    refine St.thenexit ?_
    refine St.thenexit ?_
    refine St.inexit ?_
    obtain rfl := sI hm
    obtain rfl := aR ho10
    intro a w ha hs
    exact ⟨(), rfl, ha.covers trivial, (Among.of Among.none _ hs)⟩
 ·rintro a w ⟨z3, rfl, ha, hs⟩
  replace hm := aL ho5
  refine St.use (?_ : St _ _ _ _ _ _) ha hs
  clear ha hs a w
  refine St.seq ?_
  refine St.region ?_
  refine St.val (v := (.bool true)) (Yields.assign rfl) trivial rfl rfl ?_
  refine St.nil ?_
  refine St.norm ?_
  refine St.ret ?_
  obtain rfl := sI hm
  exact St.doneR1 rfl rfl ⟨rfl, rfl⟩ (fun w hs => Among.of Among.none w hs)

theorem m_domain_table_holds_sp {F : PH} {g : Nat} {a0 : DTable} {a1 : List Int} {pA0_0 : Option Addr} {pc0_0 : Nat} {pA1 : Option Addr} {pc1 : Nat} (ph0_0 : Fsl 24 (Kind.sl 8 (Kind.int .i64)) F pA0_0 pc0_0 a0.rows) (ph1 : Fsl 8 (Kind.int .i64) F pA1 pc1 a1) {r : Bool} (hm : m_domain_table_holds g a0 a1 = some r) :
  CallSp Try.prog 82 #[.agg #[.slice pA0_0 a0.rows.length pc0_0], .slice pA1 a1.length pc1] F [] (fun u F' H' => u = (.bool r) ∧ H' = []) := by
 unfold m_domain_table_holds at hm
 refine CallSp.enter (args := [.agg #[.slice pA0_0 a0.rows.length pc0_0], .slice pA1 a1.length pc1]) Try.func82 rfl rfl ?_
 intro w0 m0 hm0
 refine St.seq ?_
 refine St.region ?_
 refine St.box rfl trivial rfl ?_
 intro b3
 refine St.val (v := (.bool false)) (Yields.assign rfl) trivial rfl rfl ?_
 refine St.nil ?_
 refine St.norm ?_
 obtain ⟨o5, hm, ho6⟩ := jS hm
 refine St.cutI (fun a w => ∃ z4 : Unit, o5 = .inl z4 ∧ Has Try.f82.ntmps a [] ∧ Sat ⟨w0, fun b => m0 b ≠ none, F⟩ F [] w) ?_ ?_
 ·skip
  refine St.seq ?_
  refine St.region ?_
  refine St.val (v := (.pointer (some ⟨b3, 0, none⟩))) (Yields.fieldAddr (v := (.pointer (some ⟨b3, 0, none⟩))) rfl (fun _ => by kernel_rfl)) trivial rfl rfl ?_
  refine St.val (v := (.slice pA0_0 a0.rows.length pc0_0)) (Yields.load rfl (Loads.H1 0 rfl tc22 rfl)) trivial rfl rfl ?_
  refine St.val (v := (.int .i64 ((a0.rows.length : Nat) : Int))) (Yields.lenSlice tu22 rfl) trivial rfl rfl ?_
  refine St.val (v := (.int .i64 0)) (Yields.move rfl) trivial rfl rfl ?_
  refine St.nil ?_
  refine St.norm ?_
  refine St.block ?_
  refine St.loopM hm (fun s8 a w => Has Try.f82.ntmps a [(1, .slice pA1 a1.length pc1), (11, .slice pA0_0 a0.rows.length pc0_0), (12, .int .i64 ((a0.rows.length : Nat) : Int)), (13, .int .i64 ((s8 : Nat) : Int))] ∧ Sat ⟨w0, fun b => m0 b ≠ none, F⟩ F [] w) ?_ ?_
  ·skip
   intro a w ha hs
   exact ⟨ha.covers ⟨rfl, rfl, rfl, rfl, trivial⟩, (Among.of Among.none _ hs)⟩
  ·rintro s8 o9 co10 hm ho11 a w ⟨ha, hs⟩
   refine St.use (?_ : St _ _ _ _ _ _) ha hs
   clear ha hs a w
   refine St.seq ?_
   refine St.region ?_
   refine St.val (v := (.bool (decide (((s8 : Nat) : Int) < ((a0.rows.length : Nat) : Int))))) (Yields.lt rfl rfl) trivial rfl rfl ?_
   refine St.nil ?_
   refine St.norm ?_
   refine St.seq ?_
   refine St.cond_b rfl ?_ ?_
   ·intro q12
    replace q12 : ((s8 : Nat) : Int) < ((a0.rows.length : Nat) : Int) := of_decide_eq_true q12
    replace hm := iT hm q12
    refine St.skip ?_
    refine St.norm ?_
    refine St.seq ?_
    refine St.block ?_
    refine St.seq ?_
    refine St.region ?_
    obtain ⟨x13, e14, hm⟩ := bS hm
    obtain ⟨p15, cs16, jx17, R18, k19⟩ := ph0_0.nidx e14
    obtain ⟨A20, c21, rfl, h22⟩ := R18
    refine St.val (v := (.pointer (some p15))) (Yields.idx jx17 ts22 rfl rfl) trivial rfl rfl ?_
    refine St.val (v := (.slice A20 x13.length c21)) (Yields.load rfl (Loads.Fat k19 tc26 rfl)) trivial rfl rfl ?_
    refine St.val (v := (.slice A20 x13.length c21)) (Yields.assign rfl) trivial rfl rfl ?_
    refine St.nil ?_
    refine St.norm ?_
    refine St.seq ?_
    refine St.region ?_
    refine St.val (v := (.bool true)) (Yields.assign rfl) trivial rfl rfl ?_
    refine St.nil ?_
    refine St.norm ?_
    obtain ⟨z24, hm, hk25⟩ := bS hm
    refine St.cutI (fun a w => Has Try.f82.ntmps a [(1, .slice pA1 a1.length pc1), (7, .bool z24), (11, .slice pA0_0 a0.rows.length pc0_0), (12, .int .i64 ((a0.rows.length : Nat) : Int)), (13, .int .i64 ((s8 : Nat) : Int))] ∧ Sat ⟨w0, fun b => m0 b ≠ none, F⟩ F [] w) ?_ ?_
    ·skip
     refine St.seq ?_
     refine St.region ?_
     refine St.val (v := (.slice pA1 a1.length pc1)) (Yields.move rfl) trivial rfl rfl ?_
     refine St.val (v := (.int .i64 ((a1.length : Nat) : Int))) (Yields.lenSlice tu26 rfl) trivial rfl rfl ?_
     refine St.val (v := (.int .i64 0)) (Yields.move rfl) trivial rfl rfl ?_
     refine St.nil ?_
     refine St.norm ?_
     refine St.block ?_
     refine St.loopM hm (fun s28 a w => Has Try.f82.ntmps a [(1, .slice pA1 a1.length pc1), (6, .slice A20 x13.length c21), (7, .bool s28.1), (11, .slice pA0_0 a0.rows.length pc0_0), (12, .int .i64 ((a0.rows.length : Nat) : Int)), (13, .int .i64 ((s8 : Nat) : Int)), (17, .slice pA1 a1.length pc1), (18, .int .i64 ((a1.length : Nat) : Int)), (19, .int .i64 ((s28.2 : Nat) : Int))] ∧ Sat ⟨w0, fun b => m0 b ≠ none, F⟩ F [] w) ?_ ?_
     ·skip
      intro a w ha hs
      exact ⟨ha.covers ⟨rfl, rfl, rfl, rfl, rfl, rfl, rfl, rfl, rfl, trivial⟩, (Among.of Among.none _ hs)⟩
     ·rintro s28 o29 co30 hm ho31 a w ⟨ha, hs⟩
      refine St.use (?_ : St _ _ _ _ _ _) ha hs
      clear ha hs a w
      refine St.seq ?_
      refine St.region ?_
      refine St.val (v := (.bool (decide (((s28.2 : Nat) : Int) < ((a1.length : Nat) : Int))))) (Yields.lt rfl rfl) trivial rfl rfl ?_
      refine St.nil ?_
      refine St.norm ?_
      refine St.seq ?_
      refine St.cond_b rfl ?_ ?_
      ·intro q32
       replace q32 : ((s28.2 : Nat) : Int) < ((a1.length : Nat) : Int) := of_decide_eq_true q32
       replace hm := iT hm q32
       refine St.skip ?_
       refine St.norm ?_
       obtain ⟨z33, hm, hk34⟩ := bS hm
       refine St.cutI (fun a w => Has Try.f82.ntmps a [(1, .slice pA1 a1.length pc1), (6, .slice A20 x13.length c21), (7, .bool z33), (11, .slice pA0_0 a0.rows.length pc0_0), (12, .int .i64 ((a0.rows.length : Nat) : Int)), (13, .int .i64 ((s8 : Nat) : Int)), (17, .slice pA1 a1.length pc1), (18, .int .i64 ((a1.length : Nat) : Int)), (19, .int .i64 ((s28.2 : Nat) : Int))] ∧ Sat ⟨w0, fun b => m0 b ≠ none, F⟩ F [] w) ?_ ?_
       ·skip
        refine St.block ?_
        refine St.seq ?_
        refine St.region ?_
        refine St.val (v := (.int .i64 ((s28.2 : Nat) : Int))) (Yields.move rfl) trivial rfl rfl ?_
        obtain ⟨x35, e36, hm⟩ := bS hm
        obtain ⟨p37, cs38, jx39, R40, k41⟩ := ph1.nidx e36
        obtain rfl := R40
        refine St.val (v := (.pointer (some p37))) (Yields.idx jx39 ts26 rfl rfl) trivial rfl rfl ?_
        refine St.val (v := (.int .i64 x35)) (Yields.load rfl (Loads.Fat k41 tc3 rfl)) trivial rfl rfl ?_
        refine St.val (v := (.int .i64 ((s28.2 : Nat) : Int))) (Yields.assign rfl) trivial rfl rfl ?_
        refine St.val (v := (.int .i64 x35)) (Yields.assign rfl) trivial rfl rfl ?_
        refine St.nil ?_
        refine St.norm ?_
        refine St.region ?_
        by_cases q42 : s28.1 = true
        ·replace hm := iT hm q42
         have hb43 : (s28.1) = true := q42
         try rw [hb43]
         refine St.val (v := (.bool true)) (Yields.move rfl) trivial rfl rfl ?_
         refine St.val (v := (.bool true)) (Yields.move rfl) trivial rfl rfl ?_
         refine St.val (v := (.slice A20 x13.length c21)) (Yields.move rfl) rfl rfl rfl ?_
         refine St.val (v := (.int .i64 ((s28.2 : Nat) : Int))) (Yields.move rfl) rfl rfl rfl ?_
         obtain ⟨x44, e45, hm⟩ := bS hm
         obtain ⟨p46, cs47, jx48, R49, k50⟩ := h22.nidx e45
         obtain rfl := R49
         refine St.val (v := (.pointer (some p46))) (Yields.idx jx48 ts26 rfl rfl) rfl rfl rfl ?_
         refine St.val (v := (.int .i64 x44)) (Yields.load rfl (Loads.Fat k50 tc3 rfl)) rfl rfl rfl ?_
         refine St.val (v := (.int .i64 x35)) (Yields.move rfl) rfl rfl rfl ?_
         refine St.val (v := (.bool (decide (x44 = x35)))) (Yields.eq rfl rfl) rfl rfl rfl ?_
         refine St.val (v := (.bool (decide (x44 = x35)))) (Yields.pick_t rfl rfl) trivial rfl rfl ?_
         refine St.val (v := (.bool (decide (x44 = x35)))) (Yields.assign rfl) trivial rfl rfl ?_
         refine St.nil ?_
         refine St.innorm ?_
         obtain rfl := sI hm
         intro a w ha hs
         exact ⟨ha.covers ⟨rfl, rfl, rfl, rfl, rfl, rfl, rfl, rfl, rfl, trivial⟩, (Among.of Among.none _ hs)⟩
        ·replace hm := iF hm q42
         have hb51 : (s28.1) = false := eq_false_of_ne_true q42
         try rw [hb51]
         refine St.val (v := (.bool false)) (Yields.move rfl) trivial rfl rfl ?_
         refine St.val (v := (.bool false)) (Yields.move rfl) trivial rfl rfl ?_
         refine St.unwanted rfl rfl rfl ?_
         refine St.unwanted rfl rfl rfl ?_
         refine St.unwanted rfl rfl rfl ?_
         refine St.unwanted rfl rfl rfl ?_
         refine St.unwanted rfl rfl rfl ?_
         refine St.unwanted rfl rfl rfl ?_
         refine St.val (v := (.bool false)) (Yields.pick_f rfl rfl) trivial rfl rfl ?_
         refine St.val (v := (.bool false)) (Yields.assign rfl) trivial rfl rfl ?_
         refine St.nil ?_
         refine St.innorm ?_
         obtain rfl := sI hm
         intro a w ha hs
         exact ⟨ha.covers ⟨rfl, rfl, rfl, rfl, rfl, rfl, rfl, rfl, rfl, trivial⟩, (Among.of Among.none _ hs)⟩
       ·rintro a w ⟨ha, hs⟩
        replace hm := hk34
        refine St.use (?_ : St _ _ _ _ _ _) ha hs
        clear ha hs a w
        refine St.region ?_
        refine St.val (v := (.int .i64 ((s28.2 + 1 : Nat) : Int))) (Yields.addn (j := 1) rfl rfl rfl (by have q_0 := q32; have q_1 := ph1.bnd.2; omega)) trivial rfl rfl ?_
        refine St.val (v := (.int .i64 ((s28.2 + 1 : Nat) : Int))) (Yields.move rfl) trivial rfl rfl ?_
        refine St.nil ?_
        refine St.norm ?_
        obtain rfl := sI hm
        intro a w ha hs
        exact ⟨(z33, s28.2 + 1), aL ho31, ha.covers ⟨rfl, rfl, rfl, rfl, rfl, rfl, rfl, rfl, rfl, trivial⟩, (Among.of Among.none _ hs)⟩
      ·intro q52
       replace q52 : ¬ (((s28.2 : Nat) : Int) < ((a1.length : Nat) : Int)) := of_decide_eq_false q52
       replace hm := iF hm q52
       refine St.exit ?_
       refine St.thenexit ?_
       refine St.thenexit ?_
       refine St.inexit ?_
       obtain rfl := sI hm
       obtain rfl := aR ho31
       intro a w ha hs
       exact ⟨ha.covers ⟨rfl, rfl, rfl, rfl, rfl, trivial⟩, (Among.of Among.none _ hs)⟩
    ·rintro a w ⟨ha, hs⟩
     replace hm := hk25
     refine St.use (?_ : St _ _ _ _ _ _) ha hs
     clear ha hs a w
     refine St.seq ?_
     refine St.region ?_
     refine St.val (v := (.bool z24)) (Yields.move rfl) trivial rfl rfl ?_
     refine St.nil ?_
     refine St.norm ?_
     refine St.cond_b rfl ?_ ?_
     ·intro q53
      replace q53 : z24 = true := q53
      replace hm := iT hm q53
      refine St.seq ?_
      refine St.region ?_
      refine St.val (v := (.bool true)) (Yields.assign rfl) trivial rfl rfl ?_
      refine St.nil ?_
      refine St.norm ?_
      refine St.ret ?_
      refine St.inret ?_
      refine St.thenret ?_
      refine St.thenret ?_
      refine St.inret ?_
      refine St.thenret ?_
      obtain rfl := sI hm
      obtain rfl := aR ho11
      obtain rfl := aR ho6
      exact St.doneR1 rfl rfl ⟨rfl, rfl⟩ (fun w hs => Among.of Among.none w hs)
     ·intro q54
      replace q54 : ¬ (z24 = true) := bf q54
      replace hm := iF hm q54
      refine St.skip ?_
      refine St.innorm ?_
      refine St.norm ?_
      refine St.region ?_
      refine St.val (v := (.int .i64 ((s8 + 1 : Nat) : Int))) (Yields.addn (j := 1) rfl rfl rfl (by have q_0 := q12; have q_1 := ph0_0.bnd.2; omega)) trivial rfl rfl ?_
      refine St.val (v := (.int .i64 ((s8 + 1 : Nat) : Int))) (Yields.move rfl) trivial rfl rfl ?_
      refine St.nil ?_
      refine St.norm ?_
      obtain rfl := sI hm
      intro a w ha hs
      exact ⟨s8 + 1, aL ho11, ha.covers ⟨rfl, rfl, rfl, rfl, trivial⟩, (Among.of Among.none _ hs)⟩
   ·intro q55
    replace q55 : ¬ (((s8 : Nat) : Int) < ((a0.rows.length : Nat) : Int)) := of_decide_eq_false q55
    replace hm := iF hm q55
    refine St.exit ?_
    refine St.thenexit ?_
    refine St.thenexit ?_
    refine St.inexit ?_
    obtain rfl := sI hm
    obtain rfl := aR ho11
    intro a w ha hs
    exact ⟨(), rfl, ha.covers trivial, (Among.of Among.none _ hs)⟩
 ·rintro a w ⟨z4, rfl, ha, hs⟩
  replace hm := aL ho6
  refine St.use (?_ : St _ _ _ _ _ _) ha hs
  clear ha hs a w
  refine St.seq ?_
  refine St.region ?_
  refine St.val (v := (.bool false)) (Yields.assign rfl) trivial rfl rfl ?_
  refine St.nil ?_
  refine St.norm ?_
  refine St.ret ?_
  obtain rfl := sI hm
  exact St.doneR1 rfl rfl ⟨rfl, rfl⟩ (fun w hs => Among.of Among.none w hs)

theorem m_domain_sum_holds_sp {F : PH} {g : Nat} {a0 : DSum} {a1 : List Int} {pA0_0 : Option Addr} {pc0_0 : Nat} {pA0_1 : Option Addr} {pc0_1 : Nat} {pA0_2 : Option Addr} {pc0_2 : Nat} {pA1 : Option Addr} {pc1 : Nat} (ph0_0 : Fsl 8 (Kind.int .i64) F pA0_0 pc0_0 a0.l.Vars) (ph0_1 : Fsl 8 (Kind.int .i64) F pA0_1 pc0_1 a0.l.A) (ph0_2 : Fsl 24 (Kind.sl 8 (Kind.int .i64)) F pA0_2 pc0_2 a0.l.Rows) (ph1 : Fsl 8 (Kind.int .i64) F pA1 pc1 a1) {r : Bool} (hm : m_domain_sum_holds g a0 a1 = some r) :
  CallSp Try.prog 83 #[.agg #[.int .i64 a0.l.Kind, .slice pA0_0 a0.l.Vars.length pc0_0, .slice pA0_1 a0.l.A.length pc0_1, .int .i64 a0.l.B, .slice pA0_2 a0.l.Rows.length pc0_2], .slice pA1 a1.length pc1] F [] (fun u F' H' => u = (.bool r) ∧ H' = []) := by
 unfold m_domain_sum_holds at hm
 refine CallSp.enter (args := [.agg #[.int .i64 a0.l.Kind, .slice pA0_0 a0.l.Vars.length pc0_0, .slice pA0_1 a0.l.A.length pc0_1, .int .i64 a0.l.B, .slice pA0_2 a0.l.Rows.length pc0_2], .slice pA1 a1.length pc1]) Try.func83 rfl rfl ?_
 intro w0 m0 hm0
 refine St.seq ?_
 refine St.region ?_
 refine St.box rfl trivial rfl ?_
 intro b5
 refine St.val (v := (.bool false)) (Yields.assign rfl) trivial rfl rfl ?_
 refine St.nil ?_
 refine St.norm ?_
 refine St.seq ?_
 refine St.region ?_
 refine St.val (v := (.int .i64 0)) (Yields.assign rfl) trivial rfl rfl ?_
 refine St.nil ?_
 refine St.norm ?_
 obtain ⟨z6, hm, hk7⟩ := bS hm
 refine St.cutI (fun a w => Has Try.f83.ntmps a [(2, .pointer (some ⟨b5, 0, none⟩)), (5, .int .i64 z6)] ∧ Sat ⟨w0, fun b => m0 b ≠ none, F⟩ F [blk b5 (.cells #[.int .i64 a0.l.Kind, .slice pA0_0 a0.l.Vars.length pc0_0, .slice pA0_1 a0.l.A.length pc0_1, .int .i64 a0.l.B, .slice pA0_2 a0.l.Rows.length pc0_2] 82 (0, 0))] w) ?_ ?_
 ·skip
  refine St.seq ?_
  refine St.region ?_
  refine St.val (v := (.slice pA1 a1.length pc1)) (Yields.move rfl) trivial rfl rfl ?_
  refine St.val (v := (.int .i64 ((a1.length : Nat) : Int))) (Yields.lenSlice tu26 rfl) trivial rfl rfl ?_
  refine St.val (v := (.int .i64 0)) (Yields.move rfl) trivial rfl rfl ?_
  refine St.nil ?_
  refine St.norm ?_
  refine St.block ?_
  refine St.loopM hm (fun s10 a w => Has Try.f83.ntmps a [(2, .pointer (some ⟨b5, 0, none⟩)), (5, .int .i64 s10.1), (8, .slice pA1 a1.length pc1), (9, .int .i64 ((a1.length : Nat) : Int)), (10, .int .i64 ((s10.2 : Nat) : Int))] ∧ Sat ⟨w0, fun b => m0 b ≠ none, F⟩ F [blk b5 (.cells #[.int .i64 a0.l.Kind, .slice pA0_0 a0.l.Vars.length pc0_0, .slice pA0_1 a0.l.A.length pc0_1, .int .i64 a0.l.B, .slice pA0_2 a0.l.Rows.length pc0_2] 82 (0, 0))] w) ?_ ?_
  ·skip
   intro a w ha hs
   exact ⟨ha.covers ⟨rfl, rfl, rfl, rfl, rfl, trivial⟩, (Among.of (Among.take 0 rfl rfl Among.none) _ hs)⟩
  ·rintro s10 o11 co12 hm ho13 a w ⟨ha, hs⟩
   refine St.use (?_ : St _ _ _ _ _ _) ha hs
   clear ha hs a w
   refine St.seq ?_
   refine St.region ?_
   refine St.val (v := (.bool (decide (((s10.2 : Nat) : Int) < ((a1.length : Nat) : Int))))) (Yields.lt rfl rfl) trivial rfl rfl ?_
   refine St.nil ?_
   refine St.norm ?_
   refine St.seq ?_
   refine St.cond_b rfl ?_ ?_
   ·intro q14
    replace q14 : ((s10.2 : Nat) : Int) < ((a1.length : Nat) : Int) := of_decide_eq_true q14
    replace hm := iT hm q14
    refine St.skip ?_
    refine St.norm ?_
    refine St.seq ?_
    refine St.block ?_
    refine St.seq ?_
    refine St.region ?_
    refine St.val (v := (.int .i64 ((s10.2 : Nat) : Int))) (Yields.move rfl) trivial rfl rfl ?_
    obtain ⟨x15, e16, hm⟩ := bS hm
    obtain ⟨p17, cs18, jx19, R20, k21⟩ := ph1.nidx e16
    obtain rfl := R20
    refine St.val (v := (.pointer (some p17))) (Yields.idx jx19 ts26 rfl rfl) trivial rfl rfl ?_
    refine St.val (v := (.int .i64 x15)) (Yields.load rfl (Loads.Fat k21 tc3 rfl)) trivial rfl rfl ?_
    refine St.val (v := (.int .i64 ((s10.2 : Nat) : Int))) (Yields.assign rfl) trivial rfl rfl ?_
    refine St.val (v := (.int .i64 x15)) (Yields.assign rfl) trivial rfl rfl ?_
    refine St.nil ?_
    refine St.norm ?_
    refine St.region ?_
    refine St.val (v := (.int .i64 s10.1)) (Yields.move rfl) trivial rfl rfl ?_
    refine St.val (v := (.pointer (some ⟨b5, 0, none⟩))) (Yields.fieldAddr (v := (.pointer (some ⟨b5, 0, none⟩))) rfl (fun _ => by kernel_rfl)) trivial rfl rfl ?_
    refine St.val (v := (.pointer (some ⟨b5, 2, none⟩))) (Yields.fieldAddr (v := (.pointer (some ⟨b5, 2, none⟩))) rfl (fun _ => by kernel_rfl)) trivial rfl rfl ?_
    refine St.val (v := (.slice pA0_1 a0.l.A.length pc0_1)) (Yields.load rfl (Loads.H1 0 rfl tc26 rfl)) trivial rfl rfl ?_
    refine St.val (v := (.int .i64 ((s10.2 : Nat) : Int))) (Yields.move rfl) trivial rfl rfl ?_
    obtain ⟨x22, e23, hm⟩ := bS hm
    obtain ⟨p24, cs25, jx26, R27, k28⟩ := ph0_1.nidx e23
    obtain rfl := R27
    refine St.val (v := (.pointer (some p24))) (Yields.idx jx26 ts26 rfl rfl) trivial rfl rfl ?_
    refine St.val (v := (.int .i64 x22)) (Yields.load rfl (Loads.Fat k28 tc3 rfl)) trivial rfl rfl ?_
    refine St.val (v := (.int .i64 x15)) (Yields.move rfl) trivial rfl rfl ?_
    refine St.val (v := (.int .i64 (Mir.w64 (x22 * x15)))) (Yields.mulw rfl rfl) trivial rfl rfl ?_
    refine St.val (v := (.int .i64 (Mir.w64 (s10.1 + (Mir.w64 (x22 * x15)))))) (Yields.addw rfl rfl) trivial rfl rfl ?_
    refine St.val (v := (.int .i64 (Mir.w64 (s10.1 + (Mir.w64 (x22 * x15)))))) (Yields.assign rfl) trivial rfl rfl ?_
    refine St.nil ?_
    refine St.innorm ?_
    refine St.norm ?_
    refine St.region ?_
    refine St.val (v := (.int .i64 ((s10.2 + 1 : Nat) : Int))) (Yields.addn (j := 1) rfl rfl rfl (by have q_0 := q14; have q_1 := ph1.bnd.2; omega)) trivial rfl rfl ?_
    refine St.val (v := (.int .i64 ((s10.2 + 1 : Nat) : Int))) (Yields.move rfl) trivial rfl rfl ?_
    refine St.nil ?_
    refine St.norm ?_
    obtain rfl := sI hm
    intro a w ha hs
    exact ⟨(Mir.w64 (s10.1 + (Mir.w64 (x22 * x15))), s10.2 + 1), aL ho13, ha.covers ⟨rfl, rfl, rfl, rfl, rfl, trivial⟩, (Among.of (Among.take 0 rfl rfl Among.none) _ hs)⟩
   ·intro q29
    replace q29 : ¬ (((s10.2 : Nat) : Int) < ((a1.length : Nat) : Int)) := of_decide_eq_false q29
    replace hm := iF hm q29
    refine St.exit ?_
    refine St.thenexit ?_
    refine St.thenexit ?_
    refine St.inexit ?_
    obtain rfl := sI hm
    obtain rfl := aR ho13
    intro a w ha hs
    exact ⟨ha.covers ⟨rfl, rfl, trivial⟩, (Among.of (Among.take 0 rfl rfl Among.none) _ hs)⟩
 ·rintro a w ⟨ha, hs⟩
  replace hm := hk7
  refine St.use (?_ : St _ _ _ _ _ _) ha hs
  clear ha hs a w
  refine St.seq ?_
  refine St.seq ?_
  refine St.region ?_
  refine St.val (v := (.pointer (some ⟨b5, 0, none⟩))) (Yields.fieldAddr (v := (.pointer (some ⟨b5, 0, none⟩))) rfl (fun _ => by kernel_rfl)) trivial rfl rfl ?_
  refine St.val (v := (.pointer (some ⟨b5, 0, none⟩))) (Yields.fieldAddr (v := (.pointer (some ⟨b5, 0, none⟩))) rfl (fun _ => by kernel_rfl)) trivial rfl rfl ?_
  refine St.val (v := (.int .i64 a0.l.Kind)) (Yields.load rfl (Loads.H1 0 rfl tc3 rfl)) trivial rfl rfl ?_
  refine St.nil ?_
  refine St.norm ?_
  refine St.block ?_
  refine St.seq ?_
  refine St.region ?_
  refine St.val (v := (.bool (decide (a0.l.Kind = 0)))) (Yields.eq rfl rfl) trivial rfl rfl ?_
  refine St.val (v := (.bool (decide (a0.l.Kind = 0)))) (Yields.assign rfl) trivial rfl rfl ?_
  refine St.nil ?_
  refine St.norm ?_
  refine St.cond_b rfl ?_ ?_
  ·intro q30
   replace q30 : a0.l.Kind = 0 := of_decide_eq_true q30
   replace hm := iT hm q30
   refine St.seq ?_
   refine St.region ?_
   refine St.val (v := (.int .i64 z6)) (Yields.move rfl) trivial rfl rfl ?_
   refine St.val (v := (.pointer (some ⟨b5, 0, none⟩))) (Yields.fieldAddr (v := (.pointer (some ⟨b5, 0, none⟩))) rfl (fun _ => by kernel_rfl)) trivial rfl rfl ?_
   refine St.val (v := (.pointer (some ⟨b5, 3, none⟩))) (Yields.fieldAddr (v := (.pointer (some ⟨b5, 3, none⟩))) rfl (fun _ => by kernel_rfl)) trivial rfl rfl ?_
   refine St.val (v := (.int .i64 a0.l.B)) (Yields.load rfl (Loads.H1 0 rfl tc3 rfl)) trivial rfl rfl ?_
   refine St.val (v := (.bool (decide (z6 ≤ a0.l.B)))) (Yields.le rfl rfl) trivial rfl rfl ?_
   refine St.val (v := (.bool (decide (z6 ≤ a0.l.B)))) (Yields.assign rfl) trivial rfl rfl ?_
   refine St.nil ?_
   refine St.norm ?_
   refine St.ret ?_
   refine St.inret ?_
   refine St.thenret ?_
   obtain rfl := sI hm
   exact St.doneR1 rfl rfl ⟨rfl, rfl⟩ (fun w hs => Among.of Among.none w hs)
  ·intro q31
   replace q31 : ¬ (a0.l.Kind = 0) := of_decide_eq_false q31
   replace hm := iF hm q31
   refine St.seq ?_
   refine St.region ?_
   refine St.val (v := (.bool (decide (a0.l.Kind = 1)))) (Yields.eq rfl rfl) trivial rfl rfl ?_
   refine St.val (v := (.bool (decide (a0.l.Kind = 1)))) (Yields.assign rfl) trivial rfl rfl ?_
   refine St.nil ?_
   refine St.norm ?_
   refine St.cond_b rfl ?_ ?_
   ·intro q32
    replace q32 : a0.l.Kind = 1 := of_decide_eq_true q32
    replace hm := iT hm q32
    refine St.seq ?_
    refine St.region ?_
    refine St.val (v := (.int .i64 z6)) (Yields.move rfl) trivial rfl rfl ?_
    refine St.val (v := (.pointer (some ⟨b5, 0, none⟩))) (Yields.fieldAddr (v := (.pointer (some ⟨b5, 0, none⟩))) rfl (fun _ => by kernel_rfl)) trivial rfl rfl ?_
    refine St.val (v := (.pointer (some ⟨b5, 3, none⟩))) (Yields.fieldAddr (v := (.pointer (some ⟨b5, 3, none⟩))) rfl (fun _ => by kernel_rfl)) trivial rfl rfl ?_
    refine St.val (v := (.int .i64 a0.l.B)) (Yields.load rfl (Loads.H1 0 rfl tc3 rfl)) trivial rfl rfl ?_
    refine St.val (v := (.bool (decide (z6 = a0.l.B)))) (Yields.eq rfl rfl) trivial rfl rfl ?_
    refine St.val (v := (.bool (decide (z6 = a0.l.B)))) (Yields.assign rfl) trivial rfl rfl ?_
    refine St.nil ?_
    refine St.norm ?_
    refine St.ret ?_
    refine St.inret ?_
    refine St.thenret ?_
    obtain rfl := sI hm
    exact St.doneR1 rfl rfl ⟨rfl, rfl⟩ (fun w hs => Among.of Among.none w hs)
   ·intro q33
    replace q33 : ¬ (a0.l.Kind = 1) := of_decide_eq_false q33
    replace hm := iF hm q33
    refine St.skip ?_
    refine St.innorm ?_
    refine St.norm ?_
    refine St.seq ?_
    refine St.region ?_
    refine St.val (v := (.int .i64 z6)) (Yields.move rfl) trivial rfl rfl ?_
    refine St.val (v := (.pointer (some ⟨b5, 0, none⟩))) (Yields.fieldAddr (v := (.pointer (some ⟨b5, 0, none⟩))) rfl (fun _ => by kernel_rfl)) trivial rfl rfl ?_
    refine St.val (v := (.pointer (some ⟨b5, 3, none⟩))) (Yields.fieldAddr (v := (.pointer (some ⟨b5, 3, none⟩))) rfl (fun _ => by kernel_rfl)) trivial rfl rfl ?_
    refine St.val (v := (.int .i64 a0.l.B)) (Yields.load rfl (Loads.H1 0 rfl tc3 rfl)) trivial rfl rfl ?_
    refine St.val (v := (.bool (!decide (z6 = a0.l.B)))) (Yields.ne rfl rfl) trivial rfl rfl ?_
    refine St.val (v := (.bool (!decide (z6 = a0.l.B)))) (Yields.assign rfl) trivial rfl rfl ?_
    refine St.nil ?_
    refine St.norm ?_
    refine St.ret ?_
    obtain rfl := sI hm
    exact St.doneR1 rfl rfl ⟨rfl, rfl⟩ (fun w hs => Among.of Among.none w hs)

theorem m_domain_isEmpty_sp {F : PH} {g : Nat} {a0 : ILimit} {pv0 : Value} (ph0 : ILimit.R F pv0 a0) {r : Bool} (hm : m_domain_isEmpty g a0 = some r) :
  CallSp Try.prog 62 #[pv0] F [] (fun u F' H' => u = (.bool r) ∧ H' = []) := by
 unfold m_domain_isEmpty at hm
 refine CallSp.enter (args := [pv0]) Try.func62 rfl rfl ?_
 intro w0 m0 hm0
 refine St.seq ?_
 refine St.region ?_
 refine St.val (v := (.bool false)) (Yields.assign rfl) trivial rfl rfl ?_
 refine St.nil ?_
 refine St.norm ?_
 obtain ⟨o2, hm, ho3⟩ := jS hm
 refine St.cutI (fun a w => ∃ z1 : Unit, o2 = .inl z1 ∧ Has Try.f62.ntmps a [] ∧ Sat ⟨w0, fun b => m0 b ≠ none, F⟩ F [] w) ?_ ?_
 ·skip
  refine St.seq ?_
  refine St.region ?_
  refine St.val (v := pv0) (Yields.move rfl) trivial rfl rfl ?_
  refine St.nil ?_
  refine St.norm ?_
  refine St.block ?_
  refine St.seq ?_
  refine St.region ?_
  rcases ILimit.cases a0 with hx4 | ⟨y5, hx4⟩ | ⟨y6, hx4⟩ | ⟨y7, hx4⟩
  ·have h8 := ph0
   rw [hx4] at hm h8; rw [ILimit.on_nil] at hm
   obtain rfl : pv0 = .nilIface := h8
   refine St.val (v := (.tuple #[.agg #[.slice none 0 0], .bool false])) (Yields.assertN (z0 := (.agg #[.slice none 0 0])) tp80 tz80 rfl) trivial rfl rfl ?_
   refine St.val (v := (.bool false)) (Yields.extract rfl rfl) trivial rfl rfl ?_
   refine St.val (v := (.agg #[.slice none 0 0])) (Yields.extract rfl rfl) trivial rfl rfl ?_
   refine St.nil ?_
   refine St.norm ?_
   refine St.cond_f rfl ?_
   refine St.seq ?_
   refine St.region ?_
   refine St.val (v := (.tuple #[.agg #[], .bool false])) (Yields.assertN (z0 := (.agg #[])) tp78 tz78 rfl) trivial rfl rfl ?_
   refine St.val (v := (.bool false)) (Yields.extract rfl rfl) trivial rfl rfl ?_
   refine St.val (v := (.agg #[])) (Yields.extract rfl rfl) trivial rfl rfl ?_
   refine St.val (v := (.tuple #[.agg #[.int .i64 0, .slice none 0 0, .slice none 0 0, .int .i64 0, .slice none 0 0], .bool false])) (Yields.assertN (z0 := (.agg #[.int .i64 0, .slice none 0 0, .slice none 0 0, .int .i64 0, .slice none 0 0])) tp82 tz82 rfl) trivial rfl rfl ?_
   refine St.val (v := (.bool false)) (Yields.extract rfl rfl) trivial rfl rfl ?_
   refine St.val (v := (.agg #[.int .i64 0, .slice none 0 0, .slice none 0 0, .int .i64 0, .slice none 0 0])) (Yields.extract rfl rfl) trivial rfl rfl ?_
   refine St.val (v := (.bool false)) (Yields.pick_f rfl rfl) trivial rfl rfl ?_
   refine St.nil ?_
   refine St.norm ?_
   refine St.cond_f rfl ?_
   refine St.skip ?_
   refine St.innorm ?_
   obtain rfl := sI hm
   intro a w ha hs
   exact ⟨(), rfl, ha.covers trivial, (Among.of Among.none _ hs)⟩
  ·have h8 := ph0
   rw [hx4] at hm h8; rw [ILimit.on_c78] at hm
   obtain ⟨cs9, R10, rfl⟩ := Ival.agg h8
   obtain rfl := DApart.opn R10
   refine St.val (v := (.tuple #[.agg #[.slice none 0 0], .bool false])) (Yields.assertF (z0 := (.agg #[.slice none 0 0])) tp80 (by decide) tz80 rfl) trivial rfl rfl ?_
   refine St.val (v := (.bool false)) (Yields.extract rfl rfl) trivial rfl rfl ?_
   refine St.val (v := (.agg #[.slice none 0 0])) (Yields.extract rfl rfl) trivial rfl rfl ?_
   refine St.nil ?_
   refine St.norm ?_
   refine St.cond_f rfl ?_
   refine St.seq ?_
   refine St.region ?_
   refine St.val (v := (.tuple #[.agg #[], .bool true])) (Yields.assertT tp78 rfl) trivial rfl rfl ?_
   refine St.val (v := (.bool true)) (Yields.extract rfl rfl) trivial rfl rfl ?_
   refine St.val (v := (.agg #[])) (Yields.extract rfl rfl) trivial rfl rfl ?_
   refine St.val (v := (.tuple #[.agg #[.int .i64 0, .slice none 0 0, .slice none 0 0, .int .i64 0, .slice none 0 0], .bool false])) (Yields.assertF (z0 := (.agg #[.int .i64 0, .slice none 0 0, .slice none 0 0, .int .i64 0, .slice none 0 0])) tp82 (by decide) tz82 rfl) trivial rfl rfl ?_
   refine St.val (v := (.bool false)) (Yields.extract rfl rfl) trivial rfl rfl ?_
   refine St.val (v := (.agg #[.int .i64 0, .slice none 0 0, .slice none 0 0, .int .i64 0, .slice none 0 0])) (Yields.extract rfl rfl) trivial rfl rfl ?_
   refine St.val (v := (.bool true)) (Yields.pick_t rfl rfl) trivial rfl rfl ?_
   refine St.nil ?_
   refine St.norm ?_
   refine St.cond_t rfl ?_
   refine St.region ?_
   refine St.val (v := (.iface 78 (.agg #[]))) (Yields.assign rfl) trivial rfl rfl ?_
   refine St.nil ?_
   refine St.innorm ?_
   obtain rfl := sI hm
   intro a w ha hs
   exact ⟨(), rfl, ha.covers trivial, (Among.of Among.none _ hs)⟩
  ·have h8 := ph0
   rw [hx4] at hm h8; rw [ILimit.on_c80] at hm
   obtain ⟨cs12, R13, rfl⟩ := Ival.agg h8
   obtain ⟨A15, c16, rfl, h17⟩ := DTable.opn R13
   refine St.val (v := (.tuple #[.agg #[.slice A15 y6.rows.length c16], .bool true])) (Yields.assertT tp80 rfl) trivial rfl rfl ?_
   refine St.val (v := (.bool true)) (Yields.extract rfl rfl) trivial rfl rfl ?_
   refine St.val (v := (.agg #[.slice A15 y6.rows.length c16])) (Yields.extract rfl rfl) trivial rfl rfl ?_
   refine St.nil ?_
   refine St.norm ?_
   refine St.cond_t rfl ?_
   refine St.seq ?_
   refine St.region ?_
   refine St.alloc tz80 trivial rfl ?_
   intro b19
   refine St.storen (R := []) rfl rfl 0 rfl rfl ta80 rfl rfl rfl trivial (cs' := #[.slice A15 y6.rows.length c16]) rfl ?_
   refine St.nil ?_
   refine St.norm ?_
   refine St.seq ?_
   refine St.region ?_
   refine St.val (v := (.pointer (some ⟨b19, 0, none⟩))) (Yields.fieldAddr (v := (.pointer (some ⟨b19, 0, none⟩))) rfl (fun _ => by kernel_rfl)) trivial rfl rfl ?_
   refine St.val (v := (.slice A15 y6.rows.length c16)) (Yields.load rfl (Loads.H1 0 rfl tc22 rfl)) trivial rfl rfl ?_
   refine St.val (v := (.int .i64 ((y6.rows.length : Nat) : Int))) (Yields.lenSlice tu22 rfl) trivial rfl rfl ?_
   refine St.val (v := (.bool (decide (((y6.rows.length : Nat) : Int) = 0)))) (Yields.eq rfl rfl) trivial rfl rfl ?_
   refine St.val (v := (.bool (decide (((y6.rows.length : Nat) : Int) = 0)))) (Yields.assign rfl) trivial rfl rfl ?_
   refine St.nil ?_
   refine St.norm ?_
   refine St.ret ?_
   refine St.inret ?_
   refine St.thenret ?_
   obtain rfl := sI hm
   obtain rfl := aR ho3
   exact St.doneR1 rfl rfl ⟨rfl, rfl⟩ (fun w hs => Among.of Among.none w hs)
  ·have h8 := ph0
   rw [hx4] at hm h8; rw [ILimit.on_c82] at hm
   obtain ⟨cs20, R21, rfl⟩ := Ival.agg h8
   obtain ⟨A23, c24, A26, c27, A29, c30, rfl, h25, h28, h31⟩ := DSum.opn R21
   refine St.val (v := (.tuple #[.agg #[.slice none 0 0], .bool false])) (Yields.assertF (z0 := (.agg #[.slice none 0 0])) tp80 (by decide) tz80 rfl) trivial rfl rfl ?_
   refine St.val (v := (.bool false)) (Yields.extract rfl rfl) trivial rfl rfl ?_
   refine St.val (v := (.agg #[.slice none 0 0])) (Yields.extract rfl rfl) trivial rfl rfl ?_
   refine St.nil ?_
   refine St.norm ?_
   refine St.cond_f rfl ?_
   refine St.seq ?_
   refine St.region ?_
   refine St.val (v := (.tuple #[.agg #[], .bool false])) (Yields.assertF (z0 := (.agg #[])) tp78 (by decide) tz78 rfl) trivial rfl rfl ?_
   refine St.val (v := (.bool false)) (Yields.extract rfl rfl) trivial rfl rfl ?_
   refine St.val (v := (.agg #[])) (Yields.extract rfl rfl) trivial rfl rfl ?_
   refine St.val (v := (.tuple #[.agg #[.int .i64 y7.l.Kind, .slice A23 y7.l.Vars.length c24, .slice A26 y7.l.A.length c27, .int .i64 y7.l.B, .slice A29 y7.l.Rows.length c30], .bool true])) (Yields.assertT tp82 rfl) trivial rfl rfl ?_
   refine St.val (v := (.bool true)) (Yields.extract rfl rfl) trivial rfl rfl ?_
   refine St.val (v := (.agg #[.int .i64 y7.l.Kind, .slice A23 y7.l.Vars.length c24, .slice A26 y7.l.A.length c27, .int .i64 y7.l.B, .slice A29 y7.l.Rows.length c30])) (Yields.extract rfl rfl) trivial rfl rfl ?_
   refine St.val (v := (.bool true)) (Yields.pick_f rfl rfl) trivial rfl rfl ?_
   refine St.nil ?_
   refine St.norm ?_
   refine St.cond_t rfl ?_
   refine St.region ?_
   refine St.val (v := (.iface 82 (.agg #[.int .i64 y7.l.Kind, .slice A23 y7.l.Vars.length c24, .slice A26 y7.l.A.length c27, .int .i64 y7.l.B, .slice A29 y7.l.Rows.length c30]))) (Yields.assign rfl) trivial rfl rfl ?_
   refine St.nil ?_
   refine St.innorm ?_
   obtain rfl := sI hm
   intro a w ha hs
   exact ⟨(), rfl, ha.covers trivial, (Among.of Among.none _ hs)⟩
 ·rintro a w ⟨z1, rfl, ha, hs⟩
  replace hm := aL ho3
  refine St.use (?_ : St _ _ _ _ _ _) ha hs
  clear ha hs a w
  refine St.seq ?_
  refine St.region ?_
  refine St.val (v := (.bool false)) (Yields.assign rfl) trivial rfl rfl ?_
  refine St.nil ?_
  refine St.norm ?_
  refine St.ret ?_
  obtain rfl := sI hm
  exact St.doneR1 rfl rfl ⟨rfl, rfl⟩ (fun w hs => Among.of Among.none w hs)

theorem m_domain_support_sp {F : PH} {g : Nat} {a0 : List (List Int)} {a1 : DLimit} {pA0 : Option Addr} {pc0 : Nat} {pcl0 : List Value} {pA1_0 : Option Addr} {pc1_0 : Nat} {pA1_1 : Option Addr} {pc1_1 : Nat} {pA1_2 : Option Addr} {pc1_2 : Nat} (ph0 : Cat (Kind.sl 8 (Kind.int .i64)) F pcl0 a0) (pbd0 : Bnd 24 a0) (ph1_0 : Fsl 8 (Kind.int .i64) F pA1_0 pc1_0 a1.Vars) (ph1_1 : Fsl 8 (Kind.int .i64) F pA1_1 pc1_1 a1.A) (ph1_2 : Fsl 24 (Kind.sl 8 (Kind.int .i64)) F pA1_2 pc1_2 a1.Rows) {r : List (List Bool)} (hm : m_domain_support g a0 a1 = some r) :
  CallSp Try.prog 52 #[.slice pA0 a0.length pc0, .agg #[.int .i64 a1.Kind, .slice pA1_0 a1.Vars.length pc1_0, .slice pA1_1 a1.A.length pc1_1, .int .i64 a1.B, .slice pA1_2 a1.Rows.length pc1_2]] F [rowo pA0 a0.length pc0 26 1 pcl0] (fun u F' H' => ∃ (B0 : Option Addr) (d0 : Nat), u = (.slice B0 r.length d0) ∧ Fsl 30 (Kind.arr 30 Kind.bool) F' B0 d0 r ∧ H' = [rowo pA0 a0.length pc0 26 1 pcl0]) := by
 unfold m_domain_support at hm
 refine CallSp.enter (args := [.slice pA0 a0.length pc0, .agg #[.int .i64 a1.Kind, .slice pA1_0 a1.Vars.length pc1_0, .slice pA1_1 a1.A.length pc1_1, .int .i64 a1.B, .slice pA1_2 a1.Rows.length pc1_2]]) Try.func52 rfl rfl ?_
 intro w0 m0 hm0
 refine St.seq ?_
 refine St.region ?_
 refine St.box rfl trivial rfl ?_
 intro b5
 refine St.val (v := (.slice none 0 0)) (Yields.assign rfl) trivial rfl rfl ?_
 refine St.nil ?_
 refine St.norm ?_
 refine St.seq ?_
 refine St.region ?_
 refine St.val (v := (.pointer (some ⟨b5, 1, none⟩))) (Yields.fieldAddr (v := (.pointer (some ⟨b5, 1, none⟩))) rfl (fun _ => by kernel_rfl)) trivial rfl rfl ?_
 refine St.val (v := (.slice pA1_0 a1.Vars.length pc1_0)) (Yields.load rfl (Loads.H1 0 rfl tc26 rfl)) trivial rfl rfl ?_
 refine St.val (v := (.int .i64 ((a1.Vars.length : Nat) : Int))) (Yields.lenSlice tu26 rfl) trivial rfl rfl ?_
 obtain ⟨x6, e7, hm⟩ := bS hm
 refine St.makeK (D := (Kind.arr 30 Kind.bool)) e7 ts73 tz76 rfl rfl ⟨rfl, Cat.rep (vs := [.bool false]) rfl 30⟩ rfl rfl rfl trivial ?_
 intro g8 c9 cells10 h11 b12
 refine St.val (v := (.slice (some ⟨g8, 0, none⟩) x6.length c9)) (Yields.assign rfl) trivial rfl rfl ?_
 refine St.nil ?_
 refine St.norm ?_
 refine St.seq ?_
 refine St.region ?_
 refine St.val (v := (.pointer (some ⟨b5, 1, none⟩))) (Yields.fieldAddr (v := (.pointer (some ⟨b5, 1, none⟩))) rfl (fun _ => by kernel_rfl)) trivial rfl rfl ?_
 refine St.val (v := (.slice pA1_0 a1.Vars.length pc1_0)) (Yields.load rfl (Loads.H1 1 rfl tc26 rfl)) trivial rfl rfl ?_
 refine St.val (v := (.int .i64 ((a1.Vars.length : Nat) : Int))) (Yields.lenSlice tu26 rfl) trivial rfl rfl ?_
 obtain ⟨x14, e15, hm⟩ := bS hm
 refine St.makeK (D := (Kind.int .i64)) e15 ts26 tz3 rfl rfl rfl rfl rfl rfl trivial ?_
 intro g16 c17 cells18 h19 b20
 refine St.val (v := (.slice (some ⟨g16, 0, none⟩) x14.length c17)) (Yields.assign rfl) trivial rfl rfl ?_
 refine St.nil ?_
 refine St.norm ?_
 refine St.seq ?_
 refine St.region ?_
 refine St.val (v := (.pointer (some ⟨b5, 1, none⟩))) (Yields.fieldAddr (v := (.pointer (some ⟨b5, 1, none⟩))) rfl (fun _ => by kernel_rfl)) trivial rfl rfl ?_
 refine St.val (v := (.slice pA1_0 a1.Vars.length pc1_0)) (Yields.load rfl (Loads.H1 2 rfl tc26 rfl)) trivial rfl rfl ?_
 refine St.val (v := (.int .i64 ((a1.Vars.length : Nat) : Int))) (Yields.lenSlice tu26 rfl) trivial rfl rfl ?_
 obtain ⟨x22, e23, hm⟩ := bS hm
 refine St.makeK (D := (Kind.int .i64)) e23 ts26 tz3 rfl rfl rfl rfl rfl rfl trivial ?_
 intro g24 c25 cells26 h27 b28
 refine St.val (v := (.slice (some ⟨g24, 0, none⟩) x22.length c25)) (Yields.assign rfl) trivial rfl rfl ?_
 refine St.nil ?_
 refine St.norm ?_
 refine St.seq ?_
 refine St.region ?_
 refine St.val (v := (.agg #[.int .i64 a1.Kind, .slice pA1_0 a1.Vars.length pc1_0, .slice pA1_1 a1.A.length pc1_1, .int .i64 a1.B, .slice pA1_2 a1.Rows.length pc1_2])) (Yields.load rfl (Loads.Hk (vs := [.int .i64 a1.Kind, .slice pA1_0 a1.Vars.length pc1_0, .slice pA1_1 a1.A.length pc1_1, .int .i64 a1.B, .slice pA1_2 a1.Rows.length pc1_2]) 3 rfl ta28 rfl rfl)) trivial rfl rfl ?_
 obtain ⟨q30, e31, hm⟩ := bS hm
 refine St.call [rowo (some ⟨g24, 0, none⟩) x22.length c25 3 1 cells26, rowo (some ⟨g16, 0, none⟩) x14.length c17 3 1 cells18, rowo (some ⟨g8, 0, none⟩) x6.length c9 76 30 cells10, blk b5 (.cells #[.int .i64 a1.Kind, .slice pA1_0 a1.Vars.length pc1_0, .slice pA1_1 a1.A.length pc1_1, .int .i64 a1.B, .slice pA1_2 a1.Rows.length pc1_2] 28 (0, 0)), rowo pA0 a0.length pc0 26 1 pcl0] (m_domain_of_sp (a0 := a1) ph1_0 ph1_1 ph1_2 e31) rfl (fun _ ha => ev1 ha rfl) rfl en34 rfl rfl trivial ?_
 rintro v34 F32 _ ⟨_, rfl, h35, rfl⟩ l33
 refine St.val (v := v34) (Yields.assign rfl) trivial rfl rfl ?_
 refine St.nil ?_
 refine St.norm ?_
 refine St.seq ?_
 refine St.seq ?_
 refine St.region ?_
 refine St.val (v := v34) (Yields.move rfl) trivial rfl rfl ?_
 obtain ⟨q36, e37, hm⟩ := bS hm
 refine St.call [rowo (some ⟨g24, 0, none⟩) x22.length c25 3 1 cells26, rowo (some ⟨g16, 0, none⟩) x14.length c17 3 1 cells18, rowo (some ⟨g8, 0, none⟩) x6.length c9 76 30 cells10, blk b5 (.cells #[.int .i64 a1.Kind, .slice pA1_0 a1.Vars.length pc1_0, .slice pA1_1 a1.A.length pc1_1, .int .i64 a1.B, .slice pA1_2 a1.Rows.length pc1_2] 28 (0, 0)), rowo pA0 a0.length pc0 26 1 pcl0] (m_domain_isEmpty_sp h35 e37) rfl (fun _ ha => ev1 ha rfl) rfl en62 rfl rfl trivial ?_
 rintro _ F38 _ ⟨rfl, rfl⟩ l39
 refine St.nil ?_
 refine St.norm ?_
 refine St.cond_b rfl ?_ ?_
 ·intro q40
  replace q40 : q36 = true := q40
  replace hm := iT hm q40
  refine St.seq ?_
  refine St.region ?_
  refine St.val (v := (.slice (some ⟨g8, 0, none⟩) x6.length c9)) (Yields.move rfl) trivial rfl rfl ?_
  refine St.val (v := (.slice (some ⟨g8, 0, none⟩) x6.length c9)) (Yields.assign rfl) trivial rfl rfl ?_
  refine St.nil ?_
  refine St.norm ?_
  refine St.ret ?_
  refine St.thenret ?_
  refine St.frz 2 rfl rfl rfl (Cat.mono (PH.le_trans l33 l39) h11) b12 ?_
  intro F41 l42 h43
  obtain rfl := sI hm
  exact St.doneR1 rfl rfl ⟨(some ⟨g8, 0, none⟩), c9, rfl, h43, rfl⟩ (fun w hs => Among.of (Among.take 3 rfl rfl Among.none) w hs)
 ·intro q44
  replace q44 : ¬ (q36 = true) := bf q44
  replace hm := iF hm q44
  refine St.skip ?_
  refine St.norm ?_
  refine St.block ?_
  refine St.loopM hm (fun s70 a w => ∃ (A75 : Option Addr) (c76 : Nat) (cells78 : List Value) (A81 : Option Addr) (c82 : Nat) (cells84 : List Value) (A87 : Option Addr) (c88 : Nat) (cells90 : List Value) (v93 : Value) (F94 : PH), PH.le F38 F94 ∧ Cat (Kind.arr 30 Kind.bool) F94 cells78 s70.1 ∧ Bnd 30 s70.1 ∧ Cat (Kind.int .i64) F94 cells84 s70.2.1 ∧ Bnd 8 s70.2.1 ∧ Cat (Kind.int .i64) F94 cells90 s70.2.2.1 ∧ Bnd 8 s70.2.2.1 ∧ ILimit.R F94 v93 s70.2.2.2 ∧ Has Try.f52.ntmps a [(0, .slice pA0 a0.length pc0), (3, .pointer (some ⟨b5, 0, none⟩)), (5, .slice A75 s70.1.length c76), (6, .slice A81 s70.2.1.length c82), (7, .slice A87 s70.2.2.1.length c88), (8, v93)] ∧ Sat ⟨w0, fun b => m0 b ≠ none, F⟩ F94 [blk b5 (.cells #[.int .i64 a1.Kind, .slice pA1_0 a1.Vars.length pc1_0, .slice pA1_1 a1.A.length pc1_1, .int .i64 a1.B, .slice pA1_2 a1.Rows.length pc1_2] 28 (0, 0)), rowo pA0 a0.length pc0 26 1 pcl0, rowo A75 s70.1.length c76 76 30 cells78, rowo A81 s70.2.1.length c82 3 1 cells84, rowo A87 s70.2.2.1.length c88 3 1 cells90] w) ?_ ?_
  ·skip
   intro a w ha hs
   exact ⟨(some ⟨g8, 0, none⟩), c9, cells10, (some ⟨g16, 0, none⟩), c17, cells18, (some ⟨g24, 0, none⟩), c25, cells26, v34, F38, (PH.le_refl _), (Cat.mono (PH.le_trans l33 l39) h11), b12, (Cat.mono (PH.le_trans l33 l39) h19), b20, (Cat.mono (PH.le_trans l33 l39) h27), b28, (ILimit.R.mono l39 h35), ha.covers ⟨rfl, rfl, rfl, rfl, rfl, rfl, trivial⟩, (Among.of (Among.take 3 rfl rfl (Among.take 3 rfl rfl (Among.take 2 rfl rfl (Among.take 1 rfl rfl (Among.take 0 rfl rfl Among.none))))) _ hs)⟩
  ·rintro s70 o71 co72 hm ho73 a w ⟨A75, c76, cells78, A81, c82, cells84, A87, c88, cells90, v93, F94, l95, h77, b79, h83, b85, h89, b91, h92, ha, hs⟩
   refine St.use (?_ : St _ _ _ _ _ _) ha hs
   clear ha hs a w
   refine St.block ?_
   refine St.seq ?_
   refine St.region ?_
   refine St.val (v := (.bool true)) (Yields.assign rfl) trivial rfl rfl ?_
   refine St.nil ?_
   refine St.norm ?_
   obtain ⟨o103, hm, ho104⟩ := jS hm
   refine St.cutI (fun a w => ∃ z96 : List Int, o103 = .inl z96 ∧ ∃ (A98 : Option Addr) (c99 : Nat) (cells101 : List Value), Cat (Kind.int .i64) F94 cells101 z96 ∧ Bnd 8 z96 ∧ Has Try.f52.ntmps a [(0, .slice pA0 a0.length pc0), (3, .pointer (some ⟨b5, 0, none⟩)), (5, .slice A75 s70.1.length c76), (6, .slice A81 s70.2.1.length c82), (7, .slice A98 z96.length c99), (8, v93)] ∧ Sat ⟨w0, fun b => m0 b ≠ none, F⟩ F94 [blk b5 (.cells #[.int .i64 a1.Kind, .slice pA1_0 a1.Vars.length pc1_0, .slice pA1_1 a1.A.length pc1_1, .int .i64 a1.B, .slice pA1_2 a1.Rows.length pc1_2] 28 (0, 0)), rowo pA0 a0.length pc0 26 1 pcl0, rowo A75 s70.1.length c76 76 30 cells78, rowo A81 s70.2.1.length c82 3 1 cells84, rowo A98 z96.length c99 3 1 cells101] w) ?_ ?_
   ·skip
    refine St.seq ?_
    refine St.region ?_
    refine St.val (v := (.pointer (some ⟨b5, 1, none⟩))) (Yields.fieldAddr (v := (.pointer (some ⟨b5, 1, none⟩))) rfl (fun _ => by kernel_rfl)) trivial rfl rfl ?_
    refine St.val (v := (.slice pA1_0 a1.Vars.length pc1_0)) (Yields.load rfl (Loads.H1 0 rfl tc26 rfl)) trivial rfl rfl ?_
    refine St.val (v := (.int .i64 ((a1.Vars.length : Nat) : Int))) (Yields.lenSlice tu26 rfl) trivial rfl rfl ?_
    refine St.val (v := (.int .i64 0)) (Yields.move rfl) trivial rfl rfl ?_
    refine St.nil ?_
    refine St.norm ?_
    refine St.block ?_
    refine St.loopM hm (fun s113 a w => ∃ (A118 : Option Addr) (c119 : Nat) (cells121 : List Value), Cat (Kind.int .i64) F94 cells121 s113.1 ∧ Bnd 8 s113.1 ∧ Has Try.f52.ntmps a [(0, .slice pA0 a0.length pc0), (3, .pointer (some ⟨b5, 0, none⟩)), (5, .slice A75 s70.1.length c76), (6, .slice A81 s70.2.1.length c82), (7, .slice A118 s113.1.length c119), (8, v93), (32, .slice pA1_0 a1.Vars.length pc1_0), (33, .int .i64 ((a1.Vars.length : Nat) : Int)), (34, .int .i64 ((s113.2 : Nat) : Int))] ∧ Sat ⟨w0, fun b => m0 b ≠ none, F⟩ F94 [blk b5 (.cells #[.int .i64 a1.Kind, .slice pA1_0 a1.Vars.length pc1_0, .slice pA1_1 a1.A.length pc1_1, .int .i64 a1.B, .slice pA1_2 a1.Rows.length pc1_2] 28 (0, 0)), rowo pA0 a0.length pc0 26 1 pcl0, rowo A118 s113.1.length c119 3 1 cells121, rowo A75 s70.1.length c76 76 30 cells78, rowo A81 s70.2.1.length c82 3 1 cells84] w) ?_ ?_
    ·skip
     intro a w ha hs
     exact ⟨A87, c88, cells90, h89, b91, ha.covers ⟨rfl, rfl, rfl, rfl, rfl, rfl, rfl, rfl, rfl, trivial⟩, (Among.of (Among.take 0 rfl rfl (Among.take 0 rfl rfl (Among.take 2 rfl rfl (Among.take 0 rfl rfl (Among.take 0 rfl rfl Among.none))))) _ hs)⟩
    ·rintro s113 o114 co115 hm ho116 a w ⟨A118, c119, cells121, h120, b122, ha, hs⟩
     refine St.use (?_ : St _ _ _ _ _ _) ha hs
     clear ha hs a w
     refine St.seq ?_
     refine St.region ?_
     refine St.val (v := (.bool (decide (((s113.2 : Nat) : Int) < ((a1.Vars.length : Nat) : Int))))) (Yields.lt rfl rfl) trivial rfl rfl ?_
     refine St.nil ?_
     refine St.norm ?_
     refine St.seq ?_
     refine St.cond_b rfl ?_ ?_
     ·intro q123
      replace q123 : ((s113.2 : Nat) : Int) < ((a1.Vars.length : Nat) : Int) := of_decide_eq_true q123
      replace hm := iT hm q123
      refine St.skip ?_
      refine St.norm ?_
      refine St.seq ?_
      refine St.block ?_
      refine St.seq ?_
      refine St.region ?_
      refine St.val (v := (.int .i64 ((s113.2 : Nat) : Int))) (Yields.move rfl) trivial rfl rfl ?_
      obtain ⟨x124, e125, hm⟩ := bS hm
      obtain ⟨p126, cs127, jx128, R129, k130⟩ := (Fsl.mono (PH.le_trans l33 (PH.le_trans l39 l95)) ph1_0).nidx e125
      obtain rfl := R129
      refine St.val (v := (.pointer (some p126))) (Yields.idx jx128 ts26 rfl rfl) trivial rfl rfl ?_
      refine St.val (v := (.int .i64 x124)) (Yields.load rfl (Loads.Fat k130 tc3 rfl)) trivial rfl rfl ?_
      refine St.val (v := (.int .i64 ((s113.2 : Nat) : Int))) (Yields.assign rfl) trivial rfl rfl ?_
      refine St.val (v := (.int .i64 x124)) (Yields.assign rfl) trivial rfl rfl ?_
      refine St.nil ?_
      refine St.norm ?_
      refine St.seq ?_
      refine St.seq ?_
      refine StD.start [] [blk b5 (.cells #[.int .i64 a1.Kind, .slice pA1_0 a1.Vars.length pc1_0, .slice pA1_1 a1.A.length pc1_1, .int .i64 a1.B, .slice pA1_2 a1.Rows.length pc1_2] 28 (0, 0)), rowo pA0 a0.length pc0 26 1 pcl0, rowo A118 s113.1.length c119 3 1 cells121, rowo A75 s70.1.length c76 76 30 cells78, rowo A81 s70.2.1.length c82 3 1 cells84] hmix ?_
      refine StD.takeP (i := 0) (v := (.slice A81 s70.2.1.length c82)) rfl (fun _ => Yields.move rfl) rfl rfl trivial (by rintro _ _ _ ⟨_, _, _, _, h, _⟩; cases h) (by kernel_rfl) (listed' := #[true, false, false, false, false, false, false, false, false, false]) rfl ?_
      refine StD.takeP (i := 1) (v := (.int .i64 ((s113.2 : Nat) : Int))) rfl (fun _ => Yields.move rfl) rfl rfl trivial (by rintro _ _ _ ⟨_, _, _, _, h, _⟩; cases h) (by kernel_rfl) (listed' := #[true, true, false, false, false, false, false, false, false, false]) rfl ?_
      obtain ⟨x131, e132, hm⟩ := bS hm
      obtain ⟨jx133, jx134, cs135, R136, k137⟩ := h83.nidx e132
      obtain rfl := R136
      refine St.rowo_at 4 rfl (by omega) ?_
      intro hA138
      refine StD.takeP (i := 2) (v := (.pointer (some ⟨bk A81, bo A81 + (s113.2 : Int).toNat * 1, none⟩))) rfl (fun _ => Yields.idx (IdxAt.own hA138 jx133 jx134) ts26 rfl rfl) rfl rfl trivial (by rintro _ _ _ ⟨_, _, _, _, h, _⟩; cases h) (by kernel_rfl) (listed' := #[true, true, true, false, false, false, false, false, false, false]) rfl ?_
      refine StD.take [0, 1, 2, 4, 5, 6, 8, 9] (i := 3) (v := (.int .i64 x131)) rfl (Yields.load rfl (Loads.rA1 4 rfl tc3 (k137 0 _ rfl))) rfl rfl trivial Among.refl (by rintro _ _ _ ⟨_, _, _, _, h, _⟩; cases h) (by kernel_rfl) (listed' := #[true, true, true, true, false, false, false, false, false, false]) rfl ?_
      refine StD.takeP (i := 4) (v := (.slice pA0 a0.length pc0)) rfl (fun _ => Yields.move rfl) rfl rfl trivial (by rintro _ _ _ ⟨_, _, _, _, h, _⟩; cases h) (by kernel_rfl) (listed' := #[true, true, true, true, true, false, false, false, false, false]) rfl ?_
      refine StD.takeP (i := 5) (v := (.int .i64 x124)) rfl (fun _ => Yields.move rfl) rfl rfl trivial (by rintro _ _ _ ⟨_, _, _, _, h, _⟩; cases h) (by kernel_rfl) (listed' := #[true, true, true, true, true, true, false, false, false, false]) rfl ?_
      obtain ⟨x139, e140, hm⟩ := bS hm
      obtain ⟨jx141, jx142, cs143, R144, k145⟩ := (Cat.mono (PH.le_trans l33 (PH.le_trans l39 l95)) ph0).idx e140
      obtain ⟨A146, c147, rfl, h148⟩ := R144
      refine St.rowo_at 1 rfl (by omega) ?_
      intro hA150
      refine StD.takeP (i := 6) (v := (.pointer (some ⟨bk pA0, bo pA0 + x124.toNat * 1, none⟩))) rfl (fun _ => Yields.idx (IdxAt.own hA150 jx141 jx142) ts22 rfl rfl) rfl rfl trivial (by rintro _ _ _ ⟨_, _, _, _, h, _⟩; cases h) (by kernel_rfl) (listed' := #[true, true, true, true, true, true, true, false, false, false]) rfl ?_
      refine StD.take [0, 1, 2, 4, 5, 6, 8, 9] (i := 7) (v := (.slice A146 x139.length c147)) rfl (Yields.load rfl (Loads.rA1 1 rfl tc26 (k145 0 _ rfl))) rfl rfl trivial Among.refl (by rintro _ _ _ ⟨_, _, _, _, h, _⟩; cases h) (by kernel_rfl) (listed' := #[true, true, true, true, true, true, true, true, false, false]) rfl ?_
      refine StD.takeP (i := 8) (v := (.int .i64 ((x139.length : Nat) : Int))) rfl (fun _ => Yields.lenSlice tu26 rfl) rfl rfl trivial (by rintro _ _ _ ⟨_, _, _, _, h, _⟩; cases h) (by kernel_rfl) (listed' := #[true, true, true, true, true, true, true, true, true, false]) rfl ?_
      refine StD.takeP (i := 9) (v := (.bool (decide (x131 ≥ ((x139.length : Nat) : Int))))) rfl (fun _ => Yields.ge rfl rfl) rfl rfl trivial (by rintro _ _ _ ⟨_, _, _, _, h, _⟩; cases h) (by kernel_rfl) (listed' := #[true, true, true, true, true, true, true, true, true, true]) rfl ?_
      refine StD.done (by kernel_rfl) ?_
      refine St.norm ?_
      refine St.cond_b rfl ?_ ?_
      ·intro q151
       replace q151 : x131 ≥ ((x139.length : Nat) : Int) := of_decide_eq_true q151
       replace hm := iT hm q151
       refine St.seq ?_
       refine St.region ?_
       refine St.val (v := (.slice A75 s70.1.length c76)) (Yields.move rfl) trivial rfl rfl ?_
       refine St.val (v := (.slice A75 s70.1.length c76)) (Yields.assign rfl) trivial rfl rfl ?_
       refine St.nil ?_
       refine St.norm ?_
       refine St.ret ?_
       refine St.thenret ?_
       refine St.inret ?_
       refine St.thenret ?_
       refine St.thenret ?_
       refine St.inret ?_
       refine St.thenret ?_
       refine St.inret ?_
       refine St.thenret ?_
       refine St.inret ?_
       refine St.frz 3 rfl rfl rfl h77 b79 ?_
       intro F152 l153 h154
       obtain rfl := sI hm
       obtain rfl := aR ho116
       obtain rfl := aR ho104
       obtain rfl := aR ho73
       exact St.doneR1 rfl rfl ⟨A75, c76, rfl, h154, rfl⟩ (fun w hs => Among.of (Among.take 1 rfl rfl Among.none) w hs)
      ·intro q155
       replace q155 : ¬ (x131 ≥ ((x139.length : Nat) : Int)) := of_decide_eq_false q155
       replace hm := iF hm q155
       refine St.skip ?_
       refine St.norm ?_
       refine StD.start [13] [blk b5 (.cells #[.int .i64 a1.Kind, .slice pA1_0 a1.Vars.length pc1_0, .slice pA1_1 a1.A.length pc1_1, .int .i64 a1.B, .slice pA1_2 a1.Rows.length pc1_2] 28 (0, 0)), rowo pA0 a0.length pc0 26 1 pcl0, rowo A118 s113.1.length c119 3 1 cells121, rowo A75 s70.1.length c76 76 30 cells78, rowo A81 s70.2.1.length c82 3 1 cells84] hmix ?_
       refine StD.takeP (i := 0) (v := (.slice A118 s113.1.length c119)) rfl (fun _ => Yields.move rfl) rfl rfl trivial (by rintro _ _ _ ⟨_, _, _, _, h, _⟩; cases h) (by kernel_rfl) (listed' := #[true, false, false, false, false, false, false, false, false, false, false, false, false, false]) rfl ?_
       refine StD.takeP (i := 1) (v := (.int .i64 ((s113.2 : Nat) : Int))) rfl (fun _ => Yields.move rfl) rfl rfl trivial (by rintro _ _ _ ⟨_, _, _, _, h, _⟩; cases h) (by kernel_rfl) (listed' := #[true, true, false, false, false, false, false, false, false, false, false, false, false, false]) rfl ?_
       refine StD.takeP (i := 2) (v := (.slice pA0 a0.length pc0)) rfl (fun _ => Yields.move rfl) rfl rfl trivial (by rintro _ _ _ ⟨_, _, _, _, h, _⟩; cases h) (by kernel_rfl) (listed' := #[true, true, true, false, false, false, false, false, false, false, false, false, false, false]) rfl ?_
       refine StD.takeP (i := 3) (v := (.int .i64 x124)) rfl (fun _ => Yields.move rfl) rfl rfl trivial (by rintro _ _ _ ⟨_, _, _, _, h, _⟩; cases h) (by kernel_rfl) (listed' := #[true, true, true, true, false, false, false, false, false, false, false, false, false, false]) rfl ?_
       obtain ⟨x156, e157, hm⟩ := bS hm
       obtain ⟨jx158, jx159, cs160, R161, k162⟩ := (Cat.mono (PH.le_trans l33 (PH.le_trans l39 l95)) ph0).idx e157
       obtain ⟨A163, c164, rfl, h165⟩ := R161
       refine StD.takeP (i := 4) (v := (.pointer (some ⟨bk pA0, bo pA0 + x124.toNat * 1, none⟩))) rfl (fun _ => Yields.idx (IdxAt.own hA150 jx158 jx159) ts22 rfl rfl) rfl rfl trivial (by rintro _ _ _ ⟨_, _, _, _, h, _⟩; cases h) (by kernel_rfl) (listed' := #[true, true, true, true, true, false, false, false, false, false, false, false, false, false]) rfl ?_
       refine StD.take [0, 1, 2, 3, 4, 6, 7, 8, 10, 12] (i := 5) (v := (.slice A163 x156.length c164)) rfl (Yields.load rfl (Loads.rA1 1 rfl tc26 (k162 0 _ rfl))) rfl rfl trivial Among.refl (by rintro _ _ _ ⟨_, _, _, _, h, _⟩; cases h) (by kernel_rfl) (listed' := #[true, true, true, true, true, true, false, false, false, false, false, false, false, false]) rfl ?_
       refine StD.takeP (i := 6) (v := (.slice A81 s70.2.1.length c82)) rfl (fun _ => Yields.move rfl) rfl rfl trivial (by rintro _ _ _ ⟨_, _, _, _, h, _⟩; cases h) (by kernel_rfl) (listed' := #[true, true, true, true, true, true, true, false, false, false, false, false, false, false]) rfl ?_
       refine StD.takeP (i := 7) (v := (.int .i64 ((s113.2 : Nat) : Int))) rfl (fun _ => Yields.move rfl) rfl rfl trivial (by rintro _ _ _ ⟨_, _, _, _, h, _⟩; cases h) (by kernel_rfl) (listed' := #[true, true, true, true, true, true, true, true, false, false, false, false, false, false]) rfl ?_
       obtain ⟨x167, e168, hm⟩ := bS hm
       obtain ⟨jx169, jx170, cs171, R172, k173⟩ := h83.nidx e168
       obtain rfl := R172
       refine StD.takeP (i := 8) (v := (.pointer (some ⟨bk A81, bo A81 + (s113.2 : Int).toNat * 1, none⟩))) rfl (fun _ => Yields.idx (IdxAt.own hA138 jx169 jx170) ts26 rfl rfl) rfl rfl trivial (by rintro _ _ _ ⟨_, _, _, _, h, _⟩; cases h) (by kernel_rfl) (listed' := #[true, true, true, true, true, true, true, true, true, false, false, false, false, false]) rfl ?_
       refine StD.take [0, 1, 2, 3, 4, 6, 7, 8, 10, 12] (i := 9) (v := (.int .i64 x167)) rfl (Yields.load rfl (Loads.rA1 4 rfl tc3 (k173 0 _ rfl))) rfl rfl trivial Among.refl (by rintro _ _ _ ⟨_, _, _, _, h, _⟩; cases h) (by kernel_rfl) (listed' := #[true, true, true, true, true, true, true, true, true, true, false, false, false, false]) rfl ?_
       obtain ⟨x174, e175, hm⟩ := bS hm
       obtain ⟨p176, cs177, jx178, R179, k180⟩ := h165.idx e175
       obtain rfl := R179
       refine StD.takeP (i := 10) (v := (.pointer (some p176))) rfl (fun _ => Yields.idx jx178 ts26 rfl rfl) rfl rfl trivial (by rintro _ _ _ ⟨_, _, _, _, h, _⟩; cases h) (by kernel_rfl) (listed' := #[true, true, true, true, true, true, true, true, true, true, true, false, false, false]) rfl ?_
       refine StD.take [0, 1, 2, 3, 4, 6, 7, 8, 10, 12] (i := 11) (v := (.int .i64 x174)) rfl (Yields.load rfl (Loads.Fat k180 tc3 rfl)) rfl rfl trivial Among.refl (by rintro _ _ _ ⟨_, _, _, _, h, _⟩; cases h) (by kernel_rfl) (listed' := #[true, true, true, true, true, true, true, true, true, true, true, true, false, false]) rfl ?_
       obtain ⟨x181, e182, hm⟩ := bS hm
       obtain ⟨jx183, jx184, cs185, R186, k187⟩ := h120.nidx e182
       obtain rfl := R186
       refine St.rowo_at 2 rfl (by omega) ?_
       intro hA188
       refine StD.takeP (i := 12) (v := (.pointer (some ⟨bk A118, bo A118 + (s113.2 : Int).toNat * 1, none⟩))) rfl (fun _ => Yields.idx (IdxAt.own hA188 jx183 jx184) ts26 rfl rfl) rfl rfl trivial (by rintro _ _ _ ⟨_, _, _, _, h, _⟩; cases h) (by kernel_rfl) (listed' := #[true, true, true, true, true, true, true, true, true, true, true, true, true, false]) rfl ?_
       refine StD.only (i := 13) rfl (by kernel_rfl) (listed' := #[true, true, true, true, true, true, true, true, true, true, true, true, true, true]) rfl ?_
       intro hcl189
       obtain ⟨x192, e193, hm⟩ := bS hm
       refine St.putK1 (R := [blk b5 (.cells #[.int .i64 a1.Kind, .slice pA1_0 a1.Vars.length pc1_0, .slice pA1_1 a1.A.length pc1_1, .int .i64 a1.B, .slice pA1_2 a1.Rows.length pc1_2] 28 (0, 0)), rowo pA0 a0.length pc0 26 1 pcl0, rowo A75 s70.1.length c76 76 30 cells78, rowo A81 s70.2.1.length c82 3 1 cells84]) e193 h120 (show ((Kind.int .i64)).R _ [.int .i64 x174] x174 from rfl) rfl rfl rfl 2 rfl rfl tc3 rfl trivial ?_
       intro cells191 h190
       try rw [upd_len e193]
       refine StD.next hcl189 (fun h => by cases h) ?_
       refine StD.done (by kernel_rfl) ?_
       refine St.innorm ?_
       refine St.norm ?_
       refine St.region ?_
       refine St.val (v := (.int .i64 ((s113.2 + 1 : Nat) : Int))) (Yields.addn (j := 1) rfl rfl rfl (by have q_0 := q123; have q_1 := ph1_0.bnd.2; omega)) trivial rfl rfl ?_
       refine St.val (v := (.int .i64 ((s113.2 + 1 : Nat) : Int))) (Yields.move rfl) trivial rfl rfl ?_
       refine St.nil ?_
       refine St.norm ?_
       obtain rfl := sI hm
       intro a w ha hs
       exact ⟨(x192, s113.2 + 1), aL ho116, A118, c119, cells191, h190, (Bnd.of_upd b122 e193), ha.covers ⟨rfl, rfl, rfl, rfl, rfl, rfl, rfl, rfl, rfl, trivial⟩, (Among.of (Among.take 1 rfl rfl (Among.take 1 rfl rfl (Among.take 0 rfl rfl (Among.take 0 rfl rfl (Among.take 0 rfl rfl Among.none))))) _ hs)⟩
     ·intro q194
      replace q194 : ¬ (((s113.2 : Nat) : Int) < ((a1.Vars.length : Nat) : Int)) := of_decide_eq_false q194
      replace hm := iF hm q194
      refine St.exit ?_
      refine St.thenexit ?_
      refine St.thenexit ?_
      refine St.inexit ?_
      obtain rfl := sI hm
      obtain rfl := aR ho116
      intro a w ha hs
      exact ⟨s113.1, rfl, A118, c119, cells121, h120, b122, ha.covers ⟨rfl, rfl, rfl, rfl, rfl, rfl, trivial⟩, (Among.of (Among.take 0 rfl rfl (Among.take 0 rfl rfl (Among.take 1 rfl rfl (Among.take 1 rfl rfl (Among.take 0 rfl rfl Among.none))))) _ hs)⟩
   ·rintro a w ⟨z96, rfl, A98, c99, cells101, h100, b102, ha, hs⟩
    replace hm := aL ho104
    refine St.use (?_ : St _ _ _ _ _ _) ha hs
    clear ha hs a w
    refine St.seq ?_
    refine St.region ?_
    refine St.val (v := v93) (Yields.move rfl) trivial rfl rfl ?_
    refine St.val (v := (.slice A98 z96.length c99)) (Yields.move rfl) trivial rfl rfl ?_
    rcases ILimit.cases s70.2.2.2 with hx195 | ⟨y196, hx195⟩ | ⟨y197, hx195⟩ | ⟨y198, hx195⟩
    ·have h199 := h92
     rw [hx195] at hm h199; rw [ILimit.on_nil] at hm
     obtain rfl : v93 = .nilIface := h199
     exact nomatch (show (none : Option _) = some _ from hm)
    ·have h199 := h92
     rw [hx195] at hm h199; rw [ILimit.on_c78] at hm
     obtain ⟨cs200, R201, rfl⟩ := Ival.agg h199
     obtain rfl := DApart.opn R201
     refine St.pick (R := [blk b5 (.cells #[.int .i64 a1.Kind, .slice pA1_0 a1.Vars.length pc1_0, .slice pA1_1 a1.A.length pc1_1, .int .i64 a1.B, .slice pA1_2 a1.Rows.length pc1_2] 28 (0, 0)), rowo pA0 a0.length pc0 26 1 pcl0, rowo A75 s70.1.length c76 76 30 cells78, rowo A81 s70.2.1.length c82 3 1 cells84]) 4 rfl rfl ?_
     obtain ⟨q203, e204, hm⟩ := bS hm
     refine St.invoke [blk b5 (.cells #[.int .i64 a1.Kind, .slice pA1_0 a1.Vars.length pc1_0, .slice pA1_1 a1.A.length pc1_1, .int .i64 a1.B, .slice pA1_2 a1.Rows.length pc1_2] 28 (0, 0)), rowo pA0 a0.length pc0 26 1 pcl0, rowo A75 s70.1.length c76 76 30 cells78, rowo A81 s70.2.1.length c82 3 1 cells84] (CallSp.lend (Hl := [rowo A98 z96.length c99 3 1 cells101]) (fun m_ hm_ hd_ h1_ h2_ => (m_domain_apart_holds_sp (a0 := (DApart.mk)) (lentR hm_ 0 rfl rfl h100 b102 h1_ h2_) e204).mono (fun _ _ _ h_ _ _ => h_))) rfl (fun _ ha => ev1 ha rfl) rfl iv78_holds rfl rfl trivial ?_
     rintro _ F205 _ ⟨_, rfl, rfl, rfl⟩ l206
     refine St.val (v := (.bool q203)) (Yields.assign rfl) trivial rfl rfl ?_
     refine St.nil ?_
     refine St.norm ?_
     obtain ⟨z207, hm, hk214⟩ := bS hm
     refine St.cutI (fun a w => ∃ (A209 : Option Addr) (c210 : Nat) (cells212 : List Value), Cat (Kind.arr 30 Kind.bool) F205 cells212 z207 ∧ Bnd 30 z207 ∧ Has Try.f52.ntmps a [(0, .slice pA0 a0.length pc0), (3, .pointer (some ⟨b5, 0, none⟩)), (5, .slice A209 z207.length c210), (6, .slice A81 s70.2.1.length c82), (7, .slice A98 z96.length c99), (8, .iface 78 (.agg #[]))] ∧ Sat ⟨w0, fun b => m0 b ≠ none, F⟩ F205 [blk b5 (.cells #[.int .i64 a1.Kind, .slice pA1_0 a1.Vars.length pc1_0, .slice pA1_1 a1.A.length pc1_1, .int .i64 a1.B, .slice pA1_2 a1.Rows.length pc1_2] 28 (0, 0)), rowo pA0 a0.length pc0 26 1 pcl0, rowo A209 z207.length c210 76 30 cells212, rowo A81 s70.2.1.length c82 3 1 cells84, rowo A98 z96.length c99 3 1 cells101] w) ?_ ?_
     ·skip
      refine St.seq ?_
      refine St.region ?_
      refine St.val (v := (.bool q203)) (Yields.move rfl) trivial rfl rfl ?_
      refine St.nil ?_
      refine St.norm ?_
      refine St.cond_b rfl ?_ ?_
      ·intro q215
       replace q215 : q203 = true := q215
       replace hm := iT hm q215
       refine St.seq ?_
       refine St.region ?_
       refine St.val (v := (.slice A81 s70.2.1.length c82)) (Yields.move rfl) trivial rfl rfl ?_
       refine St.val (v := (.int .i64 ((s70.2.1.length : Nat) : Int))) (Yields.lenSlice tu26 rfl) trivial rfl rfl ?_
       refine St.val (v := (.int .i64 0)) (Yields.move rfl) trivial rfl rfl ?_
       refine St.nil ?_
       refine St.norm ?_
       refine St.block ?_
       refine St.loopM hm (fun s224 a w => ∃ (A229 : Option Addr) (c230 : Nat) (cells232 : List Value), Cat (Kind.arr 30 Kind.bool) F205 cells232 s224.1 ∧ Bnd 30 s224.1 ∧ Has Try.f52.ntmps a [(0, .slice pA0 a0.length pc0), (3, .pointer (some ⟨b5, 0, none⟩)), (5, .slice A229 s224.1.length c230), (6, .slice A81 s70.2.1.length c82), (7, .slice A98 z96.length c99), (8, .iface 78 (.agg #[])), (69, .int .i64 ((s70.2.1.length : Nat) : Int)), (70, .int .i64 ((s224.2 : Nat) : Int))] ∧ Sat ⟨w0, fun b => m0 b ≠ none, F⟩ F205 [blk b5 (.cells #[.int .i64 a1.Kind, .slice pA1_0 a1.Vars.length pc1_0, .slice pA1_1 a1.A.length pc1_1, .int .i64 a1.B, .slice pA1_2 a1.Rows.length pc1_2] 28 (0, 0)), rowo pA0 a0.length pc0 26 1 pcl0, rowo A229 s224.1.length c230 76 30 cells232, rowo A81 s70.2.1.length c82 3 1 cells84, rowo A98 z96.length c99 3 1 cells101] w) ?_ ?_
       ·skip
        intro a w ha hs
        exact ⟨A75, c76, cells78, (Cat.mono l206 h77), b79, ha.covers ⟨rfl, rfl, rfl, rfl, rfl, rfl, rfl, rfl, trivial⟩, (Among.of (Among.take 1 rfl rfl (Among.take 1 rfl rfl (Among.take 1 rfl rfl (Among.take 1 rfl rfl (Among.take 0 rfl rfl Among.none))))) _ hs)⟩
       ·rintro s224 o225 co226 hm ho227 a w ⟨A229, c230, cells232, h231, b233, ha, hs⟩
        refine St.use (?_ : St _ _ _ _ _ _) ha hs
        clear ha hs a w
        refine St.seq ?_
        refine St.region ?_
        refine St.val (v := (.bool (decide (((s224.2 : Nat) : Int) < ((s70.2.1.length : Nat) : Int))))) (Yields.lt rfl rfl) trivial rfl rfl ?_
        refine St.nil ?_
        refine St.norm ?_
        refine St.seq ?_
        refine St.cond_b rfl ?_ ?_
        ·intro q234
         replace q234 : ((s224.2 : Nat) : Int) < ((s70.2.1.length : Nat) : Int) := of_decide_eq_true q234
         replace hm := iT hm q234
         refine St.skip ?_
         refine St.norm ?_
         refine St.seq ?_
         refine St.block ?_
         refine St.seq ?_
         refine St.region ?_
         refine St.val (v := (.int .i64 ((s224.2 : Nat) : Int))) (Yields.move rfl) trivial rfl rfl ?_
         refine St.val (v := (.int .i64 ((s224.2 : Nat) : Int))) (Yields.assign rfl) trivial rfl rfl ?_
         refine St.nil ?_
         refine St.norm ?_
         refine StD.start [8] [blk b5 (.cells #[.int .i64 a1.Kind, .slice pA1_0 a1.Vars.length pc1_0, .slice pA1_1 a1.A.length pc1_1, .int .i64 a1.B, .slice pA1_2 a1.Rows.length pc1_2] 28 (0, 0)), rowo pA0 a0.length pc0 26 1 pcl0, rowo A229 s224.1.length c230 76 30 cells232, rowo A81 s70.2.1.length c82 3 1 cells84, rowo A98 z96.length c99 3 1 cells101] hmix ?_
         refine StD.takeP (i := 0) (v := (.slice A229 s224.1.length c230)) rfl (fun _ => Yields.move rfl) rfl rfl trivial (by rintro _ _ _ ⟨_, _, _, _, h, _⟩; cases h) (by kernel_rfl) (listed' := #[true, false, false, false, false, false, false, false, false]) rfl ?_
         refine StD.takeP (i := 1) (v := (.int .i64 ((s224.2 : Nat) : Int))) rfl (fun _ => Yields.move rfl) rfl rfl trivial (by rintro _ _ _ ⟨_, _, _, _, h, _⟩; cases h) (by kernel_rfl) (listed' := #[true, true, false, false, false, false, false, false, false]) rfl ?_
         refine StD.takeP (i := 2) (v := (.slice A81 s70.2.1.length c82)) rfl (fun _ => Yields.move rfl) rfl rfl trivial (by rintro _ _ _ ⟨_, _, _, _, h, _⟩; cases h) (by kernel_rfl) (listed' := #[true, true, true, false, false, false, false, false, false]) rfl ?_
         refine StD.takeP (i := 3) (v := (.int .i64 ((s224.2 : Nat) : Int))) rfl (fun _ => Yields.move rfl) rfl rfl trivial (by rintro _ _ _ ⟨_, _, _, _, h, _⟩; cases h) (by kernel_rfl) (listed' := #[true, true, true, true, false, false, false, false, false]) rfl ?_
         obtain ⟨x235, e236, hm⟩ := bS hm
         obtain ⟨jx237, jx238, cs239, R240, k241⟩ := (Cat.mono l206 h83).nidx e236
         obtain rfl := R240
         refine St.rowo_at 3 rfl (by omega) ?_
         intro hA242
         refine StD.takeP (i := 4) (v := (.pointer (some ⟨bk A81, bo A81 + (s224.2 : Int).toNat * 1, none⟩))) rfl (fun _ => Yields.idx (IdxAt.own hA242 jx237 jx238) ts26 rfl rfl) rfl rfl trivial (by rintro _ _ _ ⟨_, _, _, _, h, _⟩; cases h) (by kernel_rfl) (listed' := #[true, true, true, true, true, false, false, false, false]) rfl ?_
         refine StD.take [0, 1, 2, 3, 4, 6, 7] (i := 5) (v := (.int .i64 x235)) rfl (Yields.load rfl (Loads.rA1 3 rfl tc3 (k241 0 _ rfl))) rfl rfl trivial Among.refl (by rintro _ _ _ ⟨_, _, _, _, h, _⟩; cases h) (by kernel_rfl) (listed' := #[true, true, true, true, true, true, false, false, false]) rfl ?_
         obtain ⟨x243, e244, hm⟩ := bS hm
         obtain ⟨jx245, jx246, cs247, R248, k249⟩ := h231.nidx e244
         obtain ⟨hl250, hC251⟩ := R248
         refine St.rowo_at 2 rfl (by omega) ?_
         intro hA252
         refine StD.takeP (i := 6) (v := (.pointer (some ⟨bk A229, bo A229 + (s224.2 : Int).toNat * 30, none⟩))) rfl (fun _ => Yields.idx (IdxAt.own hA252 jx245 jx246) ts73 rfl rfl) rfl rfl trivial (by rintro _ _ _ ⟨_, _, _, _, h, _⟩; cases h) (by kernel_rfl) (listed' := #[true, true, true, true, true, true, true, false, false]) rfl ?_
         obtain ⟨x253, e254, hm⟩ := bS hm
         obtain ⟨jx255, jx256, _⟩ := Cat.idx hC251 e254
         rw [hl250] at jx256
         refine StD.takeP (i := 7) (v := (.pointer (some ⟨bk A229, bo A229 + ((s224.2 : Int).toNat * 30 + x235.toNat * 1), none⟩))) rfl (fun _ => Yields.indexArr (p := ⟨bk A229, bo A229 + ((s224.2 : Int).toNat * 30 + x235.toNat * 1), none⟩) tr76 rfl rfl jx255 jx256 (by rw [add_off, Nat.add_assoc])) rfl rfl trivial (by rintro _ _ _ ⟨_, _, _, _, h, _⟩; cases h) (by kernel_rfl) (listed' := #[true, true, true, true, true, true, true, true, false]) rfl ?_
         refine StD.only (i := 8) rfl (by kernel_rfl) (listed' := #[true, true, true, true, true, true, true, true, true]) rfl ?_
         intro hcl257
         obtain ⟨x258, e259, hm⟩ := bS hm
         obtain ⟨x260, e261, hm⟩ := bS hm
         refine St.putKa (R := [blk b5 (.cells #[.int .i64 a1.Kind, .slice pA1_0 a1.Vars.length pc1_0, .slice pA1_1 a1.A.length pc1_1, .int .i64 a1.B, .slice pA1_2 a1.Rows.length pc1_2] 28 (0, 0)), rowo pA0 a0.length pc0 26 1 pcl0, rowo A81 s70.2.1.length c82 3 1 cells84, rowo A98 z96.length c99 3 1 cells101]) (nlit e244) e259 e261 h231 rfl rfl rfl rfl 2 rfl rfl tc4 rfl trivial ?_
         intro cells262 h263
         try rw [upd_len e261]
         refine StD.next hcl257 (fun h => by cases h) ?_
         refine StD.done (by kernel_rfl) ?_
         refine St.innorm ?_
         refine St.norm ?_
         refine St.region ?_
         refine St.val (v := (.int .i64 ((s224.2 + 1 : Nat) : Int))) (Yields.addn (j := 1) rfl rfl rfl (by have q_0 := q234; have q_1 := b85.2; omega)) trivial rfl rfl ?_
         refine St.val (v := (.int .i64 ((s224.2 + 1 : Nat) : Int))) (Yields.move rfl) trivial rfl rfl ?_
         refine St.nil ?_
         refine St.norm ?_
         obtain rfl := sI hm
         intro a w ha hs
         exact ⟨(x260, s224.2 + 1), aL ho227, A229, c230, cells262, h263, (Bnd.of_upd b233 e261), ha.covers ⟨rfl, rfl, rfl, rfl, rfl, rfl, rfl, rfl, trivial⟩, (Among.of (Among.take 1 rfl rfl (Among.take 1 rfl rfl (Among.take 0 rfl rfl (Among.take 0 rfl rfl (Among.take 0 rfl rfl Among.none))))) _ hs)⟩
        ·intro q264
         replace q264 : ¬ (((s224.2 : Nat) : Int) < ((s70.2.1.length : Nat) : Int)) := of_decide_eq_false q264
         replace hm := iF hm q264
         refine St.exit ?_
         refine St.thenexit ?_
         refine St.thenexit ?_
         refine St.inexit ?_
         obtain rfl := sI hm
         obtain rfl := aR ho227
         intro a w ha hs
         exact ⟨A229, c230, cells232, h231, b233, ha.covers ⟨rfl, rfl, rfl, rfl, rfl, rfl, trivial⟩, (Among.of (Among.take 0 rfl rfl (Among.take 0 rfl rfl (Among.take 0 rfl rfl (Among.take 0 rfl rfl (Among.take 0 rfl rfl Among.none))))) _ hs)⟩
      ·intro q265
       replace q265 : ¬ (q203 = true) := bf q265
       replace hm := iF hm q265
       refine St.skip ?_
       obtain rfl := sI hm
       intro a w ha hs
       exact ⟨A75, c76, cells78, (Cat.mono l206 h77), b79, ha.covers ⟨rfl, rfl, rfl, rfl, rfl, rfl, trivial⟩, (Among.of (Among.take 1 rfl rfl (Among.take 1 rfl rfl (Among.take 1 rfl rfl (Among.take 1 rfl rfl (Among.take 0 rfl rfl Among.none))))) _ hs)⟩
     ·rintro a w ⟨A209, c210, cells212, h211, b213, ha, hs⟩
      replace hm := hk214
      refine St.use (?_ : St _ _ _ _ _ _) ha hs
      clear ha hs a w
      refine St.seq ?_
      refine St.region ?_
      refine St.val (v := (.slice A81 s70.2.1.length c82)) (Yields.move rfl) trivial rfl rfl ?_
      refine St.val (v := (.int .i64 ((s70.2.1.length : Nat) : Int))) (Yields.lenSlice tu26 rfl) trivial rfl rfl ?_
      refine St.val (v := (.int .i64 (((s70.2.1.length : Nat) : Int) - 1))) (Yields.sub rfl rfl (by have q_0 := b85.2; omega) (by have q_0 := b85.2; omega)) trivial rfl rfl ?_
      refine St.val (v := (.int .i64 (((s70.2.1.length : Nat) : Int) - 1))) (Yields.assign rfl) trivial rfl rfl ?_
      refine St.nil ?_
      refine St.norm ?_
      obtain ⟨z266, hm, hk273⟩ := bS hm
      refine St.cutI (fun a w => ∃ (A268 : Option Addr) (c269 : Nat) (cells271 : List Value), Cat (Kind.int .i64) F205 cells271 z266.1 ∧ Bnd 8 z266.1 ∧ Has Try.f52.ntmps a [(0, .slice pA0 a0.length pc0), (3, .pointer (some ⟨b5, 0, none⟩)), (5, .slice A209 z207.length c210), (6, .slice A268 z266.1.length c269), (7, .slice A98 z96.length c99), (8, .iface 78 (.agg #[])), (13, .int .i64 z266.2)] ∧ Sat ⟨w0, fun b => m0 b ≠ none, F⟩ F205 [blk b5 (.cells #[.int .i64 a1.Kind, .slice pA1_0 a1.Vars.length pc1_0, .slice pA1_1 a1.A.length pc1_1, .int .i64 a1.B, .slice pA1_2 a1.Rows.length pc1_2] 28 (0, 0)), rowo pA0 a0.length pc0 26 1 pcl0, rowo A209 z207.length c210 76 30 cells212, rowo A268 z266.1.length c269 3 1 cells271, rowo A98 z96.length c99 3 1 cells101] w) ?_ ?_
      ·skip
       refine St.block ?_
       refine St.loopM hm (fun s282 a w => ∃ (A287 : Option Addr) (c288 : Nat) (cells290 : List Value), Cat (Kind.int .i64) F205 cells290 s282.1 ∧ Bnd 8 s282.1 ∧ Has Try.f52.ntmps a [(0, .slice pA0 a0.length pc0), (3, .pointer (some ⟨b5, 0, none⟩)), (5, .slice A209 z207.length c210), (6, .slice A287 s282.1.length c288), (7, .slice A98 z96.length c99), (8, .iface 78 (.agg #[])), (13, .int .i64 s282.2)] ∧ Sat ⟨w0, fun b => m0 b ≠ none, F⟩ F205 [blk b5 (.cells #[.int .i64 a1.Kind, .slice pA1_0 a1.Vars.length pc1_0, .slice pA1_1 a1.A.length pc1_1, .int .i64 a1.B, .slice pA1_2 a1.Rows.length pc1_2] 28 (0, 0)), rowo pA0 a0.length pc0 26 1 pcl0, rowo A209 z207.length c210 76 30 cells212, rowo A287 s282.1.length c288 3 1 cells290, rowo A98 z96.length c99 3 1 cells101] w) ?_ ?_
       ·skip
        intro a w ha hs
        exact ⟨A81, c82, cells84, (Cat.mono l206 h83), b85, ha.covers ⟨rfl, rfl, rfl, rfl, rfl, rfl, rfl, trivial⟩, (Among.of (Among.take 0 rfl rfl (Among.take 0 rfl rfl (Among.take 0 rfl rfl (Among.take 0 rfl rfl (Among.take 0 rfl rfl Among.none))))) _ hs)⟩
       ·rintro s282 o283 co284 hm ho285 a w ⟨A287, c288, cells290, h289, b291, ha, hs⟩
        refine St.use (?_ : St _ _ _ _ _ _) ha hs
        clear ha hs a w
        refine St.seq ?_
        refine St.seq ?_
        refine St.region ?_
        refine St.val (v := (.int .i64 s282.2)) (Yields.move rfl) trivial rfl rfl ?_
        refine St.val (v := (.bool (decide (s282.2 ≥ 0)))) (Yields.ge rfl rfl) trivial rfl rfl ?_
        refine St.nil ?_
        refine St.norm ?_
        refine St.cond_b rfl ?_ ?_
        ·intro q292
         replace q292 : s282.2 ≥ 0 := of_decide_eq_true q292
         replace hm := iT hm q292
         refine St.skip ?_
         refine St.norm ?_
         refine St.block ?_
         refine St.seq ?_
         refine St.region ?_
         refine St.val (v := (.slice A287 s282.1.length c288)) (Yields.move rfl) trivial rfl rfl ?_
         refine St.val (v := (.int .i64 s282.2)) (Yields.move rfl) trivial rfl rfl ?_
         obtain ⟨x293, e294, hm⟩ := bS hm
         obtain ⟨jx295, jx296, cs297, R298, k299⟩ := h289.idx e294
         obtain rfl := R298
         refine St.rowo_at 3 rfl (by omega) ?_
         intro hA300
         refine St.val (v := (.pointer (some ⟨bk A287, bo A287 + s282.2.toNat * 1, none⟩))) (Yields.idx (IdxAt.own hA300 jx295 jx296) ts26 rfl rfl) trivial rfl rfl ?_
         refine St.val (v := (.int .i64 x293)) (Yields.load rfl (Loads.rA1 3 rfl tc3 (k299 0 _ rfl))) trivial rfl rfl ?_
         refine St.val (v := (.int .i64 (Mir.w64 (x293 + 1)))) (Yields.addw rfl rfl) trivial rfl rfl ?_
         obtain ⟨x301, e302, hm⟩ := bS hm
         obtain ⟨jx303, jx304, cs305, R306, k307⟩ := h289.idx e302
         obtain rfl := R306
         refine St.val (v := (.pointer (some ⟨bk A287, bo A287 + s282.2.toNat * 1, none⟩))) (Yields.idx (IdxAt.own hA300 jx303 jx304) ts26 rfl rfl) trivial rfl rfl ?_
         obtain ⟨x310, e311, hm⟩ := bS hm
         refine St.putK1 (R := [blk b5 (.cells #[.int .i64 a1.Kind, .slice pA1_0 a1.Vars.length pc1_0, .slice pA1_1 a1.A.length pc1_1, .int .i64 a1.B, .slice pA1_2 a1.Rows.length pc1_2] 28 (0, 0)), rowo pA0 a0.length pc0 26 1 pcl0, rowo A209 z207.length c210 76 30 cells212, rowo A98 z96.length c99 3 1 cells101]) e311 h289 (show ((Kind.int .i64)).R _ [.int .i64 (Mir.w64 (x293 + 1))] (Mir.w64 (x293 + 1)) from rfl) rfl rfl rfl 3 rfl rfl tc3 rfl trivial ?_
         intro cells309 h308
         try rw [upd_len e311]
         refine St.nil ?_
         refine St.norm ?_
         refine St.seq ?_
         refine St.seq ?_
         refine StD.start [] [rowo A287 x310.length c288 3 1 cells309, blk b5 (.cells #[.int .i64 a1.Kind, .slice pA1_0 a1.Vars.length pc1_0, .slice pA1_1 a1.A.length pc1_1, .int .i64 a1.B, .slice pA1_2 a1.Rows.length pc1_2] 28 (0, 0)), rowo pA0 a0.length pc0 26 1 pcl0, rowo A209 z207.length c210 76 30 cells212, rowo A98 z96.length c99 3 1 cells101] hmix ?_
         refine StD.takeP (i := 0) (v := (.slice A287 x310.length c288)) rfl (fun _ => Yields.move rfl) rfl rfl trivial (by rintro _ _ _ ⟨_, _, _, _, h, _⟩; cases h) (by kernel_rfl) (listed' := #[true, false, false, false, false, false, false, false, false, false, false, false, false, false]) rfl ?_
         refine StD.takeP (i := 1) (v := (.int .i64 s282.2)) rfl (fun _ => Yields.move rfl) rfl rfl trivial (by rintro _ _ _ ⟨_, _, _, _, h, _⟩; cases h) (by kernel_rfl) (listed' := #[true, true, false, false, false, false, false, false, false, false, false, false, false, false]) rfl ?_
         obtain ⟨x312, e313, hm⟩ := bS hm
         obtain ⟨jx314, jx315, cs316, R317, k318⟩ := h308.idx e313
         obtain rfl := R317
         refine StD.takeP (i := 2) (v := (.pointer (some ⟨bk A287, bo A287 + s282.2.toNat * 1, none⟩))) rfl (fun _ => Yields.idx (IdxAt.own hA300 jx314 jx315) ts26 rfl rfl) rfl rfl trivial (by rintro _ _ _ ⟨_, _, _, _, h, _⟩; cases h) (by kernel_rfl) (listed' := #[true, true, true, false, false, false, false, false, false, false, false, false, false, false]) rfl ?_
         refine StD.take [0, 1, 2, 4, 5, 7, 8, 10, 12, 13] (i := 3) (v := (.int .i64 x312)) rfl (Yields.load rfl (Loads.rA1 0 rfl tc3 (k318 0 _ rfl))) rfl rfl trivial Among.refl (by rintro _ _ _ ⟨_, _, _, _, h, _⟩; cases h) (by kernel_rfl) (listed' := #[true, true, true, true, false, false, false, false, false, false, false, false, false, false]) rfl ?_
         refine StD.takeP (i := 4) (v := (.slice pA0 a0.length pc0)) rfl (fun _ => Yields.move rfl) rfl rfl trivial (by rintro _ _ _ ⟨_, _, _, _, h, _⟩; cases h) (by kernel_rfl) (listed' := #[true, true, true, true, true, false, false, false, false, false, false, false, false, false]) rfl ?_
         refine StD.takeP (i := 5) (v := (.pointer (some ⟨b5, 1, none⟩))) rfl (fun _ => Yields.fieldAddr (v := (.pointer (some ⟨b5, 1, none⟩))) rfl (fun _ => by kernel_rfl)) rfl rfl trivial (by rintro _ _ _ ⟨_, _, _, _, h, _⟩; cases h) (by kernel_rfl) (listed' := #[true, true, true, true, true, true, false, false, false, false, false, false, false, false]) rfl ?_
         refine StD.take [0, 1, 2, 4, 5, 7, 8, 10, 12, 13] (i := 6) (v := (.slice pA1_0 a1.Vars.length pc1_0)) rfl (Yields.load rfl (Loads.H1 1 rfl tc26 rfl)) rfl rfl trivial Among.refl (by rintro _ _ _ ⟨_, _, _, _, h, _⟩; cases h) (by kernel_rfl) (listed' := #[true, true, true, true, true, true, true, false, false, false, false, false, false, false]) rfl ?_
         refine StD.takeP (i := 7) (v := (.int .i64 s282.2)) rfl (fun _ => Yields.move rfl) rfl rfl trivial (by rintro _ _ _ ⟨_, _, _, _, h, _⟩; cases h) (by kernel_rfl) (listed' := #[true, true, true, true, true, true, true, true, false, false, false, false, false, false]) rfl ?_
         obtain ⟨x319, e320, hm⟩ := bS hm
         obtain ⟨p321, cs322, jx323, R324, k325⟩ := (Fsl.mono (PH.le_trans l33 (PH.le_trans l39 (PH.le_trans l95 l206))) ph1_0).idx e320
         obtain rfl := R324
         refine StD.takeP (i := 8) (v := (.pointer (some p321))) rfl (fun _ => Yields.idx jx323 ts26 rfl rfl) rfl rfl trivial (by rintro _ _ _ ⟨_, _, _, _, h, _⟩; cases h) (by kernel_rfl) (listed' := #[true, true, true, true, true, true, true, true, true, false, false, false, false, false]) rfl ?_
         refine StD.take [0, 1, 2, 4, 5, 7, 8, 10, 12, 13] (i := 9) (v := (.int .i64 x319)) rfl (Yields.load rfl (Loads.Fat k325 tc3 rfl)) rfl rfl trivial Among.refl (by rintro _ _ _ ⟨_, _, _, _, h, _⟩; cases h) (by kernel_rfl) (listed' := #[true, true, true, true, true, true, true, true, true, true, false, false, false, false]) rfl ?_
         obtain ⟨x326, e327, hm⟩ := bS hm
         obtain ⟨jx328, jx329, cs330, R331, k332⟩ := (Cat.mono (PH.le_trans l33 (PH.le_trans l39 (PH.le_trans l95 l206))) ph0).idx e327
         obtain ⟨A333, c334, rfl, h335⟩ := R331
         refine St.rowo_at 2 rfl (by omega) ?_
         intro hA337
         refine StD.takeP (i := 10) (v := (.pointer (some ⟨bk pA0, bo pA0 + x319.toNat * 1, none⟩))) rfl (fun _ => Yields.idx (IdxAt.own hA337 jx328 jx329) ts22 rfl rfl) rfl rfl trivial (by rintro _ _ _ ⟨_, _, _, _, h, _⟩; cases h) (by kernel_rfl) (listed' := #[true, true, true, true, true, true, true, true, true, true, true, false, false, false]) rfl ?_
         refine StD.take [0, 1, 2, 4, 5, 7, 8, 10, 12, 13] (i := 11) (v := (.slice A333 x326.length c334)) rfl (Yields.load rfl (Loads.rA1 2 rfl tc26 (k332 0 _ rfl))) rfl rfl trivial Among.refl (by rintro _ _ _ ⟨_, _, _, _, h, _⟩; cases h) (by kernel_rfl) (listed' := #[true, true, true, true, true, true, true, true, true, true, true, true, false, false]) rfl ?_
         refine StD.takeP (i := 12) (v := (.int .i64 ((x326.length : Nat) : Int))) rfl (fun _ => Yields.lenSlice tu26 rfl) rfl rfl trivial (by rintro _ _ _ ⟨_, _, _, _, h, _⟩; cases h) (by kernel_rfl) (listed' := #[true, true, true, true, true, true, true, true, true, true, true, true, true, false]) rfl ?_
         refine StD.takeP (i := 13) (v := (.bool (decide (x312 < ((x326.length : Nat) : Int))))) rfl (fun _ => Yields.lt rfl rfl) rfl rfl trivial (by rintro _ _ _ ⟨_, _, _, _, h, _⟩; cases h) (by kernel_rfl) (listed' := #[true, true, true, true, true, true, true, true, true, true, true, true, true, true]) rfl ?_
         refine StD.done (by kernel_rfl) ?_
         refine St.norm ?_
         refine St.cond_b rfl ?_ ?_
         ·intro q338
          replace q338 : x312 < ((x326.length : Nat) : Int) := of_decide_eq_true q338
          replace hm := iT hm q338
          refine St.exit ?_
          refine St.thenexit ?_
          refine St.inpass rfl ?_
          refine St.thenexit ?_
          refine St.inexit ?_
          obtain rfl := sI hm
          obtain rfl := aR ho285
          intro a w ha hs
          exact ⟨A287, c288, cells309, h308, (Bnd.of_upd b291 e311), ha.covers ⟨rfl, rfl, rfl, rfl, rfl, rfl, rfl, trivial⟩, (Among.of (Among.take 1 rfl rfl (Among.take 1 rfl rfl (Among.take 1 rfl rfl (Among.take 0 rfl rfl (Among.take 0 rfl rfl Among.none))))) _ hs)⟩
         ·intro q339
          replace q339 : ¬ (x312 < ((x326.length : Nat) : Int)) := of_decide_eq_false q339
          replace hm := iF hm q339
          refine St.skip ?_
          refine St.norm ?_
          refine St.seq ?_
          refine St.region ?_
          refine St.val (v := (.slice A287 x310.length c288)) (Yields.move rfl) trivial rfl rfl ?_
          refine St.val (v := (.int .i64 s282.2)) (Yields.move rfl) trivial rfl rfl ?_
          obtain ⟨x340, e341, hm⟩ := bS hm
          obtain ⟨jx342, jx343, cs344, R345, k346⟩ := h308.idx e341
          obtain rfl := R345
          refine St.val (v := (.pointer (some ⟨bk A287, bo A287 + s282.2.toNat * 1, none⟩))) (Yields.idx (IdxAt.own hA300 jx342 jx343) ts26 rfl rfl) trivial rfl rfl ?_
          obtain ⟨x349, e350, hm⟩ := bS hm
          refine St.putK1 (R := [blk b5 (.cells #[.int .i64 a1.Kind, .slice pA1_0 a1.Vars.length pc1_0, .slice pA1_1 a1.A.length pc1_1, .int .i64 a1.B, .slice pA1_2 a1.Rows.length pc1_2] 28 (0, 0)), rowo pA0 a0.length pc0 26 1 pcl0, rowo A209 z207.length c210 76 30 cells212, rowo A98 z96.length c99 3 1 cells101]) e350 h308 (show ((Kind.int .i64)).R _ [.int .i64 0] 0 from rfl) rfl rfl rfl 0 rfl rfl tc3 rfl trivial ?_
          intro cells348 h347
          try rw [upd_len e350]
          refine St.nil ?_
          refine St.norm ?_
          refine St.region ?_
          refine St.val (v := (.int .i64 s282.2)) (Yields.move rfl) trivial rfl rfl ?_
          refine St.val (v := (.int .i64 (Mir.w64 (s282.2 - 1)))) (Yields.subw rfl rfl) trivial rfl rfl ?_
          refine St.val (v := (.int .i64 (Mir.w64 (s282.2 - 1)))) (Yields.assign rfl) trivial rfl rfl ?_
          refine St.nil ?_
          refine St.innorm ?_
          refine St.norm ?_
          obtain rfl := sI hm
          intro a w ha hs
          exact ⟨(x349, Mir.w64 (s282.2 - 1)), aL ho285, A287, c288, cells348, h347, (Bnd.of_upd (Bnd.of_upd b291 e311) e350), ha.covers ⟨rfl, rfl, rfl, rfl, rfl, rfl, rfl, trivial⟩, (Among.of (Among.take 1 rfl rfl (Among.take 1 rfl rfl (Among.take 1 rfl rfl (Among.take 0 rfl rfl (Among.take 0 rfl rfl Among.none))))) _ hs)⟩
        ·intro q351
         replace q351 : ¬ (s282.2 ≥ 0) := of_decide_eq_false q351
         replace hm := iF hm q351
         refine St.exit ?_
         refine St.thenexit ?_
         refine St.thenexit ?_
         refine St.inexit ?_
         obtain rfl := sI hm
         obtain rfl := aR ho285
         intro a w ha hs
         exact ⟨A287, c288, cells290, h289, b291, ha.covers ⟨rfl, rfl, rfl, rfl, rfl, rfl, rfl, trivial⟩, (Among.of (Among.take 0 rfl rfl (Among.take 0 rfl rfl (Among.take 0 rfl rfl (Among.take 0 rfl rfl (Among.take 0 rfl rfl Among.none))))) _ hs)⟩
      ·rintro a w ⟨A268, c269, cells271, h270, b272, ha, hs⟩
       replace hm := hk273
       refine St.use (?_ : St _ _ _ _ _ _) ha hs
       clear ha hs a w
       refine St.seq ?_
       refine St.region ?_
       refine St.val (v := (.int .i64 z266.2)) (Yields.move rfl) trivial rfl rfl ?_
       refine St.val (v := (.bool (decide (z266.2 < 0)))) (Yields.lt rfl rfl) trivial rfl rfl ?_
       refine St.nil ?_
       refine St.norm ?_
       refine St.cond_b rfl ?_ ?_
       ·intro q352
        replace q352 : z266.2 < 0 := of_decide_eq_true q352
        replace hm := iT hm q352
        refine St.seq ?_
        refine St.region ?_
        refine St.val (v := (.slice A209 z207.length c210)) (Yields.move rfl) trivial rfl rfl ?_
        refine St.val (v := (.slice A209 z207.length c210)) (Yields.assign rfl) trivial rfl rfl ?_
        refine St.nil ?_
        refine St.norm ?_
        refine St.ret ?_
        refine St.inret ?_
        refine St.thenret ?_
        refine St.inret ?_
        refine St.frz 2 rfl rfl rfl h211 b213 ?_
        intro F353 l354 h355
        obtain rfl := sI hm
        obtain rfl := aR ho73
        exact St.doneR1 rfl rfl ⟨A209, c210, rfl, h355, rfl⟩ (fun w hs => Among.of (Among.take 1 rfl rfl Among.none) w hs)
       ·intro q356
        replace q356 : ¬ (z266.2 < 0) := of_decide_eq_false q356
        replace hm := iF hm q356
        refine St.skip ?_
        refine St.innorm ?_
        refine St.norm ?_
        obtain rfl := sI hm
        intro a w ha hs
        exact ⟨(z207, z266.1, z96, (.c78 (DApart.mk))), aL ho73, A209, c210, cells212, A268, c269, cells271, A98, c99, cells101, (.iface 78 (.agg #[])), F205, (PH.le_trans l95 l206), h211, b213, h270, b272, (Cat.mono l206 h100), b102, ⟨(.agg #[]), ⟨[], (DApart.shut), rfl⟩, rfl⟩, ha.covers ⟨rfl, rfl, rfl, rfl, rfl, rfl, trivial⟩, (Among.of (Among.take 0 rfl rfl (Among.take 0 rfl rfl (Among.take 0 rfl rfl (Among.take 0 rfl rfl (Among.take 0 rfl rfl Among.none))))) _ hs)⟩
    ·have h199 := h92
     rw [hx195] at hm h199; rw [ILimit.on_c80] at hm
     obtain ⟨cs357, R358, rfl⟩ := Ival.agg h199
     obtain ⟨A360, c361, rfl, h362⟩ := DTable.opn R358
     refine St.pick (R := [blk b5 (.cells #[.int .i64 a1.Kind, .slice pA1_0 a1.Vars.length pc1_0, .slice pA1_1 a1.A.length pc1_1, .int .i64 a1.B, .slice pA1_2 a1.Rows.length pc1_2] 28 (0, 0)), rowo pA0 a0.length pc0 26 1 pcl0, rowo A75 s70.1.length c76 76 30 cells78, rowo A81 s70.2.1.length c82 3 1 cells84]) 4 rfl rfl ?_
     obtain ⟨q364, e365, hm⟩ := bS hm
     refine St.invoke [blk b5 (.cells #[.int .i64 a1.Kind, .slice pA1_0 a1.Vars.length pc1_0, .slice pA1_1 a1.A.length pc1_1, .int .i64 a1.B, .slice pA1_2 a1.Rows.length pc1_2] 28 (0, 0)), rowo pA0 a0.length pc0 26 1 pcl0, rowo A75 s70.1.length c76 76 30 cells78, rowo A81 s70.2.1.length c82 3 1 cells84] (CallSp.lend (Hl := [rowo A98 z96.length c99 3 1 cells101]) (fun m_ hm_ hd_ h1_ h2_ => (m_domain_table_holds_sp (a0 := y197) (Fsl.mono h1_ h362) (lentR hm_ 0 rfl rfl h100 b102 h1_ h2_) e365).mono (fun _ _ _ h_ _ _ => h_))) rfl (fun _ ha => ev1 ha rfl) rfl iv80_holds rfl rfl trivial ?_
     rintro _ F366 _ ⟨_, rfl, rfl, rfl⟩ l367
     refine St.val (v := (.bool q364)) (Yields.assign rfl) trivial rfl rfl ?_
     refine St.nil ?_
     refine St.norm ?_
     obtain ⟨z368, hm, hk375⟩ := bS hm
     refine St.cutI (fun a w => ∃ (A370 : Option Addr) (c371 : Nat) (cells373 : List Value), Cat (Kind.arr 30 Kind.bool) F366 cells373 z368 ∧ Bnd 30 z368 ∧ Has Try.f52.ntmps a [(0, .slice pA0 a0.length pc0), (3, .pointer (some ⟨b5, 0, none⟩)), (5, .slice A370 z368.length c371), (6, .slice A81 s70.2.1.length c82), (7, .slice A98 z96.length c99), (8, .iface 80 (.agg #[.slice A360 y197.rows.length c361]))] ∧ Sat ⟨w0, fun b => m0 b ≠ none, F⟩ F366 [blk b5 (.cells #[.int .i64 a1.Kind, .slice pA1_0 a1.Vars.length pc1_0, .slice pA1_1 a1.A.length pc1_1, .int .i64 a1.B, .slice pA1_2 a1.Rows.length pc1_2] 28 (0, 0)), rowo pA0 a0.length pc0 26 1 pcl0, rowo A370 z368.length c371 76 30 cells373, rowo A81 s70.2.1.length c82 3 1 cells84, rowo A98 z96.length c99 3 1 cells101] w) ?_ ?_
     ·skip
      refine St.seq ?_
      refine St.region ?_
      refine St.val (v := (.bool q364)) (Yields.move rfl) trivial rfl rfl ?_
      refine St.nil ?_
      refine St.norm ?_
      refine St.cond_b rfl ?_ ?_
      ·intro q376
       replace q376 : q364 = true := q376
       replace hm := iT hm q376
       refine St.seq ?_
       refine St.region ?_
       refine St.val (v := (.slice A81 s70.2.1.length c82)) (Yields.move rfl) trivial rfl rfl ?_
       refine St.val (v := (.int .i64 ((s70.2.1.length : Nat) : Int))) (Yields.lenSlice tu26 rfl) trivial rfl rfl ?_
       refine St.val (v := (.int .i64 0)) (Yields.move rfl) trivial rfl rfl ?_
       refine St.nil ?_
       refine St.norm ?_
       refine St.block ?_
       refine St.loopM hm (fun s385 a w => ∃ (A390 : Option Addr) (c391 : Nat) (cells393 : List Value), Cat (Kind.arr 30 Kind.bool) F366 cells393 s385.1 ∧ Bnd 30 s385.1 ∧ Has Try.f52.ntmps a [(0, .slice pA0 a0.length pc0), (3, .pointer (some ⟨b5, 0, none⟩)), (5, .slice A390 s385.1.length c391), (6, .slice A81 s70.2.1.length c82), (7, .slice A98 z96.length c99), (8, .iface 80 (.agg #[.slice A360 y197.rows.length c361])), (69, .int .i64 ((s70.2.1.length : Nat) : Int)), (70, .int .i64 ((s385.2 : Nat) : Int))] ∧ Sat ⟨w0, fun b => m0 b ≠ none, F⟩ F366 [blk b5 (.cells #[.int .i64 a1.Kind, .slice pA1_0 a1.Vars.length pc1_0, .slice pA1_1 a1.A.length pc1_1, .int .i64 a1.B, .slice pA1_2 a1.Rows.length pc1_2] 28 (0, 0)), rowo pA0 a0.length pc0 26 1 pcl0, rowo A390 s385.1.length c391 76 30 cells393, rowo A81 s70.2.1.length c82 3 1 cells84, rowo A98 z96.length c99 3 1 cells101] w) ?_ ?_
       ·skip
        intro a w ha hs
        exact ⟨A75, c76, cells78, (Cat.mono l367 h77), b79, ha.covers ⟨rfl, rfl, rfl, rfl, rfl, rfl, rfl, rfl, trivial⟩, (Among.of (Among.take 1 rfl rfl (Among.take 1 rfl rfl (Among.take 1 rfl rfl (Among.take 1 rfl rfl (Among.take 0 rfl rfl Among.none))))) _ hs)⟩
       ·rintro s385 o386 co387 hm ho388 a w ⟨A390, c391, cells393, h392, b394, ha, hs⟩
        refine St.use (?_ : St _ _ _ _ _ _) ha hs
        clear ha hs a w
        refine St.seq ?_
        refine St.region ?_
        refine St.val (v := (.bool (decide (((s385.2 : Nat) : Int) < ((s70.2.1.length : Nat) : Int))))) (Yields.lt rfl rfl) trivial rfl rfl ?_
        refine St.nil ?_
        refine St.norm ?_
        refine St.seq ?_
        refine St.cond_b rfl ?_ ?_
        ·intro q395
         replace q395 : ((s385.2 : Nat) : Int) < ((s70.2.1.length : Nat) : Int) := of_decide_eq_true q395
         replace hm := iT hm q395
         refine St.skip ?_
         refine St.norm ?_
         refine St.seq ?_
         refine St.block ?_
         refine St.seq ?_
         refine St.region ?_
         refine St.val (v := (.int .i64 ((s385.2 : Nat) : Int))) (Yields.move rfl) trivial rfl rfl ?_
         refine St.val (v := (.int .i64 ((s385.2 : Nat) : Int))) (Yields.assign rfl) trivial rfl rfl ?_
         refine St.nil ?_
         refine St.norm ?_
         refine StD.start [8] [blk b5 (.cells #[.int .i64 a1.Kind, .slice pA1_0 a1.Vars.length pc1_0, .slice pA1_1 a1.A.length pc1_1, .int .i64 a1.B, .slice pA1_2 a1.Rows.length pc1_2] 28 (0, 0)), rowo pA0 a0.length pc0 26 1 pcl0, rowo A390 s385.1.length c391 76 30 cells393, rowo A81 s70.2.1.length c82 3 1 cells84, rowo A98 z96.length c99 3 1 cells101] hmix ?_
         refine StD.takeP (i := 0) (v := (.slice A390 s385.1.length c391)) rfl (fun _ => Yields.move rfl) rfl rfl trivial (by rintro _ _ _ ⟨_, _, _, _, h, _⟩; cases h) (by kernel_rfl) (listed' := #[true, false, false, false, false, false, false, false, false]) rfl ?_
         refine StD.takeP (i := 1) (v := (.int .i64 ((s385.2 : Nat) : Int))) rfl (fun _ => Yields.move rfl) rfl rfl trivial (by rintro _ _ _ ⟨_, _, _, _, h, _⟩; cases h) (by kernel_rfl) (listed' := #[true, true, false, false, false, false, false, false, false]) rfl ?_
         refine StD.takeP (i := 2) (v := (.slice A81 s70.2.1.length c82)) rfl (fun _ => Yields.move rfl) rfl rfl trivial (by rintro _ _ _ ⟨_, _, _, _, h, _⟩; cases h) (by kernel_rfl) (listed' := #[true, true, true, false, false, false, false, false, false]) rfl ?_
         refine StD.takeP (i := 3) (v := (.int .i64 ((s385.2 : Nat) : Int))) rfl (fun _ => Yields.move rfl) rfl rfl trivial (by rintro _ _ _ ⟨_, _, _, _, h, _⟩; cases h) (by kernel_rfl) (listed' := #[true, true, true, true, false, false, false, false, false]) rfl ?_
         obtain ⟨x396, e397, hm⟩ := bS hm
         obtain ⟨jx398, jx399, cs400, R401, k402⟩ := (Cat.mono l367 h83).nidx e397
         obtain rfl := R401
         refine St.rowo_at 3 rfl (by omega) ?_
         intro hA403
         refine StD.takeP (i := 4) (v := (.pointer (some ⟨bk A81, bo A81 + (s385.2 : Int).toNat * 1, none⟩))) rfl (fun _ => Yields.idx (IdxAt.own hA403 jx398 jx399) ts26 rfl rfl) rfl rfl trivial (by rintro _ _ _ ⟨_, _, _, _, h, _⟩; cases h) (by kernel_rfl) (listed' := #[true, true, true, true, true, false, false, false, false]) rfl ?_
         refine StD.take [0, 1, 2, 3, 4, 6, 7] (i := 5) (v := (.int .i64 x396)) rfl (Yields.load rfl (Loads.rA1 3 rfl tc3 (k402 0 _ rfl))) rfl rfl trivial Among.refl (by rintro _ _ _ ⟨_, _, _, _, h, _⟩; cases h) (by kernel_rfl) (listed' := #[true, true, true, true, true, true, false, false, false]) rfl ?_
         obtain ⟨x404, e405, hm⟩ := bS hm
         obtain ⟨jx406, jx407, cs408, R409, k410⟩ := h392.nidx e405
         obtain ⟨hl411, hC412⟩ := R409
         refine St.rowo_at 2 rfl (by omega) ?_
         intro hA413
         refine StD.takeP (i := 6) (v := (.pointer (some ⟨bk A390, bo A390 + (s385.2 : Int).toNat * 30, none⟩))) rfl (fun _ => Yields.idx (IdxAt.own hA413 jx406 jx407) ts73 rfl rfl) rfl rfl trivial (by rintro _ _ _ ⟨_, _, _, _, h, _⟩; cases h) (by kernel_rfl) (listed' := #[true, true, true, true, true, true, true, false, false]) rfl ?_
         obtain ⟨x414, e415, hm⟩ := bS hm
         obtain ⟨jx416, jx417, _⟩ := Cat.idx hC412 e415
         rw [hl411] at jx417
         refine StD.takeP (i := 7) (v := (.pointer (some ⟨bk A390, bo A390 + ((s385.2 : Int).toNat * 30 + x396.toNat * 1), none⟩))) rfl (fun _ => Yields.indexArr (p := ⟨bk A390, bo A390 + ((s385.2 : Int).toNat * 30 + x396.toNat * 1), none⟩) tr76 rfl rfl jx416 jx417 (by rw [add_off, Nat.add_assoc])) rfl rfl trivial (by rintro _ _ _ ⟨_, _, _, _, h, _⟩; cases h) (by kernel_rfl) (listed' := #[true, true, true, true, true, true, true, true, false]) rfl ?_
         refine StD.only (i := 8) rfl (by kernel_rfl) (listed' := #[true, true, true, true, true, true, true, true, true]) rfl ?_
         intro hcl418
         obtain ⟨x419, e420, hm⟩ := bS hm
         obtain ⟨x421, e422, hm⟩ := bS hm
         refine St.putKa (R := [blk b5 (.cells #[.int .i64 a1.Kind, .slice pA1_0 a1.Vars.length pc1_0, .slice pA1_1 a1.A.length pc1_1, .int .i64 a1.B, .slice pA1_2 a1.Rows.length pc1_2] 28 (0, 0)), rowo pA0 a0.length pc0 26 1 pcl0, rowo A81 s70.2.1.length c82 3 1 cells84, rowo A98 z96.length c99 3 1 cells101]) (nlit e405) e420 e422 h392 rfl rfl rfl rfl 2 rfl rfl tc4 rfl trivial ?_
         intro cells423 h424
         try rw [upd_len e422]
         refine StD.next hcl418 (fun h => by cases h) ?_
         refine StD.done (by kernel_rfl) ?_
         refine St.innorm ?_
         refine St.norm ?_
         refine St.region ?_
         refine St.val (v := (.int .i64 ((s385.2 + 1 : Nat) : Int))) (Yields.addn (j := 1) rfl rfl rfl (by have q_0 := q395; have q_1 := b85.2; omega)) trivial rfl rfl ?_
         refine St.val (v := (.int .i64 ((s385.2 + 1 : Nat) : Int))) (Yields.move rfl) trivial rfl rfl ?_
         refine St.nil ?_
         refine St.norm ?_
         obtain rfl := sI hm
         intro a w ha hs
         exact ⟨(x421, s385.2 + 1), aL ho388, A390, c391, cells423, h424, (Bnd.of_upd b394 e422), ha.covers ⟨rfl, rfl, rfl, rfl, rfl, rfl, rfl, rfl, trivial⟩, (Among.of (Among.take 1 rfl rfl (Among.take 1 rfl rfl (Among.take 0 rfl rfl (Among.take 0 rfl rfl (Among.take 0 rfl rfl Among.none))))) _ hs)⟩
        ·intro q425
         replace q425 : ¬ (((s385.2 : Nat) : Int) < ((s70.2.1.length : Nat) : Int)) := of_decide_eq_false q425
         replace hm := iF hm q425
         refine St.exit ?_
         refine St.thenexit ?_
         refine St.thenexit ?_
         refine St.inexit ?_
         obtain rfl := sI hm
         obtain rfl := aR ho388
         intro a w ha hs
         exact ⟨A390, c391, cells393, h392, b394, ha.covers ⟨rfl, rfl, rfl, rfl, rfl, rfl, trivial⟩, (Among.of (Among.take 0 rfl rfl (Among.take 0 rfl rfl (Among.take 0 rfl rfl (Among.take 0 rfl rfl (Among.take 0 rfl rfl Among.none))))) _ hs)⟩
      ·intro q426
       replace q426 : ¬ (q364 = true) := bf q426
       replace hm := iF hm q426
       refine St.skip ?_
       obtain rfl := sI hm
       intro a w ha hs
       exact ⟨A75, c76, cells78, (Cat.mono l367 h77), b79, ha.covers ⟨rfl, rfl, rfl, rfl, rfl, rfl, trivial⟩, (Among.of (Among.take 1 rfl rfl (Among.take 1 rfl rfl (Among.take 1 rfl rfl (Among.take 1 rfl rfl (Among.take 0 rfl rfl Among.none))))) _ hs)⟩
     ·rintro a w ⟨A370, c371, cells373, h372, b374, ha, hs⟩
      replace hm := hk375
      refine St.use (?_ : St _ _ _ _ _ _) ha hs
      clear ha hs a w
      refine St.seq ?_
      refine St.region ?_
      refine St.val (v := (.slice A81 s70.2.1.length c82)) (Yields.move rfl) trivial rfl rfl ?_
      refine St.val (v := (.int .i64 ((s70.2.1.length : Nat) : Int))) (Yields.lenSlice tu26 rfl) trivial rfl rfl ?_
      refine St.val (v := (.int .i64 (((s70.2.1.length : Nat) : Int) - 1))) (Yields.sub rfl rfl (by have q_0 := b85.2; omega) (by have q_0 := b85.2; omega)) trivial rfl rfl ?_
      refine St.val (v := (.int .i64 (((s70.2.1.length : Nat) : Int) - 1))) (Yields.assign rfl) trivial rfl rfl ?_
      refine St.nil ?_
      refine St.norm ?_
      obtain ⟨z427, hm, hk434⟩ := bS hm
      refine St.cutI (fun a w => ∃ (A429 : Option Addr) (c430 : Nat) (cells432 : List Value), Cat (Kind.int .i64) F366 cells432 z427.1 ∧ Bnd 8 z427.1 ∧ Has Try.f52.ntmps a [(0, .slice pA0 a0.length pc0), (3, .pointer (some ⟨b5, 0, none⟩)), (5, .slice A370 z368.length c371), (6, .slice A429 z427.1.length c430), (7, .slice A98 z96.length c99), (8, .iface 80 (.agg #[.slice A360 y197.rows.length c361])), (13, .int .i64 z427.2)] ∧ Sat ⟨w0, fun b => m0 b ≠ none, F⟩ F366 [blk b5 (.cells #[.int .i64 a1.Kind, .slice pA1_0 a1.Vars.length pc1_0, .slice pA1_1 a1.A.length pc1_1, .int .i64 a1.B, .slice pA1_2 a1.Rows.length pc1_2] 28 (0, 0)), rowo pA0 a0.length pc0 26 1 pcl0, rowo A370 z368.length c371 76 30 cells373, rowo A429 z427.1.length c430 3 1 cells432, rowo A98 z96.length c99 3 1 cells101] w) ?_ ?_
      ·skip
       refine St.block ?_
       refine St.loopM hm (fun s443 a w => ∃ (A448 : Option Addr) (c449 : Nat) (cells451 : List Value), Cat (Kind.int .i64) F366 cells451 s443.1 ∧ Bnd 8 s443.1 ∧ Has Try.f52.ntmps a [(0, .slice pA0 a0.length pc0), (3, .pointer (some ⟨b5, 0, none⟩)), (5, .slice A370 z368.length c371), (6, .slice A448 s443.1.length c449), (7, .slice A98 z96.length c99), (8, .iface 80 (.agg #[.slice A360 y197.rows.length c361])), (13, .int .i64 s443.2)] ∧ Sat ⟨w0, fun b => m0 b ≠ none, F⟩ F366 [blk b5 (.cells #[.int .i64 a1.Kind, .slice pA1_0 a1.Vars.length pc1_0, .slice pA1_1 a1.A.length pc1_1, .int .i64 a1.B, .slice pA1_2 a1.Rows.length pc1_2] 28 (0, 0)), rowo pA0 a0.length pc0 26 1 pcl0, rowo A370 z368.length c371 76 30 cells373, rowo A448 s443.1.length c449 3 1 cells451, rowo A98 z96.length c99 3 1 cells101] w) ?_ ?_
       ·skip
        intro a w ha hs
        exact ⟨A81, c82, cells84, (Cat.mono l367 h83), b85, ha.covers ⟨rfl, rfl, rfl, rfl, rfl, rfl, rfl, trivial⟩, (Among.of (Among.take 0 rfl rfl (Among.take 0 rfl rfl (Among.take 0 rfl rfl (Among.take 0 rfl rfl (Among.take 0 rfl rfl Among.none))))) _ hs)⟩
       ·rintro s443 o444 co445 hm ho446 a w ⟨A448, c449, cells451, h450, b452, ha, hs⟩
        refine St.use (?_ : St _ _ _ _ _ _) ha hs
        clear ha hs a w
        refine St.seq ?_
        refine St.seq ?_
        refine St.region ?_
        refine St.val (v := (.int .i64 s443.2)) (Yields.move rfl) trivial rfl rfl ?_
        refine St.val (v := (.bool (decide (s443.2 ≥ 0)))) (Yields.ge rfl rfl) trivial rfl rfl ?_
        refine St.nil ?_
        refine St.norm ?_
        refine St.cond_b rfl ?_ ?_
        ·intro q453
         replace q453 : s443.2 ≥ 0 := of_decide_eq_true q453
         replace hm := iT hm q453
         refine St.skip ?_
         refine St.norm ?_
         refine St.block ?_
         refine St.seq ?_
         refine St.region ?_
         refine St.val (v := (.slice A448 s443.1.length c449)) (Yields.move rfl) trivial rfl rfl ?_
         refine St.val (v := (.int .i64 s443.2)) (Yields.move rfl) trivial rfl rfl ?_
         obtain ⟨x454, e455, hm⟩ := bS hm
         obtain ⟨jx456, jx457, cs458, R459, k460⟩ := h450.idx e455
         obtain rfl := R459
         refine St.rowo_at 3 rfl (by omega) ?_
         intro hA461
         refine St.val (v := (.pointer (some ⟨bk A448, bo A448 + s443.2.toNat * 1, none⟩))) (Yields.idx (IdxAt.own hA461 jx456 jx457) ts26 rfl rfl) trivial rfl rfl ?_
         refine St.val (v := (.int .i64 x454)) (Yields.load rfl (Loads.rA1 3 rfl tc3 (k460 0 _ rfl))) trivial rfl rfl ?_
         refine St.val (v := (.int .i64 (Mir.w64 (x454 + 1)))) (Yields.addw rfl rfl) trivial rfl rfl ?_
         obtain ⟨x462, e463, hm⟩ := bS hm
         obtain ⟨jx464, jx465, cs466, R467, k468⟩ := h450.idx e463
         obtain rfl := R467
         refine St.val (v := (.pointer (some ⟨bk A448, bo A448 + s443.2.toNat * 1, none⟩))) (Yields.idx (IdxAt.own hA461 jx464 jx465) ts26 rfl rfl) trivial rfl rfl ?_
         obtain ⟨x471, e472, hm⟩ := bS hm
         refine St.putK1 (R := [blk b5 (.cells #[.int .i64 a1.Kind, .slice pA1_0 a1.Vars.length pc1_0, .slice pA1_1 a1.A.length pc1_1, .int .i64 a1.B, .slice pA1_2 a1.Rows.length pc1_2] 28 (0, 0)), rowo pA0 a0.length pc0 26 1 pcl0, rowo A370 z368.length c371 76 30 cells373, rowo A98 z96.length c99 3 1 cells101]) e472 h450 (show ((Kind.int .i64)).R _ [.int .i64 (Mir.w64 (x454 + 1))] (Mir.w64 (x454 + 1)) from rfl) rfl rfl rfl 3 rfl rfl tc3 rfl trivial ?_
         intro cells470 h469
         try rw [upd_len e472]
         refine St.nil ?_
         refine St.norm ?_
         refine St.seq ?_
         refine St.seq ?_
         refine StD.start [] [rowo A448 x471.length c449 3 1 cells470, blk b5 (.cells #[.int .i64 a1.Kind, .slice pA1_0 a1.Vars.length pc1_0, .slice pA1_1 a1.A.length pc1_1, .int .i64 a1.B, .slice pA1_2 a1.Rows.length pc1_2] 28 (0, 0)), rowo pA0 a0.length pc0 26 1 pcl0, rowo A370 z368.length c371 76 30 cells373, rowo A98 z96.length c99 3 1 cells101] hmix ?_
         refine StD.takeP (i := 0) (v := (.slice A448 x471.length c449)) rfl (fun _ => Yields.move rfl) rfl rfl trivial (by rintro _ _ _ ⟨_, _, _, _, h, _⟩; cases h) (by kernel_rfl) (listed' := #[true, false, false, false, false, false, false, false, false, false, false, false, false, false]) rfl ?_
         refine StD.takeP (i := 1) (v := (.int .i64 s443.2)) rfl (fun _ => Yields.move rfl) rfl rfl trivial (by rintro _ _ _ ⟨_, _, _, _, h, _⟩; cases h) (by kernel_rfl) (listed' := #[true, true, false, false, false, false, false, false, false, false, false, false, false, false]) rfl ?_
         obtain ⟨x473, e474, hm⟩ := bS hm
         obtain ⟨jx475, jx476, cs477, R478, k479⟩ := h469.idx e474
         obtain rfl := R478
         refine StD.takeP (i := 2) (v := (.pointer (some ⟨bk A448, bo A448 + s443.2.toNat * 1, none⟩))) rfl (fun _ => Yields.idx (IdxAt.own hA461 jx475 jx476) ts26 rfl rfl) rfl rfl trivial (by rintro _ _ _ ⟨_, _, _, _, h, _⟩; cases h) (by kernel_rfl) (listed' := #[true, true, true, false, false, false, false, false, false, false, false, false, false, false]) rfl ?_
         refine StD.take [0, 1, 2, 4, 5, 7, 8, 10, 12, 13] (i := 3) (v := (.int .i64 x473)) rfl (Yields.load rfl (Loads.rA1 0 rfl tc3 (k479 0 _ rfl))) rfl rfl trivial Among.refl (by rintro _ _ _ ⟨_, _, _, _, h, _⟩; cases h) (by kernel_rfl) (listed' := #[true, true, true, true, false, false, false, false, false, false, false, false, false, false]) rfl ?_
         refine StD.takeP (i := 4) (v := (.slice pA0 a0.length pc0)) rfl (fun _ => Yields.move rfl) rfl rfl trivial (by rintro _ _ _ ⟨_, _, _, _, h, _⟩; cases h) (by kernel_rfl) (listed' := #[true, true, true, true, true, false, false, false, false, false, false, false, false, false]) rfl ?_
         refine StD.takeP (i := 5) (v := (.pointer (some ⟨b5, 1, none⟩))) rfl (fun _ => Yields.fieldAddr (v := (.pointer (some ⟨b5, 1, none⟩))) rfl (fun _ => by kernel_rfl)) rfl rfl trivial (by rintro _ _ _ ⟨_, _, _, _, h, _⟩; cases h) (by kernel_rfl) (listed' := #[true, true, true, true, true, true, false, false, false, false, false, false, false, false]) rfl ?_
         refine StD.take [0, 1, 2, 4, 5, 7, 8, 10, 12, 13] (i := 6) (v := (.slice pA1_0 a1.Vars.length pc1_0)) rfl (Yields.load rfl (Loads.H1 1 rfl tc26 rfl)) rfl rfl trivial Among.refl (by rintro _ _ _ ⟨_, _, _, _, h, _⟩; cases h) (by kernel_rfl) (listed' := #[true, true, true, true, true, true, true, false, false, false, false, false, false, false]) rfl ?_
         refine StD.takeP (i := 7) (v := (.int .i64 s443.2)) rfl (fun _ => Yields.move rfl) rfl rfl trivial (by rintro _ _ _ ⟨_, _, _, _, h, _⟩; cases h) (by kernel_rfl) (listed' := #[true, true, true, true, true, true, true, true, false, false, false, false, false, false]) rfl ?_
         obtain ⟨x480, e481, hm⟩ := bS hm
         obtain ⟨p482, cs483, jx484, R485, k486⟩ := (Fsl.mono (PH.le_trans l33 (PH.le_trans l39 (PH.le_trans l95 l367))) ph1_0).idx e481
         obtain rfl := R485
         refine StD.takeP (i := 8) (v := (.pointer (some p482))) rfl (fun _ => Yields.idx jx484 ts26 rfl rfl) rfl rfl trivial (by rintro _ _ _ ⟨_, _, _, _, h, _⟩; cases h) (by kernel_rfl) (listed' := #[true, true, true, true, true, true, true, true, true, false, false, false, false, false]) rfl ?_
         refine StD.take [0, 1, 2, 4, 5, 7, 8, 10, 12, 13] (i := 9) (v := (.int .i64 x480)) rfl (Yields.load rfl (Loads.Fat k486 tc3 rfl)) rfl rfl trivial Among.refl (by rintro _ _ _ ⟨_, _, _, _, h, _⟩; cases h) (by kernel_rfl) (listed' := #[true, true, true, true, true, true, true, true, true, true, false, false, false, false]) rfl ?_
         obtain ⟨x487, e488, hm⟩ := bS hm
         obtain ⟨jx489, jx490, cs491, R492, k493⟩ := (Cat.mono (PH.le_trans l33 (PH.le_trans l39 (PH.le_trans l95 l367))) ph0).idx e488
         obtain ⟨A494, c495, rfl, h496⟩ := R492
         refine St.rowo_at 2 rfl (by omega) ?_
         intro hA498
         refine StD.takeP (i := 10) (v := (.pointer (some ⟨bk pA0, bo pA0 + x480.toNat * 1, none⟩))) rfl (fun _ => Yields.idx (IdxAt.own hA498 jx489 jx490) ts22 rfl rfl) rfl rfl trivial (by rintro _ _ _ ⟨_, _, _, _, h, _⟩; cases h) (by kernel_rfl) (listed' := #[true, true, true, true, true, true, true, true, true, true, true, false, false, false]) rfl ?_
         refine StD.take [0, 1, 2, 4, 5, 7, 8, 10, 12, 13] (i := 11) (v := (.slice A494 x487.length c495)) rfl (Yields.load rfl (Loads.rA1 2 rfl tc26 (k493 0 _ rfl))) rfl rfl trivial Among.refl (by rintro _ _ _ ⟨_, _, _, _, h, _⟩; cases h) (by kernel_rfl) (listed' := #[true, true, true, true, true, true, true, true, true, true, true, true, false, false]) rfl ?_
         refine StD.takeP (i := 12) (v := (.int .i64 ((x487.length : Nat) : Int))) rfl (fun _ => Yields.lenSlice tu26 rfl) rfl rfl trivial (by rintro _ _ _ ⟨_, _, _, _, h, _⟩; cases h) (by kernel_rfl) (listed' := #[true, true, true, true, true, true, true, true, true, true, true, true, true, false]) rfl ?_
         refine StD.takeP (i := 13) (v := (.bool (decide (x473 < ((x487.length : Nat) : Int))))) rfl (fun _ => Yields.lt rfl rfl) rfl rfl trivial (by rintro _ _ _ ⟨_, _, _, _, h, _⟩; cases h) (by kernel_rfl) (listed' := #[true, true, true, true, true, true, true, true, true, true, true, true, true, true]) rfl ?_
         refine StD.done (by kernel_rfl) ?_
         refine St.norm ?_
         refine St.cond_b rfl ?_ ?_
         ·intro q499
          replace q499 : x473 < ((x487.length : Nat) : Int) := of_decide_eq_true q499
          replace hm := iT hm q499
          refine St.exit ?_
          refine St.thenexit ?_
          refine St.inpass rfl ?_
          refine St.thenexit ?_
          refine St.inexit ?_
          obtain rfl := sI hm
          obtain rfl := aR ho446
          intro a w ha hs
          exact ⟨A448, c449, cells470, h469, (Bnd.of_upd b452 e472), ha.covers ⟨rfl, rfl, rfl, rfl, rfl, rfl, rfl, trivial⟩, (Among.of (Among.take 1 rfl rfl (Among.take 1 rfl rfl (Among.take 1 rfl rfl (Among.take 0 rfl rfl (Among.take 0 rfl rfl Among.none))))) _ hs)⟩
         ·intro q500
          replace q500 : ¬ (x473 < ((x487.length : Nat) : Int)) := of_decide_eq_false q500
          replace hm := iF hm q500
          refine St.skip ?_
          refine St.norm ?_
          refine St.seq ?_
          refine St.region ?_
          refine St.val (v := (.slice A448 x471.length c449)) (Yields.move rfl) trivial rfl rfl ?_
          refine St.val (v := (.int .i64 s443.2)) (Yields.move rfl) trivial rfl rfl ?_
          obtain ⟨x501, e502, hm⟩ := bS hm
          obtain ⟨jx503, jx504, cs505, R506, k507⟩ := h469.idx e502
          obtain rfl := R506
          refine St.val (v := (.pointer (some ⟨bk A448, bo A448 + s443.2.toNat * 1, none⟩))) (Yields.idx (IdxAt.own hA461 jx503 jx504) ts26 rfl rfl) trivial rfl rfl ?_
          obtain ⟨x510, e511, hm⟩ := bS hm
          refine St.putK1 (R := [blk b5 (.cells #[.int .i64 a1.Kind, .slice pA1_0 a1.Vars.length pc1_0, .slice pA1_1 a1.A.length pc1_1, .int .i64 a1.B, .slice pA1_2 a1.Rows.length pc1_2] 28 (0, 0)), rowo pA0 a0.length pc0 26 1 pcl0, rowo A370 z368.length c371 76 30 cells373, rowo A98 z96.length c99 3 1 cells101]) e511 h469 (show ((Kind.int .i64)).R _ [.int .i64 0] 0 from rfl) rfl rfl rfl 0 rfl rfl tc3 rfl trivial ?_
          intro cells509 h508
          try rw [upd_len e511]
          refine St.nil ?_
          refine St.norm ?_
          refine St.region ?_
          refine St.val (v := (.int .i64 s443.2)) (Yields.move rfl) trivial rfl rfl ?_
          refine St.val (v := (.int .i64 (Mir.w64 (s443.2 - 1)))) (Yields.subw rfl rfl) trivial rfl rfl ?_
          refine St.val (v := (.int .i64 (Mir.w64 (s443.2 - 1)))) (Yields.assign rfl) trivial rfl rfl ?_
          refine St.nil ?_
          refine St.innorm ?_
          refine St.norm ?_
          obtain rfl := sI hm
          intro a w ha hs
          exact ⟨(x510, Mir.w64 (s443.2 - 1)), aL ho446, A448, c449, cells509, h508, (Bnd.of_upd (Bnd.of_upd b452 e472) e511), ha.covers ⟨rfl, rfl, rfl, rfl, rfl, rfl, rfl, trivial⟩, (Among.of (Among.take 1 rfl rfl (Among.take 1 rfl rfl (Among.take 1 rfl rfl (Among.take 0 rfl rfl (Among.take 0 rfl rfl Among.none))))) _ hs)⟩
        ·intro q512
         replace q512 : ¬ (s443.2 ≥ 0) := of_decide_eq_false q512
         replace hm := iF hm q512
         refine St.exit ?_
         refine St.thenexit ?_
         refine St.thenexit ?_
         refine St.inexit ?_
         obtain rfl := sI hm
         obtain rfl := aR ho446
         intro a w ha hs
         exact ⟨A448, c449, cells451, h450, b452, ha.covers ⟨rfl, rfl, rfl, rfl, rfl, rfl, rfl, trivial⟩, (Among.of (Among.take 0 rfl rfl (Among.take 0 rfl rfl (Among.take 0 rfl rfl (Among.take 0 rfl rfl (Among.take 0 rfl rfl Among.none))))) _ hs)⟩
      ·rintro a w ⟨A429, c430, cells432, h431, b433, ha, hs⟩
       replace hm := hk434
       refine St.use (?_ : St _ _ _ _ _ _) ha hs
       clear ha hs a w
       refine St.seq ?_
       refine St.region ?_
       refine St.val (v := (.int .i64 z427.2)) (Yields.move rfl) trivial rfl rfl ?_
       refine St.val (v := (.bool (decide (z427.2 < 0)))) (Yields.lt rfl rfl) trivial rfl rfl ?_
       refine St.nil ?_
       refine St.norm ?_
       refine St.cond_b rfl ?_ ?_
       ·intro q513
        replace q513 : z427.2 < 0 := of_decide_eq_true q513
        replace hm := iT hm q513
        refine St.seq ?_
        refine St.region ?_
        refine St.val (v := (.slice A370 z368.length c371)) (Yields.move rfl) trivial rfl rfl ?_
        refine St.val (v := (.slice A370 z368.length c371)) (Yields.assign rfl) trivial rfl rfl ?_
        refine St.nil ?_
        refine St.norm ?_
        refine St.ret ?_
        refine St.inret ?_
        refine St.thenret ?_
        refine St.inret ?_
        refine St.frz 2 rfl rfl rfl h372 b374 ?_
        intro F514 l515 h516
        obtain rfl := sI hm
        obtain rfl := aR ho73
        exact St.doneR1 rfl rfl ⟨A370, c371, rfl, h516, rfl⟩ (fun w hs => Among.of (Among.take 1 rfl rfl Among.none) w hs)
       ·intro q517
        replace q517 : ¬ (z427.2 < 0) := of_decide_eq_false q517
        replace hm := iF hm q517
        refine St.skip ?_
        refine St.innorm ?_
        refine St.norm ?_
        obtain rfl := sI hm
        intro a w ha hs
        exact ⟨(z368, z427.1, z96, (.c80 y197)), aL ho73, A370, c371, cells373, A429, c430, cells432, A98, c99, cells101, (.iface 80 (.agg #[.slice A360 y197.rows.length c361])), F366, (PH.le_trans l95 l367), h372, b374, h431, b433, (Cat.mono l367 h100), b102, ⟨(.agg #[.slice A360 y197.rows.length c361]), ⟨[.slice A360 y197.rows.length c361], (DTable.of (Fsl.mono l367 h362)), rfl⟩, rfl⟩, ha.covers ⟨rfl, rfl, rfl, rfl, rfl, rfl, trivial⟩, (Among.of (Among.take 0 rfl rfl (Among.take 0 rfl rfl (Among.take 0 rfl rfl (Among.take 0 rfl rfl (Among.take 0 rfl rfl Among.none))))) _ hs)⟩
    ·have h199 := h92
     rw [hx195] at hm h199; rw [ILimit.on_c82] at hm
     obtain ⟨cs518, R519, rfl⟩ := Ival.agg h199
     obtain ⟨A521, c522, A524, c525, A527, c528, rfl, h523, h526, h529⟩ := DSum.opn R519
     refine St.pick (R := [blk b5 (.cells #[.int .i64 a1.Kind, .slice pA1_0 a1.Vars.length pc1_0, .slice pA1_1 a1.A.length pc1_1, .int .i64 a1.B, .slice pA1_2 a1.Rows.length pc1_2] 28 (0, 0)), rowo pA0 a0.length pc0 26 1 pcl0, rowo A75 s70.1.length c76 76 30 cells78, rowo A81 s70.2.1.length c82 3 1 cells84]) 4 rfl rfl ?_
     obtain ⟨q533, e534, hm⟩ := bS hm
     refine St.invoke [blk b5 (.cells #[.int .i64 a1.Kind, .slice pA1_0 a1.Vars.length pc1_0, .slice pA1_1 a1.A.length pc1_1, .int .i64 a1.B, .slice pA1_2 a1.Rows.length pc1_2] 28 (0, 0)), rowo pA0 a0.length pc0 26 1 pcl0, rowo A75 s70.1.length c76 76 30 cells78, rowo A81 s70.2.1.length c82 3 1 cells84] (CallSp.lend (Hl := [rowo A98 z96.length c99 3 1 cells101]) (fun m_ hm_ hd_ h1_ h2_ => (m_domain_sum_holds_sp (a0 := y198) (Fsl.mono h1_ h523) (Fsl.mono h1_ h526) (Fsl.mono h1_ h529) (lentR hm_ 0 rfl rfl h100 b102 h1_ h2_) e534).mono (fun _ _ _ h_ _ _ => h_))) rfl (fun _ ha => ev1 ha rfl) rfl iv82_holds rfl rfl trivial ?_
     rintro _ F535 _ ⟨_, rfl, rfl, rfl⟩ l536
     refine St.val (v := (.bool q533)) (Yields.assign rfl) trivial rfl rfl ?_
     refine St.nil ?_
     refine St.norm ?_
     obtain ⟨z537, hm, hk544⟩ := bS hm
     refine St.cutI (fun a w => ∃ (A539 : Option Addr) (c540 : Nat) (cells542 : List Value), Cat (Kind.arr 30 Kind.bool) F535 cells542 z537 ∧ Bnd 30 z537 ∧ Has Try.f52.ntmps a [(0, .slice pA0 a0.length pc0), (3, .pointer (some ⟨b5, 0, none⟩)), (5, .slice A539 z537.length c540), (6, .slice A81 s70.2.1.length c82), (7, .slice A98 z96.length c99), (8, .iface 82 (.agg #[.int .i64 y198.l.Kind, .slice A521 y198.l.Vars.length c522, .slice A524 y198.l.A.length c525, .int .i64 y198.l.B, .slice A527 y198.l.Rows.length c528]))] ∧ Sat ⟨w0, fun b => m0 b ≠ none, F⟩ F535 [blk b5 (.cells #[.int .i64 a1.Kind, .slice pA1_0 a1.Vars.length pc1_0, .slice pA1_1 a1.A.length pc1_1, .int .i64 a1.B, .slice pA1_2 a1.Rows.length pc1_2] 28 (0, 0)), rowo pA0 a0.length pc0 26 1 pcl0, rowo A539 z537.length c540 76 30 cells542, rowo A81 s70.2.1.length c82 3 1 cells84, rowo A98 z96.length c99 3 1 cells101] w) ?_ ?_
     ·skip
      refine St.seq ?_
      refine St.region ?_
      refine St.val (v := (.bool q533)) (Yields.move rfl) trivial rfl rfl ?_
      refine St.nil ?_
      refine St.norm ?_
      refine St.cond_b rfl ?_ ?_
      ·intro q545
       replace q545 : q533 = true := q545
       replace hm := iT hm q545
       refine St.seq ?_
       refine St.region ?_
       refine St.val (v := (.slice A81 s70.2.1.length c82)) (Yields.move rfl) trivial rfl rfl ?_
       refine St.val (v := (.int .i64 ((s70.2.1.length : Nat) : Int))) (Yields.lenSlice tu26 rfl) trivial rfl rfl ?_
       refine St.val (v := (.int .i64 0)) (Yields.move rfl) trivial rfl rfl ?_
       refine St.nil ?_
       refine St.norm ?_
       refine St.block ?_
       refine St.loopM hm (fun s554 a w => ∃ (A559 : Option Addr) (c560 : Nat) (cells562 : List Value), Cat (Kind.arr 30 Kind.bool) F535 cells562 s554.1 ∧ Bnd 30 s554.1 ∧ Has Try.f52.ntmps a [(0, .slice pA0 a0.length pc0), (3, .pointer (some ⟨b5, 0, none⟩)), (5, .slice A559 s554.1.length c560), (6, .slice A81 s70.2.1.length c82), (7, .slice A98 z96.length c99), (8, .iface 82 (.agg #[.int .i64 y198.l.Kind, .slice A521 y198.l.Vars.length c522, .slice A524 y198.l.A.length c525, .int .i64 y198.l.B, .slice A527 y198.l.Rows.length c528])), (69, .int .i64 ((s70.2.1.length : Nat) : Int)), (70, .int .i64 ((s554.2 : Nat) : Int))] ∧ Sat ⟨w0, fun b => m0 b ≠ none, F⟩ F535 [blk b5 (.cells #[.int .i64 a1.Kind, .slice pA1_0 a1.Vars.length pc1_0, .slice pA1_1 a1.A.length pc1_1, .int .i64 a1.B, .slice pA1_2 a1.Rows.length pc1_2] 28 (0, 0)), rowo pA0 a0.length pc0 26 1 pcl0, rowo A559 s554.1.length c560 76 30 cells562, rowo A81 s70.2.1.length c82 3 1 cells84, rowo A98 z96.length c99 3 1 cells101] w) ?_ ?_
       ·skip
        intro a w ha hs
        exact ⟨A75, c76, cells78, (Cat.mono l536 h77), b79, ha.covers ⟨rfl, rfl, rfl, rfl, rfl, rfl, rfl, rfl, trivial⟩, (Among.of (Among.take 1 rfl rfl (Among.take 1 rfl rfl (Among.take 1 rfl rfl (Among.take 1 rfl rfl (Among.take 0 rfl rfl Among.none))))) _ hs)⟩
       ·rintro s554 o555 co556 hm ho557 a w ⟨A559, c560, cells562, h561, b563, ha, hs⟩
        refine St.use (?_ : St _ _ _ _ _ _) ha hs
        clear ha hs a w
        refine St.seq ?_
        refine St.region ?_
        refine St.val (v := (.bool (decide (((s554.2 : Nat) : Int) < ((s70.2.1.length : Nat) : Int))))) (Yields.lt rfl rfl) trivial rfl rfl ?_
        refine St.nil ?_
        refine St.norm ?_
        refine St.seq ?_
        refine St.cond_b rfl ?_ ?_
        ·intro q564
         replace q564 : ((s554.2 : Nat) : Int) < ((s70.2.1.length : Nat) : Int) := of_decide_eq_true q564
         replace hm := iT hm q564
         refine St.skip ?_
         refine St.norm ?_
         refine St.seq ?_
         refine St.block ?_
         refine St.seq ?_
         refine St.region ?_
         refine St.val (v := (.int .i64 ((s554.2 : Nat) : Int))) (Yields.move rfl) trivial rfl rfl ?_
         refine St.val (v := (.int .i64 ((s554.2 : Nat) : Int))) (Yields.assign rfl) trivial rfl rfl ?_
         refine St.nil ?_
         refine St.norm ?_
         refine StD.start [8] [blk b5 (.cells #[.int .i64 a1.Kind, .slice pA1_0 a1.Vars.length pc1_0, .slice pA1_1 a1.A.length pc1_1, .int .i64 a1.B, .slice pA1_2 a1.Rows.length pc1_2] 28 (0, 0)), rowo pA0 a0.length pc0 26 1 pcl0, rowo A559 s554.1.length c560 76 30 cells562, rowo A81 s70.2.1.length c82 3 1 cells84, rowo A98 z96.length c99 3 1 cells101] hmix ?_
         refine StD.takeP (i := 0) (v := (.slice A559 s554.1.length c560)) rfl (fun _ => Yields.move rfl) rfl rfl trivial (by rintro _ _ _ ⟨_, _, _, _, h, _⟩; cases h) (by kernel_rfl) (listed' := #[true, false, false, false, false, false, false, false, false]) rfl ?_
         refine StD.takeP (i := 1) (v := (.int .i64 ((s554.2 : Nat) : Int))) rfl (fun _ => Yields.move rfl) rfl rfl trivial (by rintro _ _ _ ⟨_, _, _, _, h, _⟩; cases h) (by kernel_rfl) (listed' := #[true, true, false, false, false, false, false, false, false]) rfl ?_
         refine StD.takeP (i := 2) (v := (.slice A81 s70.2.1.length c82)) rfl (fun _ => Yields.move rfl) rfl rfl trivial (by rintro _ _ _ ⟨_, _, _, _, h, _⟩; cases h) (by kernel_rfl) (listed' := #[true, true, true, false, false, false, false, false, false]) rfl ?_
         refine StD.takeP (i := 3) (v := (.int .i64 ((s554.2 : Nat) : Int))) rfl (fun _ => Yields.move rfl) rfl rfl trivial (by rintro _ _ _ ⟨_, _, _, _, h, _⟩; cases h) (by kernel_rfl) (listed' := #[true, true, true, true, false, false, false, false, false]) rfl ?_
         obtain ⟨x565, e566, hm⟩ := bS hm
         obtain ⟨jx567, jx568, cs569, R570, k571⟩ := (Cat.mono l536 h83).nidx e566
         obtain rfl := R570
         refine St.rowo_at 3 rfl (by omega) ?_
         intro hA572
         refine StD.takeP (i := 4) (v := (.pointer (some ⟨bk A81, bo A81 + (s554.2 : Int).toNat * 1, none⟩))) rfl (fun _ => Yields.idx (IdxAt.own hA572 jx567 jx568) ts26 rfl rfl) rfl rfl trivial (by rintro _ _ _ ⟨_, _, _, _, h, _⟩; cases h) (by kernel_rfl) (listed' := #[true, true, true, true, true, false, false, false, false]) rfl ?_
         refine StD.take [0, 1, 2, 3, 4, 6, 7] (i := 5) (v := (.int .i64 x565)) rfl (Yields.load rfl (Loads.rA1 3 rfl tc3 (k571 0 _ rfl))) rfl rfl trivial Among.refl (by rintro _ _ _ ⟨_, _, _, _, h, _⟩; cases h) (by kernel_rfl) (listed' := #[true, true, true, true, true, true, false, false, false]) rfl ?_
         obtain ⟨x573, e574, hm⟩ := bS hm
         obtain ⟨jx575, jx576, cs577, R578, k579⟩ := h561.nidx e574
         obtain ⟨hl580, hC581⟩ := R578
         refine St.rowo_at 2 rfl (by omega) ?_
         intro hA582
         refine StD.takeP (i := 6) (v := (.pointer (some ⟨bk A559, bo A559 + (s554.2 : Int).toNat * 30, none⟩))) rfl (fun _ => Yields.idx (IdxAt.own hA582 jx575 jx576) ts73 rfl rfl) rfl rfl trivial (by rintro _ _ _ ⟨_, _, _, _, h, _⟩; cases h) (by kernel_rfl) (listed' := #[true, true, true, true, true, true, true, false, false]) rfl ?_
         obtain ⟨x583, e584, hm⟩ := bS hm
         obtain ⟨jx585, jx586, _⟩ := Cat.idx hC581 e584
         rw [hl580] at jx586
         refine StD.takeP (i := 7) (v := (.pointer (some ⟨bk A559, bo A559 + ((s554.2 : Int).toNat * 30 + x565.toNat * 1), none⟩))) rfl (fun _ => Yields.indexArr (p := ⟨bk A559, bo A559 + ((s554.2 : Int).toNat * 30 + x565.toNat * 1), none⟩) tr76 rfl rfl jx585 jx586 (by rw [add_off, Nat.add_assoc])) rfl rfl trivial (by rintro _ _ _ ⟨_, _, _, _, h, _⟩; cases h) (by kernel_rfl) (listed' := #[true, true, true, true, true, true, true, true, false]) rfl ?_
         refine StD.only (i := 8) rfl (by kernel_rfl) (listed' := #[true, true, true, true, true, true, true, true, true]) rfl ?_
         intro hcl587
         obtain ⟨x588, e589, hm⟩ := bS hm
         obtain ⟨x590, e591, hm⟩ := bS hm
         refine St.putKa (R := [blk b5 (.cells #[.int .i64 a1.Kind, .slice pA1_0 a1.Vars.length pc1_0, .slice pA1_1 a1.A.length pc1_1, .int .i64 a1.B, .slice pA1_2 a1.Rows.length pc1_2] 28 (0, 0)), rowo pA0 a0.length pc0 26 1 pcl0, rowo A81 s70.2.1.length c82 3 1 cells84, rowo A98 z96.length c99 3 1 cells101]) (nlit e574) e589 e591 h561 rfl rfl rfl rfl 2 rfl rfl tc4 rfl trivial ?_
         intro cells592 h593
         try rw [upd_len e591]
         refine StD.next hcl587 (fun h => by cases h) ?_
         refine StD.done (by kernel_rfl) ?_
         refine St.innorm ?_
         refine St.norm ?_
         refine St.region ?_
         refine St.val (v := (.int .i64 ((s554.2 + 1 : Nat) : Int))) (Yields.addn (j := 1) rfl rfl rfl (by have q_0 := q564; have q_1 := b85.2; omega)) trivial rfl rfl ?_
         refine St.val (v := (.int .i64 ((s554.2 + 1 : Nat) : Int))) (Yields.move rfl) trivial rfl rfl ?_
         refine St.nil ?_
         refine St.norm ?_
         obtain rfl := sI hm
         intro a w ha hs
         exact ⟨(x590, s554.2 + 1), aL ho557, A559, c560, cells592, h593, (Bnd.of_upd b563 e591), ha.covers ⟨rfl, rfl, rfl, rfl, rfl, rfl, rfl, rfl, trivial⟩, (Among.of (Among.take 1 rfl rfl (Among.take 1 rfl rfl (Among.take 0 rfl rfl (Among.take 0 rfl rfl (Among.take 0 rfl rfl Among.none))))) _ hs)⟩
        ·intro q594
         replace q594 : ¬ (((s554.2 : Nat) : Int) < ((s70.2.1.length : Nat) : Int)) := of_decide_eq_false q594
         replace hm := iF hm q594
         refine St.exit ?_
         refine St.thenexit ?_
         refine St.thenexit ?_
         refine St.inexit ?_
         obtain rfl := sI hm
         obtain rfl := aR ho557
         intro a w ha hs
         exact ⟨A559, c560, cells562, h561, b563, ha.covers ⟨rfl, rfl, rfl, rfl, rfl, rfl, trivial⟩, (Among.of (Among.take 0 rfl rfl (Among.take 0 rfl rfl (Among.take 0 rfl rfl (Among.take 0 rfl rfl (Among.take 0 rfl rfl Among.none))))) _ hs)⟩
      ·intro q595
       replace q595 : ¬ (q533 = true) := bf q595
       replace hm := iF hm q595
       refine St.skip ?_
       obtain rfl := sI hm
       intro a w ha hs
       exact ⟨A75, c76, cells78, (Cat.mono l536 h77), b79, ha.covers ⟨rfl, rfl, rfl, rfl, rfl, rfl, trivial⟩, (Among.of (Among.take 1 rfl rfl (Among.take 1 rfl rfl (Among.take 1 rfl rfl (Among.take 1 rfl rfl (Among.take 0 rfl rfl Among.none))))) _ hs)⟩
     ·rintro a w ⟨A539, c540, cells542, h541, b543, ha, hs⟩
      replace hm := hk544
      refine St.use (?_ : St _ _ _ _ _ _) ha hs
      clear ha hs a w
      refine St.seq ?_
      refine St.region ?_
      refine St.val (v := (.slice A81 s70.2.1.length c82)) (Yields.move rfl) trivial rfl rfl ?_
      refine St.val (v := (.int .i64 ((s70.2.1.length : Nat) : Int))) (Yields.lenSlice tu26 rfl) trivial rfl rfl ?_
      refine St.val (v := (.int .i64 (((s70.2.1.length : Nat) : Int) - 1))) (Yields.sub rfl rfl (by have q_0 := b85.2; omega) (by have q_0 := b85.2; omega)) trivial rfl rfl ?_
      refine St.val (v := (.int .i64 (((s70.2.1.length : Nat) : Int) - 1))) (Yields.assign rfl) trivial rfl rfl ?_
      refine St.nil ?_
      refine St.norm ?_
      obtain ⟨z596, hm, hk603⟩ := bS hm
      refine St.cutI (fun a w => ∃ (A598 : Option Addr) (c599 : Nat) (cells601 : List Value), Cat (Kind.int .i64) F535 cells601 z596.1 ∧ Bnd 8 z596.1 ∧ Has Try.f52.ntmps a [(0, .slice pA0 a0.length pc0), (3, .pointer (some ⟨b5, 0, none⟩)), (5, .slice A539 z537.length c540), (6, .slice A598 z596.1.length c599), (7, .slice A98 z96.length c99), (8, .iface 82 (.agg #[.int .i64 y198.l.Kind, .slice A521 y198.l.Vars.length c522, .slice A524 y198.l.A.length c525, .int .i64 y198.l.B, .slice A527 y198.l.Rows.length c528])), (13, .int .i64 z596.2)] ∧ Sat ⟨w0, fun b => m0 b ≠ none, F⟩ F535 [blk b5 (.cells #[.int .i64 a1.Kind, .slice pA1_0 a1.Vars.length pc1_0, .slice pA1_1 a1.A.length pc1_1, .int .i64 a1.B, .slice pA1_2 a1.Rows.length pc1_2] 28 (0, 0)), rowo pA0 a0.length pc0 26 1 pcl0, rowo A539 z537.length c540 76 30 cells542, rowo A598 z596.1.length c599 3 1 cells601, rowo A98 z96.length c99 3 1 cells101] w) ?_ ?_
      ·skip
       refine St.block ?_
       refine St.loopM hm (fun s612 a w => ∃ (A617 : Option Addr) (c618 : Nat) (cells620 : List Value), Cat (Kind.int .i64) F535 cells620 s612.1 ∧ Bnd 8 s612.1 ∧ Has Try.f52.ntmps a [(0, .slice pA0 a0.length pc0), (3, .pointer (some ⟨b5, 0, none⟩)), (5, .slice A539 z537.length c540), (6, .slice A617 s612.1.length c618), (7, .slice A98 z96.length c99), (8, .iface 82 (.agg #[.int .i64 y198.l.Kind, .slice A521 y198.l.Vars.length c522, .slice A524 y198.l.A.length c525, .int .i64 y198.l.B, .slice A527 y198.l.Rows.length c528])), (13, .int .i64 s612.2)] ∧ Sat ⟨w0, fun b => m0 b ≠ none, F⟩ F535 [blk b5 (.cells #[.int .i64 a1.Kind, .slice pA1_0 a1.Vars.length pc1_0, .slice pA1_1 a1.A.length pc1_1, .int .i64 a1.B, .slice pA1_2 a1.Rows.length pc1_2] 28 (0, 0)), rowo pA0 a0.length pc0 26 1 pcl0, rowo A539 z537.length c540 76 30 cells542, rowo A617 s612.1.length c618 3 1 cells620, rowo A98 z96.length c99 3 1 cells101] w) ?_ ?_
       ·skip
        intro a w ha hs
        exact ⟨A81, c82, cells84, (Cat.mono l536 h83), b85, ha.covers ⟨rfl, rfl, rfl, rfl, rfl, rfl, rfl, trivial⟩, (Among.of (Among.take 0 rfl rfl (Among.take 0 rfl rfl (Among.take 0 rfl rfl (Among.take 0 rfl rfl (Among.take 0 rfl rfl Among.none))))) _ hs)⟩
       ·rintro s612 o613 co614 hm ho615 a w ⟨A617, c618, cells620, h619, b621, ha, hs⟩
        refine St.use (?_ : St _ _ _ _ _ _) ha hs
        clear ha hs a w
        refine St.seq ?_
        refine St.seq ?_
        refine St.region ?_
        refine St.val (v := (.int .i64 s612.2)) (Yields.move rfl) trivial rfl rfl ?_
        refine St.val (v := (.bool (decide (s612.2 ≥ 0)))) (Yields.ge rfl rfl) trivial rfl rfl ?_
        refine St.nil ?_
        refine St.norm ?_
        refine St.cond_b rfl ?_ ?_
        ·intro q622
         replace q622 : s612.2 ≥ 0 := of_decide_eq_true q622
         replace hm := iT hm q622
         refine St.skip ?_
         refine St.norm ?_
         refine St.block ?_
         refine St.seq ?_
         refine St.region ?_
         refine St.val (v := (.slice A617 s612.1.length c618)) (Yields.move rfl) trivial rfl rfl ?_
         refine St.val (v := (.int .i64 s612.2)) (Yields.move rfl) trivial rfl rfl ?_
         obtain ⟨x623, e624, hm⟩ := bS hm
         obtain ⟨jx625, jx626, cs627, R628, k629⟩ := h619.idx e624
         obtain rfl := R628
         refine St.rowo_at 3 rfl (by omega) ?_
         intro hA630
         refine St.val (v := (.pointer (some ⟨bk A617, bo A617 + s612.2.toNat * 1, none⟩))) (Yields.idx (IdxAt.own hA630 jx625 jx626) ts26 rfl rfl) trivial rfl rfl ?_
         refine St.val (v := (.int .i64 x623)) (Yields.load rfl (Loads.rA1 3 rfl tc3 (k629 0 _ rfl))) trivial rfl rfl ?_
         refine St.val (v := (.int .i64 (Mir.w64 (x623 + 1)))) (Yields.addw rfl rfl) trivial rfl rfl ?_
         obtain ⟨x631, e632, hm⟩ := bS hm
         obtain ⟨jx633, jx634, cs635, R636, k637⟩ := h619.idx e632
         obtain rfl := R636
         refine St.val (v := (.pointer (some ⟨bk A617, bo A617 + s612.2.toNat * 1, none⟩))) (Yields.idx (IdxAt.own hA630 jx633 jx634) ts26 rfl rfl) trivial rfl rfl ?_
         obtain ⟨x640, e641, hm⟩ := bS hm
         refine St.putK1 (R := [blk b5 (.cells #[.int .i64 a1.Kind, .slice pA1_0 a1.Vars.length pc1_0, .slice pA1_1 a1.A.length pc1_1, .int .i64 a1.B, .slice pA1_2 a1.Rows.length pc1_2] 28 (0, 0)), rowo pA0 a0.length pc0 26 1 pcl0, rowo A539 z537.length c540 76 30 cells542, rowo A98 z96.length c99 3 1 cells101]) e641 h619 (show ((Kind.int .i64)).R _ [.int .i64 (Mir.w64 (x623 + 1))] (Mir.w64 (x623 + 1)) from rfl) rfl rfl rfl 3 rfl rfl tc3 rfl trivial ?_
         intro cells639 h638
         try rw [upd_len e641]
         refine St.nil ?_
         refine St.norm ?_
         refine St.seq ?_
         refine St.seq ?_
         refine StD.start [] [rowo A617 x640.length c618 3 1 cells639, blk b5 (.cells #[.int .i64 a1.Kind, .slice pA1_0 a1.Vars.length pc1_0, .slice pA1_1 a1.A.length pc1_1, .int .i64 a1.B, .slice pA1_2 a1.Rows.length pc1_2] 28 (0, 0)), rowo pA0 a0.length pc0 26 1 pcl0, rowo A539 z537.length c540 76 30 cells542, rowo A98 z96.length c99 3 1 cells101] hmix ?_
         refine StD.takeP (i := 0) (v := (.slice A617 x640.length c618)) rfl (fun _ => Yields.move rfl) rfl rfl trivial (by rintro _ _ _ ⟨_, _, _, _, h, _⟩; cases h) (by kernel_rfl) (listed' := #[true, false, false, false, false, false, false, false, false, false, false, false, false, false]) rfl ?_
         refine StD.takeP (i := 1) (v := (.int .i64 s612.2)) rfl (fun _ => Yields.move rfl) rfl rfl trivial (by rintro _ _ _ ⟨_, _, _, _, h, _⟩; cases h) (by kernel_rfl) (listed' := #[true, true, false, false, false, false, false, false, false, false, false, false, false, false]) rfl ?_
         obtain ⟨x642, e643, hm⟩ := bS hm
         obtain ⟨jx644, jx645, cs646, R647, k648⟩ := h638.idx e643
         obtain rfl := R647
         refine StD.takeP (i := 2) (v := (.pointer (some ⟨bk A617, bo A617 + s612.2.toNat * 1, none⟩))) rfl (fun _ => Yields.idx (IdxAt.own hA630 jx644 jx645) ts26 rfl rfl) rfl rfl trivial (by rintro _ _ _ ⟨_, _, _, _, h, _⟩; cases h) (by kernel_rfl) (listed' := #[true, true, true, false, false, false, false, false, false, false, false, false, false, false]) rfl ?_
         refine StD.take [0, 1, 2, 4, 5, 7, 8, 10, 12, 13] (i := 3) (v := (.int .i64 x642)) rfl (Yields.load rfl (Loads.rA1 0 rfl tc3 (k648 0 _ rfl))) rfl rfl trivial Among.refl (by rintro _ _ _ ⟨_, _, _, _, h, _⟩; cases h) (by kernel_rfl) (listed' := #[true, true, true, true, false, false, false, false, false, false, false, false, false, false]) rfl ?_
         refine StD.takeP (i := 4) (v := (.slice pA0 a0.length pc0)) rfl (fun _ => Yields.move rfl) rfl rfl trivial (by rintro _ _ _ ⟨_, _, _, _, h, _⟩; cases h) (by kernel_rfl) (listed' := #[true, true, true, true, true, false, false, false, false, false, false, false, false, false]) rfl ?_
         refine StD.takeP (i := 5) (v := (.pointer (some ⟨b5, 1, none⟩))) rfl (fun _ => Yields.fieldAddr (v := (.pointer (some ⟨b5, 1, none⟩))) rfl (fun _ => by kernel_rfl)) rfl rfl trivial (by rintro _ _ _ ⟨_, _, _, _, h, _⟩; cases h) (by kernel_rfl) (listed' := #[true, true, true, true, true, true, false, false, false, false, false, false, false, false]) rfl ?_
         refine StD.take [0, 1, 2, 4, 5, 7, 8, 10, 12, 13] (i := 6) (v := (.slice pA1_0 a1.Vars.length pc1_0)) rfl (Yields.load rfl (Loads.H1 1 rfl tc26 rfl)) rfl rfl trivial Among.refl (by rintro _ _ _ ⟨_, _, _, _, h, _⟩; cases h) (by kernel_rfl) (listed' := #[true, true, true, true, true, true, true, false, false, false, false, false, false, false]) rfl ?_
         refine StD.takeP (i := 7) (v := (.int .i64 s612.2)) rfl (fun _ => Yields.move rfl) rfl rfl trivial (by rintro _ _ _ ⟨_, _, _, _, h, _⟩; cases h) (by kernel_rfl) (listed' := #[true, true, true, true, true, true, true, true, false, false, false, false, false, false]) rfl ?_
         obtain ⟨x649, e650, hm⟩ := bS hm
         obtain ⟨p651, cs652, jx653, R654, k655⟩ := (Fsl.mono (PH.le_trans l33 (PH.le_trans l39 (PH.le_trans l95 l536))) ph1_0).idx e650
         obtain rfl := R654
         refine StD.takeP (i := 8) (v := (.pointer (some p651))) rfl (fun _ => Yields.idx jx653 ts26 rfl rfl) rfl rfl trivial (by rintro _ _ _ ⟨_, _, _, _, h, _⟩; cases h) (by kernel_rfl) (listed' := #[true, true, true, true, true, true, true, true, true, false, false, false, false, false]) rfl ?_
         refine StD.take [0, 1, 2, 4, 5, 7, 8, 10, 12, 13] (i := 9) (v := (.int .i64 x649)) rfl (Yields.load rfl (Loads.Fat k655 tc3 rfl)) rfl rfl trivial Among.refl (by rintro _ _ _ ⟨_, _, _, _, h, _⟩; cases h) (by kernel_rfl) (listed' := #[true, true, true, true, true, true, true, true, true, true, false, false, false, false]) rfl ?_
         obtain ⟨x656, e657, hm⟩ := bS hm
         obtain ⟨jx658, jx659, cs660, R661, k662⟩ := (Cat.mono (PH.le_trans l33 (PH.le_trans l39 (PH.le_trans l95 l536))) ph0).idx e657
         obtain ⟨A663, c664, rfl, h665⟩ := R661
         refine St.rowo_at 2 rfl (by omega) ?_
         intro hA667
         refine StD.takeP (i := 10) (v := (.pointer (some ⟨bk pA0, bo pA0 + x649.toNat * 1, none⟩))) rfl (fun _ => Yields.idx (IdxAt.own hA667 jx658 jx659) ts22 rfl rfl) rfl rfl trivial (by rintro _ _ _ ⟨_, _, _, _, h, _⟩; cases h) (by kernel_rfl) (listed' := #[true, true, true, true, true, true, true, true, true, true, true, false, false, false]) rfl ?_
         refine StD.take [0, 1, 2, 4, 5, 7, 8, 10, 12, 13] (i := 11) (v := (.slice A663 x656.length c664)) rfl (Yields.load rfl (Loads.rA1 2 rfl tc26 (k662 0 _ rfl))) rfl rfl trivial Among.refl (by rintro _ _ _ ⟨_, _, _, _, h, _⟩; cases h) (by kernel_rfl) (listed' := #[true, true, true, true, true, true, true, true, true, true, true, true, false, false]) rfl ?_
         refine StD.takeP (i := 12) (v := (.int .i64 ((x656.length : Nat) : Int))) rfl (fun _ => Yields.lenSlice tu26 rfl) rfl rfl trivial (by rintro _ _ _ ⟨_, _, _, _, h, _⟩; cases h) (by kernel_rfl) (listed' := #[true, true, true, true, true, true, true, true, true, true, true, true, true, false]) rfl ?_
         refine StD.takeP (i := 13) (v := (.bool (decide (x642 < ((x656.length : Nat) : Int))))) rfl (fun _ => Yields.lt rfl rfl) rfl rfl trivial (by rintro _ _ _ ⟨_, _, _, _, h, _⟩; cases h) (by kernel_rfl) (listed' := #[true, true, true, true, true, true, true, true, true, true, true, true, true, true]) rfl ?_
         refine StD.done (by kernel_rfl) ?_
         refine St.norm ?_
         refine St.cond_b rfl ?_ ?_
         ·intro q668
          replace q668 : x642 < ((x656.length : Nat) : Int) := of_decide_eq_true q668
          replace hm := iT hm q668
          refine St.exit ?_
          refine St.thenexit ?_
          refine St.inpass rfl ?_
          refine St.thenexit ?_
          refine St.inexit ?_
          obtain rfl := sI hm
          obtain rfl := aR ho615
          intro a w ha hs
          exact ⟨A617, c618, cells639, h638, (Bnd.of_upd b621 e641), ha.covers ⟨rfl, rfl, rfl, rfl, rfl, rfl, rfl, trivial⟩, (Among.of (Among.take 1 rfl rfl (Among.take 1 rfl rfl (Among.take 1 rfl rfl (Among.take 0 rfl rfl (Among.take 0 rfl rfl Among.none))))) _ hs)⟩
         ·intro q669
          replace q669 : ¬ (x642 < ((x656.length : Nat) : Int)) := of_decide_eq_false q669
          replace hm := iF hm q669
          refine St.skip ?_
          refine St.norm ?_
          refine St.seq ?_
          refine St.region ?_
          refine St.val (v := (.slice A617 x640.length c618)) (Yields.move rfl) trivial rfl rfl ?_
          refine St.val (v := (.int .i64 s612.2)) (Yields.move rfl) trivial rfl rfl ?_
          obtain ⟨x670, e671, hm⟩ := bS hm
          obtain ⟨jx672, jx673, cs674, R675, k676⟩ := h638.idx e671
          obtain rfl := R675
          refine St.val (v := (.pointer (some ⟨bk A617, bo A617 + s612.2.toNat * 1, none⟩))) (Yields.idx (IdxAt.own hA630 jx672 jx673) ts26 rfl rfl) trivial rfl rfl ?_
          obtain ⟨x679, e680, hm⟩ := bS hm
          refine St.putK1 (R := [blk b5 (.cells #[.int .i64 a1.Kind, .slice pA1_0 a1.Vars.length pc1_0, .slice pA1_1 a1.A.length pc1_1, .int .i64 a1.B, .slice pA1_2 a1.Rows.length pc1_2] 28 (0, 0)), rowo pA0 a0.length pc0 26 1 pcl0, rowo A539 z537.length c540 76 30 cells542, rowo A98 z96.length c99 3 1 cells101]) e680 h638 (show ((Kind.int .i64)).R _ [.int .i64 0] 0 from rfl) rfl rfl rfl 0 rfl rfl tc3 rfl trivial ?_
          intro cells678 h677
          try rw [upd_len e680]
          refine St.nil ?_
          refine St.norm ?_
          refine St.region ?_
          refine St.val (v := (.int .i64 s612.2)) (Yields.move rfl) trivial rfl rfl ?_
          refine St.val (v := (.int .i64 (Mir.w64 (s612.2 - 1)))) (Yields.subw rfl rfl) trivial rfl rfl ?_
          refine St.val (v := (.int .i64 (Mir.w64 (s612.2 - 1)))) (Yields.assign rfl) trivial rfl rfl ?_
          refine St.nil ?_
          refine St.innorm ?_
          refine St.norm ?_
          obtain rfl := sI hm
          intro a w ha hs
          exact ⟨(x679, Mir.w64 (s612.2 - 1)), aL ho615, A617, c618, cells678, h677, (Bnd.of_upd (Bnd.of_upd b621 e641) e680), ha.covers ⟨rfl, rfl, rfl, rfl, rfl, rfl, rfl, trivial⟩, (Among.of (Among.take 1 rfl rfl (Among.take 1 rfl rfl (Among.take 1 rfl rfl (Among.take 0 rfl rfl (Among.take 0 rfl rfl Among.none))))) _ hs)⟩
        ·intro q681
         replace q681 : ¬ (s612.2 ≥ 0) := of_decide_eq_false q681
         replace hm := iF hm q681
         refine St.exit ?_
         refine St.thenexit ?_
         refine St.thenexit ?_
         refine St.inexit ?_
         obtain rfl := sI hm
         obtain rfl := aR ho615
         intro a w ha hs
         exact ⟨A617, c618, cells620, h619, b621, ha.covers ⟨rfl, rfl, rfl, rfl, rfl, rfl, rfl, trivial⟩, (Among.of (Among.take 0 rfl rfl (Among.take 0 rfl rfl (Among.take 0 rfl rfl (Among.take 0 rfl rfl (Among.take 0 rfl rfl Among.none))))) _ hs)⟩
      ·rintro a w ⟨A598, c599, cells601, h600, b602, ha, hs⟩
       replace hm := hk603
       refine St.use (?_ : St _ _ _ _ _ _) ha hs
       clear ha hs a w
       refine St.seq ?_
       refine St.region ?_
       refine St.val (v := (.int .i64 z596.2)) (Yields.move rfl) trivial rfl rfl ?_
       refine St.val (v := (.bool (decide (z596.2 < 0)))) (Yields.lt rfl rfl) trivial rfl rfl ?_
       refine St.nil ?_
       refine St.norm ?_
       refine St.cond_b rfl ?_ ?_
       ·intro q682
        replace q682 : z596.2 < 0 := of_decide_eq_true q682
        replace hm := iT hm q682
        refine St.seq ?_
        refine St.region ?_
        refine St.val (v := (.slice A539 z537.length c540)) (Yields.move rfl) trivial rfl rfl ?_
        refine St.val (v := (.slice A539 z537.length c540)) (Yields.assign rfl) trivial rfl rfl ?_
        refine St.nil ?_
        refine St.norm ?_
        refine St.ret ?_
        refine St.inret ?_
        refine St.thenret ?_
        refine St.inret ?_
        refine St.frz 2 rfl rfl rfl h541 b543 ?_
        intro F683 l684 h685
        obtain rfl := sI hm
        obtain rfl := aR ho73
        exact St.doneR1 rfl rfl ⟨A539, c540, rfl, h685, rfl⟩ (fun w hs => Among.of (Among.take 1 rfl rfl Among.none) w hs)
       ·intro q686
        replace q686 : ¬ (z596.2 < 0) := of_decide_eq_false q686
        replace hm := iF hm q686
        refine St.skip ?_
        refine St.innorm ?_
        refine St.norm ?_
        obtain rfl := sI hm
        intro a w ha hs
        exact ⟨(z537, z596.1, z96, (.c82 y198)), aL ho73, A539, c540, cells542, A598, c599, cells601, A98, c99, cells101, (.iface 82 (.agg #[.int .i64 y198.l.Kind, .slice A521 y198.l.Vars.length c522, .slice A524 y198.l.A.length c525, .int .i64 y198.l.B, .slice A527 y198.l.Rows.length c528])), F535, (PH.le_trans l95 l536), h541, b543, h600, b602, (Cat.mono l536 h100), b102, ⟨(.agg #[.int .i64 y198.l.Kind, .slice A521 y198.l.Vars.length c522, .slice A524 y198.l.A.length c525, .int .i64 y198.l.B, .slice A527 y198.l.Rows.length c528]), ⟨[.int .i64 y198.l.Kind, .slice A521 y198.l.Vars.length c522, .slice A524 y198.l.A.length c525, .int .i64 y198.l.B, .slice A527 y198.l.Rows.length c528], (DSum.of (Fsl.mono l536 h523) (Fsl.mono l536 h526) (Fsl.mono l536 h529)), rfl⟩, rfl⟩, ha.covers ⟨rfl, rfl, rfl, rfl, rfl, rfl, trivial⟩, (Among.of (Among.take 0 rfl rfl (Among.take 0 rfl rfl (Among.take 0 rfl rfl (Among.take 0 rfl rfl (Among.take 0 rfl rfl Among.none))))) _ hs)⟩

end Go.Proofs.Ytopmcncaanjboaa
