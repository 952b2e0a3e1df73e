/- Each function does what its plain words tell. -/
import Derived.Test.YtopmcncaanjboaaWFc
namespace Go.Proofs.Ytopmcncaanjboaa
open Go Go.Sy Go.RowKit
set_option linter.unusedVariables false
open Go.Mir
theorem m_domain_solver_next_sp {F : PH} {g : Nat} {a0 : List (List Int)} {a1 : List (List Int)} {a2 : List DLimit} {a3 : Int} {a4 : Int} {a5 : List (List Int)} {a6 : Int} {pbl0 : Nat} {pA0 : Option Addr} {pc0 : Nat} {pA1 : Option Addr} {pc1 : Nat} {pA2 : Option Addr} {pc2 : Nat} {pA5 : Option Addr} {pc5 : Nat} {pcl5 : List Value} (ph0 : Fsl 24 (Kind.sl 8 (Kind.int .i64)) F pA0 pc0 a0) (ph1 : Fsl 24 (Kind.sl 8 (Kind.int .i64)) F pA1 pc1 a1) (ph2 : Fsl 88 KDLimit F pA2 pc2 a2) (ph5 : Cat (Kind.sl 8 (Kind.int .i64)) F pcl5 a5) (pbd5 : Bnd 24 a5) {r : Int} (hm : m_domain_solver_next g a0 a1 a2 a3 a4 a5 a6 = some r) :
  CallSp Try.prog 53 #[.pointer (some ⟨pbl0, 0, none⟩), .slice pA0 a0.length pc0] F [blk pbl0 (.cells #[.slice pA1 a1.length pc1, .slice pA2 a2.length pc2, .int .i64 a3, .int .i64 a4, .slice pA5 a5.length pc5, .int .i64 a6] 62 (0, 0)), rowo pA5 a5.length pc5 26 1 pcl5] (fun u F' H' => u = (.int .i64 r) ∧ H' = [blk pbl0 (.cells #[.slice pA1 a1.length pc1, .slice pA2 a2.length pc2, .int .i64 a3, .int .i64 a4, .slice pA5 a5.length pc5, .int .i64 a6] 62 (0, 0)), rowo pA5 a5.length pc5 26 1 pcl5]) := by
 unfold m_domain_solver_next at hm
 refine CallSp.enter (args := [.pointer (some ⟨pbl0, 0, none⟩), .slice pA0 a0.length pc0]) Try.func53 rfl rfl ?_
 intro w0 m0 hm0
 refine St.seq ?_
 refine St.region ?_
 refine St.val (v := (.int .i64 0)) (Yields.assign rfl) trivial rfl rfl ?_
 refine St.nil ?_
 refine St.norm ?_
 refine St.seq ?_
 refine St.region ?_
 refine St.val (v := (.int .i64 (-1))) (Yields.assign rfl) trivial rfl rfl ?_
 refine St.nil ?_
 refine St.norm ?_
 obtain ⟨z5, hm, hk6⟩ := bS hm
 refine St.cutI (fun a w => Has Try.f53.ntmps a [(5, .int .i64 z5)] ∧ Sat ⟨w0, fun b => m0 b ≠ none, F⟩ F [blk pbl0 (.cells #[.slice pA1 a1.length pc1, .slice pA2 a2.length pc2, .int .i64 a3, .int .i64 a4, .slice pA5 a5.length pc5, .int .i64 a6] 62 (0, 0)), rowo pA5 a5.length pc5 26 1 pcl5] w) ?_ ?_
 ·skip
  refine St.seq ?_
  refine St.region ?_
  refine St.val (v := (.slice pA0 a0.length pc0)) (Yields.move rfl) trivial rfl rfl ?_
  refine St.val (v := (.int .i64 ((a0.length : Nat) : Int))) (Yields.lenSlice tu22 rfl) trivial rfl rfl ?_
  refine St.val (v := (.int .i64 0)) (Yields.move rfl) trivial rfl rfl ?_
  refine St.nil ?_
  refine St.norm ?_
  refine St.block ?_
  refine St.loopM hm (fun s9 a w => Has Try.f53.ntmps a [(0, .pointer (some ⟨pbl0, 0, none⟩)), (1, .slice pA0 a0.length pc0), (5, .int .i64 s9.1), (8, .slice pA0 a0.length pc0), (9, .int .i64 ((a0.length : Nat) : Int)), (10, .int .i64 ((s9.2 : Nat) : Int))] ∧ Sat ⟨w0, fun b => m0 b ≠ none, F⟩ F [blk pbl0 (.cells #[.slice pA1 a1.length pc1, .slice pA2 a2.length pc2, .int .i64 a3, .int .i64 a4, .slice pA5 a5.length pc5, .int .i64 a6] 62 (0, 0)), rowo pA5 a5.length pc5 26 1 pcl5] w) ?_ ?_
  ·skip
   intro a w ha hs
   exact ⟨ha.covers ⟨rfl, rfl, rfl, rfl, rfl, rfl, trivial⟩, (Among.of (Among.take 0 rfl rfl (Among.take 0 rfl rfl Among.none)) _ hs)⟩
  ·rintro s9 o10 co11 hm ho12 a w ⟨ha, hs⟩
   refine St.use (?_ : St _ _ _ _ _ _) ha hs
   clear ha hs a w
   refine St.seq ?_
   refine St.region ?_
   refine St.val (v := (.bool (decide (((s9.2 : Nat) : Int) < ((a0.length : Nat) : Int))))) (Yields.lt rfl rfl) trivial rfl rfl ?_
   refine St.nil ?_
   refine St.norm ?_
   refine St.seq ?_
   refine St.cond_b rfl ?_ ?_
   ·intro q13
    replace q13 : ((s9.2 : Nat) : Int) < ((a0.length : Nat) : Int) := of_decide_eq_true q13
    replace hm := iT hm q13
    refine St.skip ?_
    refine St.norm ?_
    obtain ⟨z14, hm, hk15⟩ := bS hm
    refine St.cutI (fun a w => Has Try.f53.ntmps a [(0, .pointer (some ⟨pbl0, 0, none⟩)), (1, .slice pA0 a0.length pc0), (5, .int .i64 z14), (8, .slice pA0 a0.length pc0), (9, .int .i64 ((a0.length : Nat) : Int)), (10, .int .i64 ((s9.2 : Nat) : Int))] ∧ Sat ⟨w0, fun b => m0 b ≠ none, F⟩ F [blk pbl0 (.cells #[.slice pA1 a1.length pc1, .slice pA2 a2.length pc2, .int .i64 a3, .int .i64 a4, .slice pA5 a5.length pc5, .int .i64 a6] 62 (0, 0)), rowo pA5 a5.length pc5 26 1 pcl5] w) ?_ ?_
    ·skip
     refine St.block ?_
     refine St.seq ?_
     refine St.region ?_
     refine St.val (v := (.int .i64 ((s9.2 : Nat) : Int))) (Yields.move rfl) trivial rfl rfl ?_
     obtain ⟨x16, e17, hm⟩ := bS hm
     obtain ⟨p18, cs19, jx20, R21, k22⟩ := ph0.nidx e17
     obtain ⟨A23, c24, rfl, h25⟩ := R21
     refine St.val (v := (.pointer (some p18))) (Yields.idx jx20 ts22 rfl rfl) trivial rfl rfl ?_
     refine St.val (v := (.slice A23 x16.length c24)) (Yields.load rfl (Loads.Fat k22 tc26 rfl)) trivial rfl rfl ?_
     refine St.val (v := (.int .i64 ((s9.2 : Nat) : Int))) (Yields.assign rfl) trivial rfl rfl ?_
     refine St.val (v := (.slice A23 x16.length c24)) (Yields.assign rfl) trivial rfl rfl ?_
     refine St.nil ?_
     refine St.norm ?_
     refine St.seq ?_
     refine St.seq ?_
     refine St.region ?_
     refine St.val (v := (.slice A23 x16.length c24)) (Yields.move rfl) trivial rfl rfl ?_
     refine St.val (v := (.int .i64 ((x16.length : Nat) : Int))) (Yields.lenSlice tu26 rfl) trivial rfl rfl ?_
     refine St.val (v := (.bool (decide (((x16.length : Nat) : Int) < 2)))) (Yields.lt rfl rfl) trivial rfl rfl ?_
     refine St.nil ?_
     refine St.norm ?_
     refine St.cond_b rfl ?_ ?_
     ·intro q27
      replace q27 : ((x16.length : Nat) : Int) < 2 := of_decide_eq_true q27
      replace hm := iT hm q27
      refine St.exit ?_
      refine St.thenexit ?_
      refine St.inexit ?_
      obtain rfl := sI hm
      intro a w ha hs
      exact ⟨ha.covers ⟨rfl, rfl, rfl, rfl, rfl, rfl, trivial⟩, (Among.of (Among.take 0 rfl rfl (Among.take 0 rfl rfl Among.none)) _ hs)⟩
     ·intro q28
      replace q28 : ¬ (((x16.length : Nat) : Int) < 2) := of_decide_eq_false q28
      replace hm := iF hm q28
      refine St.skip ?_
      refine St.norm ?_
      refine St.block ?_
      obtain ⟨z29, hm, hk30⟩ := bS hm
      refine St.cutI (fun a w => Has Try.f53.ntmps a [(0, .pointer (some ⟨pbl0, 0, none⟩)), (1, .slice pA0 a0.length pc0), (5, .int .i64 s9.1), (6, .int .i64 ((s9.2 : Nat) : Int)), (8, .slice pA0 a0.length pc0), (9, .int .i64 ((a0.length : Nat) : Int)), (10, .int .i64 ((s9.2 : Nat) : Int)), (18, .bool z29)] ∧ Sat ⟨w0, fun b => m0 b ≠ none, F⟩ F [blk pbl0 (.cells #[.slice pA1 a1.length pc1, .slice pA2 a2.length pc2, .int .i64 a3, .int .i64 a4, .slice pA5 a5.length pc5, .int .i64 a6] 62 (0, 0)), rowo pA5 a5.length pc5 26 1 pcl5] w) ?_ ?_
      ·skip
       refine St.seq ?_
       refine St.region ?_
       refine St.val (v := (.int .i64 s9.1)) (Yields.move rfl) trivial rfl rfl ?_
       refine St.val (v := (.bool (decide (s9.1 < 0)))) (Yields.lt rfl rfl) trivial rfl rfl ?_
       refine St.val (v := (.bool (decide (s9.1 < 0)))) (Yields.assign rfl) trivial rfl rfl ?_
       refine St.nil ?_
       refine St.norm ?_
       refine St.cond_b rfl ?_ ?_
       ·intro q31
        replace q31 : s9.1 < 0 := of_decide_eq_true q31
        replace hm := iT hm q31
        refine St.skip ?_
        obtain rfl := sI hm
        intro a w ha hs
        exact ⟨ha.covers ⟨rfl, rfl, rfl, rfl, rfl, rfl, rfl, rfl, trivial⟩, (Among.of (Among.take 0 rfl rfl (Among.take 0 rfl rfl Among.none)) _ hs)⟩
       ·intro q32
        replace q32 : ¬ (s9.1 < 0) := of_decide_eq_false q32
        replace hm := iF hm q32
        refine St.seq ?_
        refine St.region ?_
        refine St.val (v := (.pointer (some ⟨pbl0, 0, none⟩))) (Yields.move rfl) trivial rfl rfl ?_
        refine St.val (v := (.pointer (some ⟨pbl0, 0, none⟩))) (Yields.nilCheck rfl) trivial rfl rfl ?_
        refine St.val (v := (.pointer (some ⟨pbl0, 2, none⟩))) (Yields.fieldAddr (v := (.pointer (some ⟨pbl0, 2, none⟩))) rfl (fun _ => by kernel_rfl)) trivial rfl rfl ?_
        refine St.val (v := (.int .i64 a3)) (Yields.load rfl (Loads.H1 0 rfl tc3 rfl)) trivial rfl rfl ?_
        refine St.val (v := (.bool (decide (a3 = 2)))) (Yields.eq rfl rfl) trivial rfl rfl ?_
        refine St.val (v := (.bool (decide (a3 = 2)))) (Yields.assign rfl) trivial rfl rfl ?_
        refine St.nil ?_
        refine St.norm ?_
        refine St.cond_b rfl ?_ ?_
        ·intro q33
         replace q33 : a3 = 2 := of_decide_eq_true q33
         replace hm := iT hm q33
         refine St.skip ?_
         obtain rfl := sI hm
         intro a w ha hs
         exact ⟨ha.covers ⟨rfl, rfl, rfl, rfl, rfl, rfl, rfl, rfl, trivial⟩, (Among.of (Among.take 0 rfl rfl (Among.take 0 rfl rfl Among.none)) _ hs)⟩
        ·intro q34
         replace q34 : ¬ (a3 = 2) := of_decide_eq_false q34
         replace hm := iF hm q34
         refine St.region ?_
         refine St.val (v := (.pointer (some ⟨pbl0, 0, none⟩))) (Yields.move rfl) trivial rfl rfl ?_
         refine St.val (v := (.pointer (some ⟨pbl0, 0, none⟩))) (Yields.nilCheck rfl) trivial rfl rfl ?_
         refine St.val (v := (.pointer (some ⟨pbl0, 2, none⟩))) (Yields.fieldAddr (v := (.pointer (some ⟨pbl0, 2, none⟩))) rfl (fun _ => by kernel_rfl)) trivial rfl rfl ?_
         refine St.val (v := (.int .i64 a3)) (Yields.load rfl (Loads.H1 0 rfl tc3 rfl)) trivial rfl rfl ?_
         by_cases q35 : a3 = 1
         ·replace hm := iT hm q35
          refine St.val (v := (.bool true)) (Yields.is q35 (Yields.eq rfl rfl)) trivial rfl rfl ?_
          refine St.val (v := (.bool true)) (Yields.move rfl) trivial rfl rfl ?_
          refine St.val (v := (.slice A23 x16.length c24)) (Yields.move rfl) rfl rfl rfl ?_
          refine St.val (v := (.int .i64 ((x16.length : Nat) : Int))) (Yields.lenSlice tu26 rfl) rfl rfl rfl ?_
          refine St.val (v := (.slice pA0 a0.length pc0)) (Yields.move rfl) rfl rfl rfl ?_
          refine St.val (v := (.int .i64 s9.1)) (Yields.move rfl) rfl rfl rfl ?_
          obtain ⟨x36, e37, hm⟩ := bS hm
          obtain ⟨p38, cs39, jx40, R41, k42⟩ := ph0.idx e37
          obtain ⟨A43, c44, rfl, h45⟩ := R41
          refine St.val (v := (.pointer (some p38))) (Yields.idx jx40 ts22 rfl rfl) rfl rfl rfl ?_
          refine St.val (v := (.slice A43 x36.length c44)) (Yields.load rfl (Loads.Fat k42 tc26 rfl)) rfl rfl rfl ?_
          refine St.val (v := (.int .i64 ((x36.length : Nat) : Int))) (Yields.lenSlice tu26 rfl) rfl rfl rfl ?_
          refine St.val (v := (.bool (decide (((x16.length : Nat) : Int) < ((x36.length : Nat) : Int))))) (Yields.lt rfl rfl) rfl rfl rfl ?_
          refine St.val (v := (.bool (decide (((x16.length : Nat) : Int) < ((x36.length : Nat) : Int))))) (Yields.pick_t rfl rfl) trivial rfl rfl ?_
          refine St.val (v := (.bool (decide (((x16.length : Nat) : Int) < ((x36.length : Nat) : Int))))) (Yields.assign rfl) trivial rfl rfl ?_
          refine St.nil ?_
          obtain rfl := sI hm
          intro a w ha hs
          exact ⟨ha.covers ⟨rfl, rfl, rfl, rfl, rfl, rfl, rfl, rfl, trivial⟩, (Among.of (Among.take 0 rfl rfl (Among.take 0 rfl rfl Among.none)) _ hs)⟩
         ·replace hm := iF hm q35
          refine St.val (v := (.bool false)) (Yields.isnt q35 (Yields.eq rfl rfl)) trivial rfl rfl ?_
          refine St.val (v := (.bool false)) (Yields.move rfl) trivial rfl rfl ?_
          refine St.unwanted rfl rfl rfl ?_
          refine St.unwanted rfl rfl rfl ?_
          refine St.unwanted rfl rfl rfl ?_
          refine St.unwanted rfl rfl rfl ?_
          refine St.unwanted rfl rfl rfl ?_
          refine St.unwanted rfl rfl rfl ?_
          refine St.unwanted rfl rfl rfl ?_
          refine St.unwanted rfl rfl rfl ?_
          refine St.val (v := (.bool false)) (Yields.pick_f rfl rfl) trivial rfl rfl ?_
          refine St.val (v := (.bool false)) (Yields.assign rfl) trivial rfl rfl ?_
          refine St.nil ?_
          obtain rfl := sI hm
          intro a w ha hs
          exact ⟨ha.covers ⟨rfl, rfl, rfl, rfl, rfl, rfl, rfl, rfl, trivial⟩, (Among.of (Among.take 0 rfl rfl (Among.take 0 rfl rfl Among.none)) _ hs)⟩
      ·rintro a w ⟨ha, hs⟩
       replace hm := hk30
       refine St.use (?_ : St _ _ _ _ _ _) ha hs
       clear ha hs a w
       refine St.cond_b rfl ?_ ?_
       ·intro q47
        replace q47 : z29 = true := q47
        replace hm := iT hm q47
        refine St.region ?_
        refine St.val (v := (.int .i64 ((s9.2 : Nat) : Int))) (Yields.move rfl) trivial rfl rfl ?_
        refine St.val (v := (.int .i64 ((s9.2 : Nat) : Int))) (Yields.assign rfl) trivial rfl rfl ?_
        refine St.nil ?_
        refine St.innorm ?_
        refine St.innorm ?_
        obtain rfl := sI hm
        intro a w ha hs
        exact ⟨ha.covers ⟨rfl, rfl, rfl, rfl, rfl, rfl, trivial⟩, (Among.of (Among.take 0 rfl rfl (Among.take 0 rfl rfl Among.none)) _ hs)⟩
       ·intro q48
        replace q48 : ¬ (z29 = true) := bf q48
        replace hm := iF hm q48
        refine St.skip ?_
        refine St.innorm ?_
        refine St.innorm ?_
        obtain rfl := sI hm
        intro a w ha hs
        exact ⟨ha.covers ⟨rfl, rfl, rfl, rfl, rfl, rfl, trivial⟩, (Among.of (Among.take 0 rfl rfl (Among.take 0 rfl rfl Among.none)) _ hs)⟩
    ·rintro a w ⟨ha, hs⟩
     replace hm := hk15
     refine St.use (?_ : St _ _ _ _ _ _) ha hs
     clear ha hs a w
     refine St.region ?_
     refine St.val (v := (.int .i64 ((s9.2 + 1 : Nat) : Int))) (Yields.addn (j := 1) rfl rfl rfl (by have q_0 := q13; have q_1 := ph0.bnd.2; omega)) trivial rfl rfl ?_
     refine St.val (v := (.int .i64 ((s9.2 + 1 : Nat) : Int))) (Yields.move rfl) trivial rfl rfl ?_
     refine St.nil ?_
     refine St.norm ?_
     obtain rfl := sI hm
     intro a w ha hs
     exact ⟨(z14, s9.2 + 1), aL ho12, ha.covers ⟨rfl, rfl, rfl, rfl, rfl, rfl, trivial⟩, (Among.of (Among.take 0 rfl rfl (Among.take 0 rfl rfl Among.none)) _ hs)⟩
   ·intro q49
    replace q49 : ¬ (((s9.2 : Nat) : Int) < ((a0.length : Nat) : Int)) := of_decide_eq_false q49
    replace hm := iF hm q49
    refine St.exit ?_
    refine St.thenexit ?_
    refine St.thenexit ?_
    refine St.inexit ?_
    obtain rfl := sI hm
    obtain rfl := aR ho12
    intro a w ha hs
    exact ⟨ha.covers ⟨rfl, trivial⟩, (Among.of (Among.take 0 rfl rfl (Among.take 0 rfl rfl Among.none)) _ hs)⟩
 ·rintro a w ⟨ha, hs⟩
  replace hm := hk6
  refine St.use (?_ : St _ _ _ _ _ _) ha hs
  clear ha hs a w
  refine St.seq ?_
  refine St.region ?_
  refine St.val (v := (.int .i64 z5)) (Yields.move rfl) trivial rfl rfl ?_
  refine St.val (v := (.int .i64 z5)) (Yields.assign rfl) trivial rfl rfl ?_
  refine St.nil ?_
  refine St.norm ?_
  refine St.ret ?_
  obtain rfl := sI hm
  exact St.doneR1 rfl rfl ⟨rfl, rfl⟩ (fun w hs => Among.of (Among.take 0 rfl rfl (Among.take 0 rfl rfl Among.none)) w hs)

theorem m_domain_narrow_2_sp {F : PH} {g : Nat} {a0 : List (List Int)} {a1 : List DLimit} {pA0 : Option Addr} {pc0 : Nat} {pcl0 : List Value} {pA1 : Option Addr} {pc1 : Nat} (ph0 : Cat (Kind.sl 8 (Kind.int .i64)) F pcl0 a0) (pbd0 : Bnd 24 a0) (ph1 : Fsl 88 KDLimit F pA1 pc1 a1) {r : List (List Int) × Bool} (hm : m_domain_narrow_2 g a0 a1 = some r) :
  CallSp Try.prog 28 #[.slice pA0 a0.length pc0, .slice pA1 a1.length pc1] F [rowo pA0 a0.length pc0 26 1 pcl0] (fun u F' H' => ∃ (B0 : Option Addr) (d0 : Nat) (dl0 : List Value), u = (.tuple #[.slice B0 r.1.length d0, .bool r.2]) ∧ Cat (Kind.sl 8 (Kind.int .i64)) F' dl0 r.1 ∧ Bnd 24 r.1 ∧ H' = [rowo B0 r.1.length d0 26 1 dl0]) := by
 unfold m_domain_narrow_2 at hm
 refine CallSp.enter (args := [.slice pA0 a0.length pc0, .slice pA1 a1.length pc1]) Try.func28 rfl rfl ?_
 intro w0 m0 hm0
 refine St.seq ?_
 refine St.region ?_
 refine St.val (v := (.slice none 0 0)) (Yields.assign rfl) trivial rfl rfl ?_
 refine St.val (v := (.bool false)) (Yields.assign rfl) trivial rfl rfl ?_
 refine St.nil ?_
 refine St.norm ?_
 refine St.seq ?_
 refine St.region ?_
 refine St.val (v := (.slice pA0 a0.length pc0)) (Yields.move rfl) trivial rfl rfl ?_
 refine St.val (v := (.int .i64 ((a0.length : Nat) : Int))) (Yields.lenSlice tu22 rfl) trivial rfl rfl ?_
 obtain ⟨x3, e4, hm⟩ := bS hm
 refine St.makeK (D := (Kind.sl 8 (Kind.int .i64))) e4 ts22 tz26 rfl rfl ⟨_, _, rfl, Fsl.nil⟩ rfl rfl rfl trivial ?_
 intro g5 c6 cells7 h8 b9
 refine St.val (v := (.slice (some ⟨g5, 0, none⟩) x3.length c6)) (Yields.assign rfl) trivial rfl rfl ?_
 refine St.nil ?_
 refine St.norm ?_
 obtain ⟨o20, hm, ho21⟩ := jS hm
 refine St.cutI (fun a w => ∃ z11 : List (List Int), o20 = .inl z11 ∧ ∃ (A15 : Option Addr) (c16 : Nat) (cells18 : List Value) (F12 : PH), PH.le F F12 ∧ Cat (Kind.sl 8 (Kind.int .i64)) F12 cells18 z11 ∧ Bnd 24 z11 ∧ Has Try.f28.ntmps a [(1, .slice pA1 a1.length pc1), (6, .slice A15 z11.length c16)] ∧ Sat ⟨w0, fun b => m0 b ≠ none, F⟩ F12 [rowo A15 z11.length c16 26 1 cells18] w) ?_ ?_
 ·skip
  refine St.seq ?_
  refine St.region ?_
  refine St.val (v := (.slice pA0 a0.length pc0)) (Yields.move rfl) trivial rfl rfl ?_
  refine St.val (v := (.int .i64 ((a0.length : Nat) : Int))) (Yields.lenSlice tu22 rfl) trivial rfl rfl ?_
  refine St.val (v := (.int .i64 0)) (Yields.move rfl) trivial rfl rfl ?_
  refine St.nil ?_
  refine St.norm ?_
  refine St.block ?_
  refine St.loopM hm (fun s31 a w => ∃ (A36 : Option Addr) (c37 : Nat) (cells39 : List Value) (F41 : PH), PH.le F F41 ∧ Cat (Kind.sl 8 (Kind.int .i64)) F41 cells39 s31.1 ∧ Bnd 24 s31.1 ∧ Has Try.f28.ntmps a [(1, .slice pA1 a1.length pc1), (6, .slice A36 s31.1.length c37), (21, .slice pA0 a0.length pc0), (22, .int .i64 ((a0.length : Nat) : Int)), (23, .int .i64 ((s31.2 : Nat) : Int))] ∧ Sat ⟨w0, fun b => m0 b ≠ none, F⟩ F41 [rowo pA0 a0.length pc0 26 1 pcl0, rowo A36 s31.1.length c37 26 1 cells39] w) ?_ ?_
  ·skip
   intro a w ha hs
   exact ⟨(some ⟨g5, 0, none⟩), c6, cells7, F, (PH.le_refl _), h8, b9, ha.covers ⟨rfl, rfl, rfl, rfl, rfl, trivial⟩, (Among.of (Among.take 1 rfl rfl (Among.take 0 rfl rfl Among.none)) _ hs)⟩
  ·rintro s31 o32 co33 hm ho34 a w ⟨A36, c37, cells39, F41, l42, h38, b40, ha, hs⟩
   refine St.use (?_ : St _ _ _ _ _ _) ha hs
   clear ha hs a w
   refine St.seq ?_
   refine St.region ?_
   refine St.val (v := (.bool (decide (((s31.2 : Nat) : Int) < ((a0.length : Nat) : Int))))) (Yields.lt rfl rfl) trivial rfl rfl ?_
   refine St.nil ?_
   refine St.norm ?_
   refine St.seq ?_
   refine St.cond_b rfl ?_ ?_
   ·intro q43
    replace q43 : ((s31.2 : Nat) : Int) < ((a0.length : Nat) : Int) := of_decide_eq_true q43
    replace hm := iT hm q43
    refine St.skip ?_
    refine St.norm ?_
    refine St.seq ?_
    refine St.block ?_
    refine St.seq ?_
    refine St.region ?_
    refine St.val (v := (.int .i64 ((s31.2 : Nat) : Int))) (Yields.move rfl) trivial rfl rfl ?_
    obtain ⟨x44, e45, hm⟩ := bS hm
    obtain ⟨jx46, jx47, cs48, R49, k50⟩ := (Cat.mono l42 ph0).nidx e45
    obtain ⟨A51, c52, rfl, h53⟩ := R49
    refine St.rowo_at 0 rfl (by omega) ?_
    intro hA55
    refine St.val (v := (.pointer (some ⟨bk pA0, bo pA0 + (s31.2 : Int).toNat * 1, none⟩))) (Yields.idx (IdxAt.own hA55 jx46 jx47) ts22 rfl rfl) trivial rfl rfl ?_
    refine St.val (v := (.slice A51 x44.length c52)) (Yields.load rfl (Loads.rA1 0 rfl tc26 (k50 0 _ rfl))) trivial rfl rfl ?_
    refine St.val (v := (.int .i64 ((s31.2 : Nat) : Int))) (Yields.assign rfl) trivial rfl rfl ?_
    refine St.val (v := (.slice A51 x44.length c52)) (Yields.assign rfl) trivial rfl rfl ?_
    refine St.nil ?_
    refine St.norm ?_
    refine St.seq ?_
    refine St.region ?_
    refine St.val (v := (.slice A36 s31.1.length c37)) (Yields.move rfl) trivial rfl rfl ?_
    refine St.val (v := (.int .i64 ((s31.2 : Nat) : Int))) (Yields.move rfl) trivial rfl rfl ?_
    refine St.val (v := (.slice A51 x44.length c52)) (Yields.move rfl) trivial rfl rfl ?_
    refine St.rowo_new 3 1 ?_
    obtain ⟨x61, e62, hm⟩ := bS hm
    refine St.pushS (R := [rowo pA0 a0.length pc0 26 1 pcl0, rowo A36 s31.1.length c37 26 1 cells39]) e62 ts26 rfl rfl rfl rfl 0 rfl rfl (show Cat (Kind.int .i64) _ [] [] from rfl) h53 rfl trivial ?_
    intro A57 c58 cells59 h60
    obtain ⟨x64, e65, hm⟩ := bS hm
    obtain ⟨jx66, jx67, cs68, R69, k70⟩ := h38.nidx e65
    obtain ⟨A71, c72, rfl, h73⟩ := R69
    refine St.rowo_at 2 rfl (by omega) ?_
    intro hA75
    refine St.val (v := (.pointer (some ⟨bk A36, bo A36 + (s31.2 : Int).toNat * 1, none⟩))) (Yields.idx (IdxAt.own hA75 jx66 jx67) ts22 rfl rfl) trivial rfl rfl ?_
    refine St.frz 0 rfl rfl rfl h60 (Bnd.of_push e62) ?_
    intro F76 l77 h78
    obtain ⟨x81, e82, hm⟩ := bS hm
    refine St.putK1 (R := [rowo pA0 a0.length pc0 26 1 pcl0]) e82 (Cat.mono l77 h38) (show ((Kind.sl 8 (Kind.int .i64))).R _ [.slice A57 x61.length c58] x61 from ⟨_, _, rfl, h78⟩) rfl rfl rfl 1 rfl rfl tc26 rfl trivial ?_
    intro cells80 h79
    try rw [upd_len e82]
    refine St.nil ?_
    refine St.norm ?_
    refine St.seq ?_
    refine St.region ?_
    refine St.val (v := (.slice A51 x44.length c52)) (Yields.move rfl) trivial rfl rfl ?_
    refine St.val (v := (.int .i64 ((x44.length : Nat) : Int))) (Yields.lenSlice tu26 rfl) trivial rfl rfl ?_
    refine St.val (v := (.bool (decide (((x44.length : Nat) : Int) = 0)))) (Yields.eq rfl rfl) trivial rfl rfl ?_
    refine St.nil ?_
    refine St.norm ?_
    refine St.cond_b rfl ?_ ?_
    ·intro q83
     replace q83 : ((x44.length : Nat) : Int) = 0 := of_decide_eq_true q83
     replace hm := iT hm q83
     refine St.seq ?_
     refine St.region ?_
     refine St.val (v := (.slice none 0 0)) (Yields.assign rfl) trivial rfl rfl ?_
     refine St.val (v := (.bool false)) (Yields.assign rfl) trivial rfl rfl ?_
     refine St.nil ?_
     refine St.norm ?_
     refine St.ret ?_
     refine St.inret ?_
     refine St.thenret ?_
     refine St.thenret ?_
     refine St.inret ?_
     refine St.thenret ?_
     refine St.rowo_new 26 1 ?_
     obtain rfl := sI hm
     obtain rfl := aR ho34
     obtain rfl := aR ho21
     exact St.doneR2 rfl rfl rfl ⟨none, 0, [], rfl, (show Cat (Kind.sl 8 (Kind.int .i64)) _ [] [] from rfl), Bnd.of_nil, rfl⟩ (fun w hs => Among.of (Among.take 0 rfl rfl Among.none) w hs)
    ·intro q85
     replace q85 : ¬ (((x44.length : Nat) : Int) = 0) := of_decide_eq_false q85
     replace hm := iF hm q85
     refine St.skip ?_
     refine St.innorm ?_
     refine St.norm ?_
     refine St.region ?_
     refine St.val (v := (.int .i64 ((s31.2 + 1 : Nat) : Int))) (Yields.addn (j := 1) rfl rfl rfl (by have q_0 := q43; have q_1 := pbd0.2; omega)) trivial rfl rfl ?_
     refine St.val (v := (.int .i64 ((s31.2 + 1 : Nat) : Int))) (Yields.move rfl) trivial rfl rfl ?_
     refine St.nil ?_
     refine St.norm ?_
     obtain rfl := sI hm
     intro a w ha hs
     exact ⟨(x81, s31.2 + 1), aL ho34, A36, c37, cells80, F76, (PH.le_trans l42 l77), h79, (Bnd.of_upd b40 e82), ha.covers ⟨rfl, rfl, rfl, rfl, rfl, trivial⟩, (Among.of (Among.take 1 rfl rfl (Among.take 0 rfl rfl Among.none)) _ hs)⟩
   ·intro q86
    replace q86 : ¬ (((s31.2 : Nat) : Int) < ((a0.length : Nat) : Int)) := of_decide_eq_false q86
    replace hm := iF hm q86
    refine St.exit ?_
    refine St.thenexit ?_
    refine St.thenexit ?_
    refine St.inexit ?_
    obtain rfl := sI hm
    obtain rfl := aR ho34
    intro a w ha hs
    exact ⟨s31.1, rfl, A36, c37, cells39, F41, l42, h38, b40, ha.covers ⟨rfl, rfl, trivial⟩, (Among.of (Among.take 1 rfl rfl Among.none) _ hs)⟩
 ·rintro a w ⟨z11, rfl, A15, c16, cells18, F12, l13, h17, b19, ha, hs⟩
  replace hm := aL ho21
  refine St.use (?_ : St _ _ _ _ _ _) ha hs
  clear ha hs a w
  obtain ⟨o96, hm, ho97⟩ := jS hm
  refine St.cutI (fun a w => ∃ z87 : List (List Int), o96 = .inl z87 ∧ ∃ (A91 : Option Addr) (c92 : Nat) (cells94 : List Value) (F88 : PH), PH.le F12 F88 ∧ Cat (Kind.sl 8 (Kind.int .i64)) F88 cells94 z87 ∧ Bnd 24 z87 ∧ Has Try.f28.ntmps a [(6, .slice A91 z87.length c92)] ∧ Sat ⟨w0, fun b => m0 b ≠ none, F⟩ F88 [rowo A91 z87.length c92 26 1 cells94] w) ?_ ?_
  ·skip
   refine St.seq ?_
   refine St.region ?_
   refine St.val (v := (.bool true)) (Yields.assign rfl) trivial rfl rfl ?_
   refine St.nil ?_
   refine St.norm ?_
   refine St.block ?_
   refine St.loopM hm (fun s107 a w => ∃ (A112 : Option Addr) (c113 : Nat) (cells115 : List Value) (F117 : PH), PH.le F12 F117 ∧ Cat (Kind.sl 8 (Kind.int .i64)) F117 cells115 s107.1 ∧ Bnd 24 s107.1 ∧ Has Try.f28.ntmps a [(1, .slice pA1 a1.length pc1), (6, .slice A112 s107.1.length c113), (9, .bool s107.2)] ∧ Sat ⟨w0, fun b => m0 b ≠ none, F⟩ F117 [rowo A112 s107.1.length c113 26 1 cells115] w) ?_ ?_
   ·skip
    intro a w ha hs
    exact ⟨A15, c16, cells18, F12, (PH.le_refl _), h17, b19, ha.covers ⟨rfl, rfl, rfl, trivial⟩, (Among.of (Among.take 0 rfl rfl Among.none) _ hs)⟩
   ·rintro s107 o108 co109 hm ho110 a w ⟨A112, c113, cells115, F117, l118, h114, b116, ha, hs⟩
    refine St.use (?_ : St _ _ _ _ _ _) ha hs
    clear ha hs a w
    refine St.seq ?_
    refine St.seq ?_
    refine St.region ?_
    refine St.val (v := (.bool s107.2)) (Yields.move rfl) trivial rfl rfl ?_
    refine St.nil ?_
    refine St.norm ?_
    refine St.cond_b rfl ?_ ?_
    ·intro q119
     replace q119 : s107.2 = true := q119
     replace hm := iT hm q119
     refine St.skip ?_
     refine St.norm ?_
     refine St.block ?_
     refine St.seq ?_
     refine St.region ?_
     refine St.val (v := (.bool false)) (Yields.assign rfl) trivial rfl rfl ?_
     refine St.nil ?_
     refine St.norm ?_
     refine St.seq ?_
     refine St.region ?_
     refine St.val (v := (.slice pA1 a1.length pc1)) (Yields.move rfl) trivial rfl rfl ?_
     refine St.val (v := (.int .i64 ((a1.length : Nat) : Int))) (Yields.lenSlice tu23 rfl) trivial rfl rfl ?_
     refine St.val (v := (.int .i64 0)) (Yields.move rfl) trivial rfl rfl ?_
     refine St.nil ?_
     refine St.norm ?_
     refine St.block ?_
     refine St.loopM hm (fun s130 a w => ∃ (A135 : Option Addr) (c136 : Nat) (cells138 : List Value) (F140 : PH), PH.le F117 F140 ∧ Cat (Kind.sl 8 (Kind.int .i64)) F140 cells138 s130.1 ∧ Bnd 24 s130.1 ∧ Has Try.f28.ntmps a [(1, .slice pA1 a1.length pc1), (6, .slice A135 s130.1.length c136), (9, .bool s130.2.1), (38, .slice pA1 a1.length pc1), (39, .int .i64 ((a1.length : Nat) : Int)), (40, .int .i64 ((s130.2.2 : Nat) : Int))] ∧ Sat ⟨w0, fun b => m0 b ≠ none, F⟩ F140 [rowo A135 s130.1.length c136 26 1 cells138] w) ?_ ?_
     ·skip
      intro a w ha hs
      exact ⟨A112, c113, cells115, F117, (PH.le_refl _), h114, b116, ha.covers ⟨rfl, rfl, rfl, rfl, rfl, rfl, trivial⟩, (Among.of (Among.take 0 rfl rfl Among.none) _ hs)⟩
     ·rintro s130 o131 co132 hm ho133 a w ⟨A135, c136, cells138, F140, l141, h137, b139, ha, hs⟩
      refine St.use (?_ : St _ _ _ _ _ _) ha hs
      clear ha hs a w
      refine St.seq ?_
      refine St.region ?_
      refine St.val (v := (.bool (decide (((s130.2.2 : Nat) : Int) < ((a1.length : Nat) : Int))))) (Yields.lt rfl rfl) trivial rfl rfl ?_
      refine St.nil ?_
      refine St.norm ?_
      refine St.seq ?_
      refine St.cond_b rfl ?_ ?_
      ·intro q142
       replace q142 : ((s130.2.2 : Nat) : Int) < ((a1.length : Nat) : Int) := of_decide_eq_true q142
       replace hm := iT hm q142
       refine St.skip ?_
       refine St.norm ?_
       obtain ⟨o152, hm, ho153⟩ := jS hm
       refine St.cutI (fun a w => ∃ z143 : List (List Int) × Bool, o152 = .inl z143 ∧ ∃ (A147 : Option Addr) (c148 : Nat) (cells150 : List Value) (F144 : PH), PH.le F140 F144 ∧ Cat (Kind.sl 8 (Kind.int .i64)) F144 cells150 z143.1 ∧ Bnd 24 z143.1 ∧ Has Try.f28.ntmps a [(1, .slice pA1 a1.length pc1), (6, .slice A147 z143.1.length c148), (9, .bool z143.2), (38, .slice pA1 a1.length pc1), (39, .int .i64 ((a1.length : Nat) : Int)), (40, .int .i64 ((s130.2.2 : Nat) : Int))] ∧ Sat ⟨w0, fun b => m0 b ≠ none, F⟩ F144 [rowo A147 z143.1.length c148 26 1 cells150] w) ?_ ?_
       ·skip
        refine St.block ?_
        refine St.seq ?_
        refine St.region ?_
        obtain ⟨x154, e155, hm⟩ := bS hm
        obtain ⟨p156, cs157, jx158, R159, k160⟩ := (Fsl.mono (PH.le_trans l13 (PH.le_trans l118 l141)) ph1).nidx e155
        obtain ⟨A161, c162, A164, c165, A167, c168, rfl, h163, h166, h169⟩ := DLimit.opn R159
        refine St.val (v := (.pointer (some p156))) (Yields.idx jx158 ts23 rfl rfl) trivial rfl rfl ?_
        refine St.val (v := (.agg #[.int .i64 x154.Kind, .slice A161 x154.Vars.length c162, .slice A164 x154.A.length c165, .int .i64 x154.B, .slice A167 x154.Rows.length c168])) (Yields.load rfl (Loads.Fatn0 k160 ta28)) trivial rfl rfl ?_
        refine St.alloc tz28 trivial rfl ?_
        intro b173
        refine St.storen (R := [rowo A135 s130.1.length c136 26 1 cells138]) rfl rfl 0 rfl rfl ta28 rfl rfl rfl trivial (cs' := #[.int .i64 x154.Kind, .slice A161 x154.Vars.length c162, .slice A164 x154.A.length c165, .int .i64 x154.B, .slice A167 x154.Rows.length c168]) rfl ?_
        refine St.nil ?_
        refine St.norm ?_
        refine St.seq ?_
        refine St.seq ?_
        refine St.region ?_
        refine St.val (v := (.pointer (some ⟨b173, 1, none⟩))) (Yields.fieldAddr (v := (.pointer (some ⟨b173, 1, none⟩))) rfl (fun _ => by kernel_rfl)) trivial rfl rfl ?_
        refine St.val (v := (.slice A161 x154.Vars.length c162)) (Yields.load rfl (Loads.H1 0 rfl tc26 rfl)) trivial rfl rfl ?_
        refine St.val (v := (.int .i64 ((x154.Vars.length : Nat) : Int))) (Yields.lenSlice tu26 rfl) trivial rfl rfl ?_
        refine St.val (v := (.bool (decide (((x154.Vars.length : Nat) : Int) = 0)))) (Yields.eq rfl rfl) trivial rfl rfl ?_
        refine St.nil ?_
        refine St.norm ?_
        refine St.cond_b rfl ?_ ?_
        ·intro q174
         replace q174 : ((x154.Vars.length : Nat) : Int) = 0 := of_decide_eq_true q174
         replace hm := iT hm q174
         obtain ⟨o178, hm, ho179⟩ := jS hm
         refine St.cutI (fun a w => ∃ z175 : Unit, o178 = .inl z175 ∧ ∃ (F176 : PH), PH.le F140 F176 ∧ Has Try.f28.ntmps a [(1, .slice pA1 a1.length pc1), (6, .slice A135 s130.1.length c136), (9, .bool s130.2.1), (38, .slice pA1 a1.length pc1), (39, .int .i64 ((a1.length : Nat) : Int)), (40, .int .i64 ((s130.2.2 : Nat) : Int))] ∧ Sat ⟨w0, fun b => m0 b ≠ none, F⟩ F176 [rowo A135 s130.1.length c136 26 1 cells138] w) ?_ ?_
         ·skip
          refine St.seq ?_
          refine St.region ?_
          refine St.val (v := (.agg #[.int .i64 x154.Kind, .slice A161 x154.Vars.length c162, .slice A164 x154.A.length c165, .int .i64 x154.B, .slice A167 x154.Rows.length c168])) (Yields.load rfl (Loads.Hk (vs := [.int .i64 x154.Kind, .slice A161 x154.Vars.length c162, .slice A164 x154.A.length c165, .int .i64 x154.B, .slice A167 x154.Rows.length c168]) 0 rfl ta28 rfl rfl)) trivial rfl rfl ?_
          obtain ⟨q180, e181, hm⟩ := bS hm
          refine St.call [blk b173 (.cells #[.int .i64 x154.Kind, .slice A161 x154.Vars.length c162, .slice A164 x154.A.length c165, .int .i64 x154.B, .slice A167 x154.Rows.length c168] 28 (0, 0)), rowo A135 s130.1.length c136 26 1 cells138] (m_domain_of_sp (a0 := x154) h163 h166 h169 e181) rfl (fun _ ha => ev1 ha rfl) rfl en34 rfl rfl trivial ?_
          rintro v184 F182 _ ⟨_, rfl, h185, rfl⟩ l183
          rcases ILimit.cases q180 with hx186 | ⟨y187, hx186⟩ | ⟨y188, hx186⟩ | ⟨y189, hx186⟩
          ·have h190 := h185
           rw [hx186] at hm h190; rw [ILimit.on_nil] at hm
           obtain rfl : v184 = .nilIface := h190
           exact nomatch (show (none : Option _) = some _ from hm)
          ·have h190 := h185
           rw [hx186] at hm h190; rw [ILimit.on_c78] at hm
           obtain ⟨cs191, R192, rfl⟩ := Ival.agg h190
           obtain rfl := DApart.opn R192
           obtain ⟨q194, e195, hm⟩ := bS hm
           refine St.invoke [blk b173 (.cells #[.int .i64 x154.Kind, .slice A161 x154.Vars.length c162, .slice A164 x154.A.length c165, .int .i64 x154.B, .slice A167 x154.Rows.length c168] 28 (0, 0)), rowo A135 s130.1.length c136 26 1 cells138] (m_domain_apart_holds_sp (a0 := (DApart.mk)) Fsl.nil e195) rfl (fun _ ha => ev1 ha rfl) rfl iv78_holds rfl rfl trivial ?_
           rintro _ F196 _ ⟨rfl, rfl⟩ l197
           refine St.val (v := (.bool (!q194))) (Yields.not rfl) trivial rfl rfl ?_
           refine St.nil ?_
           refine St.norm ?_
           refine St.cond_b rfl ?_ ?_
           ·intro q198
            replace q198 : ¬ (q194 = true) := nb_t q198
            replace hm := iF hm q198
            refine St.seq ?_
            refine St.region ?_
            refine St.val (v := (.slice none 0 0)) (Yields.assign rfl) trivial rfl rfl ?_
            refine St.val (v := (.bool false)) (Yields.assign rfl) trivial rfl rfl ?_
            refine St.nil ?_
            refine St.norm ?_
            refine St.ret ?_
            refine St.thenret ?_
            refine St.thenret ?_
            refine St.inret ?_
            refine St.thenret ?_
            refine St.thenret ?_
            refine St.inret ?_
            refine St.inret ?_
            refine St.thenret ?_
            refine St.inret ?_
            refine St.thenret ?_
            refine St.rowo_new 26 1 ?_
            obtain rfl := sI hm
            obtain rfl := aR ho179
            obtain rfl := aR ho153
            obtain rfl := aR ho133
            obtain rfl := aR ho110
            obtain rfl := aR ho97
            exact St.doneR2 rfl rfl rfl ⟨none, 0, [], rfl, (show Cat (Kind.sl 8 (Kind.int .i64)) _ [] [] from rfl), Bnd.of_nil, rfl⟩ (fun w hs => Among.of (Among.take 0 rfl rfl Among.none) w hs)
           ·intro q200
            replace q200 : q194 = true := nb_f q200
            replace hm := iT hm q200
            refine St.skip ?_
            obtain rfl := sI hm
            intro a w ha hs
            exact ⟨(), rfl, F196, (PH.le_trans l183 l197), ha.covers ⟨rfl, rfl, rfl, rfl, rfl, rfl, trivial⟩, (Among.of (Among.take 1 rfl rfl Among.none) _ hs)⟩
          ·have h190 := h185
           rw [hx186] at hm h190; rw [ILimit.on_c80] at hm
           obtain ⟨cs201, R202, rfl⟩ := Ival.agg h190
           obtain ⟨A204, c205, rfl, h206⟩ := DTable.opn R202
           obtain ⟨q208, e209, hm⟩ := bS hm
           refine St.invoke [blk b173 (.cells #[.int .i64 x154.Kind, .slice A161 x154.Vars.length c162, .slice A164 x154.A.length c165, .int .i64 x154.B, .slice A167 x154.Rows.length c168] 28 (0, 0)), rowo A135 s130.1.length c136 26 1 cells138] (m_domain_table_holds_sp (a0 := y188) h206 Fsl.nil e209) rfl (fun _ ha => ev1 ha rfl) rfl iv80_holds rfl rfl trivial ?_
           rintro _ F210 _ ⟨rfl, rfl⟩ l211
           refine St.val (v := (.bool (!q208))) (Yields.not rfl) trivial rfl rfl ?_
           refine St.nil ?_
           refine St.norm ?_
           refine St.cond_b rfl ?_ ?_
           ·intro q212
            replace q212 : ¬ (q208 = true) := nb_t q212
            replace hm := iF hm q212
            refine St.seq ?_
            refine St.region ?_
            refine St.val (v := (.slice none 0 0)) (Yields.assign rfl) trivial rfl rfl ?_
            refine St.val (v := (.bool false)) (Yields.assign rfl) trivial rfl rfl ?_
            refine St.nil ?_
            refine St.norm ?_
            refine St.ret ?_
            refine St.thenret ?_
            refine St.thenret ?_
            refine St.inret ?_
            refine St.thenret ?_
            refine St.thenret ?_
            refine St.inret ?_
            refine St.inret ?_
            refine St.thenret ?_
            refine St.inret ?_
            refine St.thenret ?_
            refine St.rowo_new 26 1 ?_
            obtain rfl := sI hm
            obtain rfl := aR ho179
            obtain rfl := aR ho153
            obtain rfl := aR ho133
            obtain rfl := aR ho110
            obtain rfl := aR ho97
            exact St.doneR2 rfl rfl rfl ⟨none, 0, [], rfl, (show Cat (Kind.sl 8 (Kind.int .i64)) _ [] [] from rfl), Bnd.of_nil, rfl⟩ (fun w hs => Among.of (Among.take 0 rfl rfl Among.none) w hs)
           ·intro q214
            replace q214 : q208 = true := nb_f q214
            replace hm := iT hm q214
            refine St.skip ?_
            obtain rfl := sI hm
            intro a w ha hs
            exact ⟨(), rfl, F210, (PH.le_trans l183 l211), ha.covers ⟨rfl, rfl, rfl, rfl, rfl, rfl, trivial⟩, (Among.of (Among.take 1 rfl rfl Among.none) _ hs)⟩
          ·have h190 := h185
           rw [hx186] at hm h190; rw [ILimit.on_c82] at hm
           obtain ⟨cs215, R216, rfl⟩ := Ival.agg h190
           obtain ⟨A218, c219, A221, c222, A224, c225, rfl, h220, h223, h226⟩ := DSum.opn R216
           obtain ⟨q230, e231, hm⟩ := bS hm
           refine St.invoke [blk b173 (.cells #[.int .i64 x154.Kind, .slice A161 x154.Vars.length c162, .slice A164 x154.A.length c165, .int .i64 x154.B, .slice A167 x154.Rows.length c168] 28 (0, 0)), rowo A135 s130.1.length c136 26 1 cells138] (m_domain_sum_holds_sp (a0 := y189) h220 h223 h226 Fsl.nil e231) rfl (fun _ ha => ev1 ha rfl) rfl iv82_holds rfl rfl trivial ?_
           rintro _ F232 _ ⟨rfl, rfl⟩ l233
           refine St.val (v := (.bool (!q230))) (Yields.not rfl) trivial rfl rfl ?_
           refine St.nil ?_
           refine St.norm ?_
           refine St.cond_b rfl ?_ ?_
           ·intro q234
            replace q234 : ¬ (q230 = true) := nb_t q234
            replace hm := iF hm q234
            refine St.seq ?_
            refine St.region ?_
            refine St.val (v := (.slice none 0 0)) (Yields.assign rfl) trivial rfl rfl ?_
            refine St.val (v := (.bool false)) (Yields.assign rfl) trivial rfl rfl ?_
            refine St.nil ?_
            refine St.norm ?_
            refine St.ret ?_
            refine St.thenret ?_
            refine St.thenret ?_
            refine St.inret ?_
            refine St.thenret ?_
            refine St.thenret ?_
            refine St.inret ?_
            refine St.inret ?_
            refine St.thenret ?_
            refine St.inret ?_
            refine St.thenret ?_
            refine St.rowo_new 26 1 ?_
            obtain rfl := sI hm
            obtain rfl := aR ho179
            obtain rfl := aR ho153
            obtain rfl := aR ho133
            obtain rfl := aR ho110
            obtain rfl := aR ho97
            exact St.doneR2 rfl rfl rfl ⟨none, 0, [], rfl, (show Cat (Kind.sl 8 (Kind.int .i64)) _ [] [] from rfl), Bnd.of_nil, rfl⟩ (fun w hs => Among.of (Among.take 0 rfl rfl Among.none) w hs)
           ·intro q236
            replace q236 : q230 = true := nb_f q236
            replace hm := iT hm q236
            refine St.skip ?_
            obtain rfl := sI hm
            intro a w ha hs
            exact ⟨(), rfl, F232, (PH.le_trans l183 l233), ha.covers ⟨rfl, rfl, rfl, rfl, rfl, rfl, trivial⟩, (Among.of (Among.take 1 rfl rfl Among.none) _ hs)⟩
         ·rintro a w ⟨z175, rfl, F176, l177, ha, hs⟩
          replace hm := aL ho179
          refine St.use (?_ : St _ _ _ _ _ _) ha hs
          clear ha hs a w
          refine St.exit ?_
          refine St.thenexit ?_
          refine St.inexit ?_
          obtain rfl := sI hm
          intro a w ha hs
          exact ⟨(s130.1, s130.2.1), rfl, A135, c136, cells138, F176, l177, (Cat.mono l177 h137), b139, ha.covers ⟨rfl, rfl, rfl, rfl, rfl, rfl, trivial⟩, (Among.of (Among.take 0 rfl rfl Among.none) _ hs)⟩
        ·intro q237
         replace q237 : ¬ (((x154.Vars.length : Nat) : Int) = 0) := of_decide_eq_false q237
         replace hm := iF hm q237
         refine St.skip ?_
         refine St.norm ?_
         refine St.seq ?_
         refine St.region ?_
         refine St.val (v := (.slice A135 s130.1.length c136)) (Yields.move rfl) trivial rfl rfl ?_
         refine St.val (v := (.agg #[.int .i64 x154.Kind, .slice A161 x154.Vars.length c162, .slice A164 x154.A.length c165, .int .i64 x154.B, .slice A167 x154.Rows.length c168])) (Yields.load rfl (Loads.Hk (vs := [.int .i64 x154.Kind, .slice A161 x154.Vars.length c162, .slice A164 x154.A.length c165, .int .i64 x154.B, .slice A167 x154.Rows.length c168]) 0 rfl ta28 rfl rfl)) trivial rfl rfl ?_
         refine St.pick (R := [blk b173 (.cells #[.int .i64 x154.Kind, .slice A161 x154.Vars.length c162, .slice A164 x154.A.length c165, .int .i64 x154.B, .slice A167 x154.Rows.length c168] 28 (0, 0))]) 1 rfl rfl ?_
         obtain ⟨q238, e239, hm⟩ := bS hm
         refine St.call [blk b173 (.cells #[.int .i64 x154.Kind, .slice A161 x154.Vars.length c162, .slice A164 x154.A.length c165, .int .i64 x154.B, .slice A167 x154.Rows.length c168] 28 (0, 0))] (m_domain_support_sp (a1 := x154) h137 b139 h163 h166 h169 e239) rfl (fun _ ha => ev2 ha rfl rfl) rfl en52 rfl rfl trivial ?_
         rintro _ F240 _ ⟨A242, c243, rfl, h244, rfl⟩ l241
         refine St.val (v := (.int .i64 ((q238.length : Nat) : Int))) (Yields.lenSlice tu73 rfl) trivial rfl rfl ?_
         refine St.val (v := (.int .i64 0)) (Yields.move rfl) trivial rfl rfl ?_
         refine St.nil ?_
         refine St.norm ?_
         refine St.block ?_
         refine St.loopM hm (fun s256 a w => ∃ (A261 : Option Addr) (c262 : Nat) (cells264 : List Value) (F266 : PH), PH.le F240 F266 ∧ Cat (Kind.sl 8 (Kind.int .i64)) F266 cells264 s256.1 ∧ Bnd 24 s256.1 ∧ Has Try.f28.ntmps a [(1, .slice pA1 a1.length pc1), (6, .slice A261 s256.1.length c262), (9, .bool s256.2.1), (11, .pointer (some ⟨b173, 0, none⟩)), (38, .slice pA1 a1.length pc1), (39, .int .i64 ((a1.length : Nat) : Int)), (40, .int .i64 ((s130.2.2 : Nat) : Int)), (54, .slice A242 q238.length c243), (55, .int .i64 ((q238.length : Nat) : Int)), (56, .int .i64 ((s256.2.2 : Nat) : Int))] ∧ Sat ⟨w0, fun b => m0 b ≠ none, F⟩ F266 [blk b173 (.cells #[.int .i64 x154.Kind, .slice A161 x154.Vars.length c162, .slice A164 x154.A.length c165, .int .i64 x154.B, .slice A167 x154.Rows.length c168] 28 (0, 0)), rowo A261 s256.1.length c262 26 1 cells264] w) ?_ ?_
         ·skip
          intro a w ha hs
          exact ⟨A135, c136, cells138, F240, (PH.le_refl _), (Cat.mono l241 h137), b139, ha.covers ⟨rfl, rfl, rfl, rfl, rfl, rfl, rfl, rfl, rfl, rfl, trivial⟩, (Among.of (Among.take 1 rfl rfl (Among.take 0 rfl rfl Among.none)) _ hs)⟩
         ·rintro s256 o257 co258 hm ho259 a w ⟨A261, c262, cells264, F266, l267, h263, b265, ha, hs⟩
          refine St.use (?_ : St _ _ _ _ _ _) ha hs
          clear ha hs a w
          refine St.seq ?_
          refine St.region ?_
          refine St.val (v := (.bool (decide (((s256.2.2 : Nat) : Int) < ((q238.length : Nat) : Int))))) (Yields.lt rfl rfl) trivial rfl rfl ?_
          refine St.nil ?_
          refine St.norm ?_
          refine St.seq ?_
          refine St.cond_b rfl ?_ ?_
          ·intro q268
           replace q268 : ((s256.2.2 : Nat) : Int) < ((q238.length : Nat) : Int) := of_decide_eq_true q268
           replace hm := iT hm q268
           refine St.skip ?_
           refine St.norm ?_
           refine St.seq ?_
           refine St.block ?_
           refine St.seq ?_
           refine St.region ?_
           refine St.val (v := (.int .i64 ((s256.2.2 : Nat) : Int))) (Yields.move rfl) trivial rfl rfl ?_
           obtain ⟨x269, e270, hm⟩ := bS hm
           obtain ⟨p271, cs272, jx273, R274, k275⟩ := (Fsl.mono l267 h244).nidx e270
           obtain ⟨hl276, hC277⟩ := R274
           refine St.val (v := (.pointer (some p271))) (Yields.idx jx273 ts73 rfl rfl) trivial rfl rfl ?_
           refine St.val (v := (.agg cs272.toArray)) (Yields.load rfl (Loads.Fatm k275 (by have q_ := Cat.length hC277; have q_2 : (Kind.bool).sz = 1 := rfl; rw [q_2, hl276] at q_; omega) ta76)) trivial rfl rfl ?_
           refine St.alloc tz76 trivial rfl ?_
           intro b278
           refine St.val (v := (.int .i64 ((s256.2.2 : Nat) : Int))) (Yields.assign rfl) trivial rfl rfl ?_
           refine St.storeArr (R := [blk b173 (.cells #[.int .i64 x154.Kind, .slice A161 x154.Vars.length c162, .slice A164 x154.A.length c165, .int .i64 x154.B, .slice A167 x154.Rows.length c168] 28 (0, 0)), rowo A261 s256.1.length c262 26 1 cells264]) hC277 hl276 rfl rfl rfl 0 rfl rfl ta76 rfl rfl trivial ?_
           refine St.nil ?_
           refine St.norm ?_
           refine St.seq ?_
           refine St.region ?_
           refine St.val (v := (.pointer (some ⟨b173, 1, none⟩))) (Yields.fieldAddr (v := (.pointer (some ⟨b173, 1, none⟩))) rfl (fun _ => by kernel_rfl)) trivial rfl rfl ?_
           refine St.val (v := (.slice A161 x154.Vars.length c162)) (Yields.load rfl (Loads.H1 1 rfl tc26 rfl)) trivial rfl rfl ?_
           refine St.val (v := (.int .i64 ((s256.2.2 : Nat) : Int))) (Yields.move rfl) trivial rfl rfl ?_
           obtain ⟨x280, e281, hm⟩ := bS hm
           obtain ⟨p282, cs283, jx284, R285, k286⟩ := (Fsl.mono (PH.le_trans l241 l267) h163).nidx e281
           obtain rfl := R285
           refine St.val (v := (.pointer (some p282))) (Yields.idx jx284 ts26 rfl rfl) trivial rfl rfl ?_
           refine St.val (v := (.int .i64 x280)) (Yields.load rfl (Loads.Fat k286 tc3 rfl)) trivial rfl rfl ?_
           refine St.val (v := (.int .i64 x280)) (Yields.assign rfl) trivial rfl rfl ?_
           refine St.nil ?_
           refine St.norm ?_
           refine St.seq ?_
           refine St.region ?_
           refine St.val (v := (.slice none 0 0)) (Yields.assign rfl) trivial rfl rfl ?_
           refine St.nil ?_
           refine St.norm ?_
           obtain ⟨z287, hm, hk294⟩ := bS hm
           refine St.cutI (fun a w => ∃ (A289 : Option Addr) (c290 : Nat) (cells292 : List Value), Cat (Kind.int .i64) F266 cells292 z287 ∧ Bnd 8 z287 ∧ Has Try.f28.ntmps a [(1, .slice pA1 a1.length pc1), (6, .slice A261 s256.1.length c262), (9, .bool s256.2.1), (11, .pointer (some ⟨b173, 0, none⟩)), (14, .int .i64 x280), (15, .slice A289 z287.length c290), (38, .slice pA1 a1.length pc1), (39, .int .i64 ((a1.length : Nat) : Int)), (40, .int .i64 ((s130.2.2 : Nat) : Int)), (54, .slice A242 q238.length c243), (55, .int .i64 ((q238.length : Nat) : Int)), (56, .int .i64 ((s256.2.2 : Nat) : Int))] ∧ Sat ⟨w0, fun b => m0 b ≠ none, F⟩ F266 [blk b173 (.cells #[.int .i64 x154.Kind, .slice A161 x154.Vars.length c162, .slice A164 x154.A.length c165, .int .i64 x154.B, .slice A167 x154.Rows.length c168] 28 (0, 0)), rowo A261 s256.1.length c262 26 1 cells264, rowo A289 z287.length c290 3 1 cells292] w) ?_ ?_
           ·skip
            refine St.seq ?_
            refine St.region ?_
            refine St.val (v := (.slice A261 s256.1.length c262)) (Yields.move rfl) trivial rfl rfl ?_
            refine St.val (v := (.int .i64 x280)) (Yields.move rfl) trivial rfl rfl ?_
            obtain ⟨x295, e296, hm⟩ := bS hm
            obtain ⟨jx297, jx298, cs299, R300, k301⟩ := h263.idx e296
            obtain ⟨A302, c303, rfl, h304⟩ := R300
            refine St.rowo_at 2 rfl (by omega) ?_
            intro hA306
            refine St.val (v := (.pointer (some ⟨bk A261, bo A261 + x280.toNat * 1, none⟩))) (Yields.idx (IdxAt.own hA306 jx297 jx298) ts22 rfl rfl) trivial rfl rfl ?_
            refine St.val (v := (.slice A302 x295.length c303)) (Yields.load rfl (Loads.rA1 2 rfl tc26 (k301 0 _ rfl))) trivial rfl rfl ?_
            refine St.val (v := (.int .i64 ((x295.length : Nat) : Int))) (Yields.lenSlice tu26 rfl) trivial rfl rfl ?_
            refine St.val (v := (.int .i64 0)) (Yields.move rfl) trivial rfl rfl ?_
            refine St.nil ?_
            refine St.norm ?_
            refine St.block ?_
            refine St.loopM hm (fun s315 a w => ∃ (A320 : Option Addr) (c321 : Nat) (cells323 : List Value), Cat (Kind.int .i64) F266 cells323 s315.1 ∧ Bnd 8 s315.1 ∧ Has Try.f28.ntmps a [(1, .slice pA1 a1.length pc1), (6, .slice A261 s256.1.length c262), (9, .bool s256.2.1), (11, .pointer (some ⟨b173, 0, none⟩)), (13, .pointer (some ⟨b278, 0, none⟩)), (14, .int .i64 x280), (15, .slice A320 s315.1.length c321), (38, .slice pA1 a1.length pc1), (39, .int .i64 ((a1.length : Nat) : Int)), (40, .int .i64 ((s130.2.2 : Nat) : Int)), (54, .slice A242 q238.length c243), (55, .int .i64 ((q238.length : Nat) : Int)), (56, .int .i64 ((s256.2.2 : Nat) : Int)), (69, .slice A302 x295.length c303), (70, .int .i64 ((x295.length : Nat) : Int)), (71, .int .i64 ((s315.2 : Nat) : Int))] ∧ Sat ⟨w0, fun b => m0 b ≠ none, F⟩ F266 [blk b173 (.cells #[.int .i64 x154.Kind, .slice A161 x154.Vars.length c162, .slice A164 x154.A.length c165, .int .i64 x154.B, .slice A167 x154.Rows.length c168] 28 (0, 0)), rowo A261 s256.1.length c262 26 1 cells264, rowo (some ⟨b278, 0, none⟩) x269.length 30 76 1 cs272, rowo A320 s315.1.length c321 3 1 cells323] w) ?_ ?_
            ·skip
             refine St.rowo_new 3 1 ?_
             intro a w ha hs
             exact ⟨none, 0, [], (show Cat (Kind.int .i64) _ [] [] from rfl), Bnd.of_nil, ha.covers ⟨rfl, rfl, rfl, rfl, rfl, rfl, rfl, rfl, rfl, rfl, rfl, rfl, rfl, rfl, rfl, rfl, trivial⟩, (Among.of (Among.take 2 rfl rfl (Among.take 2 rfl rfl (Among.take 1 rfl rfl (Among.take 0 rfl rfl Among.none)))) _ hs)⟩
            ·rintro s315 o316 co317 hm ho318 a w ⟨A320, c321, cells323, h322, b324, ha, hs⟩
             refine St.use (?_ : St _ _ _ _ _ _) ha hs
             clear ha hs a w
             refine St.seq ?_
             refine St.region ?_
             refine St.val (v := (.bool (decide (((s315.2 : Nat) : Int) < ((x295.length : Nat) : Int))))) (Yields.lt rfl rfl) trivial rfl rfl ?_
             refine St.nil ?_
             refine St.norm ?_
             refine St.seq ?_
             refine St.cond_b rfl ?_ ?_
             ·intro q326
              replace q326 : ((s315.2 : Nat) : Int) < ((x295.length : Nat) : Int) := of_decide_eq_true q326
              replace hm := iT hm q326
              refine St.skip ?_
              refine St.norm ?_
              obtain ⟨z327, hm, hk334⟩ := bS hm
              refine St.cutI (fun a w => ∃ (A329 : Option Addr) (c330 : Nat) (cells332 : List Value), Cat (Kind.int .i64) F266 cells332 z327 ∧ Bnd 8 z327 ∧ Has Try.f28.ntmps a [(1, .slice pA1 a1.length pc1), (6, .slice A261 s256.1.length c262), (9, .bool s256.2.1), (11, .pointer (some ⟨b173, 0, none⟩)), (13, .pointer (some ⟨b278, 0, none⟩)), (14, .int .i64 x280), (15, .slice A329 z327.length c330), (38, .slice pA1 a1.length pc1), (39, .int .i64 ((a1.length : Nat) : Int)), (40, .int .i64 ((s130.2.2 : Nat) : Int)), (54, .slice A242 q238.length c243), (55, .int .i64 ((q238.length : Nat) : Int)), (56, .int .i64 ((s256.2.2 : Nat) : Int)), (69, .slice A302 x295.length c303), (70, .int .i64 ((x295.length : Nat) : Int)), (71, .int .i64 ((s315.2 : Nat) : Int))] ∧ Sat ⟨w0, fun b => m0 b ≠ none, F⟩ F266 [blk b173 (.cells #[.int .i64 x154.Kind, .slice A161 x154.Vars.length c162, .slice A164 x154.A.length c165, .int .i64 x154.B, .slice A167 x154.Rows.length c168] 28 (0, 0)), rowo A261 s256.1.length c262 26 1 cells264, rowo (some ⟨b278, 0, none⟩) x269.length 30 76 1 cs272, rowo A329 z327.length c330 3 1 cells332] w) ?_ ?_
              ·skip
               refine St.block ?_
               refine St.seq ?_
               refine St.region ?_
               refine St.val (v := (.int .i64 ((s315.2 : Nat) : Int))) (Yields.move rfl) trivial rfl rfl ?_
               obtain ⟨x335, e336, hm⟩ := bS hm
               obtain ⟨p337, cs338, jx339, R340, k341⟩ := h304.nidx e336
               obtain rfl := R340
               refine St.val (v := (.pointer (some p337))) (Yields.idx jx339 ts26 rfl rfl) trivial rfl rfl ?_
               refine St.val (v := (.int .i64 x335)) (Yields.load rfl (Loads.Fat k341 tc3 rfl)) trivial rfl rfl ?_
               refine St.val (v := (.int .i64 ((s315.2 : Nat) : Int))) (Yields.assign rfl) trivial rfl rfl ?_
               refine St.val (v := (.int .i64 x335)) (Yields.assign rfl) trivial rfl rfl ?_
               refine St.nil ?_
               refine St.norm ?_
               refine St.seq ?_
               refine St.region ?_
               refine St.val (v := (.int .i64 ((s315.2 : Nat) : Int))) (Yields.move rfl) trivial rfl rfl ?_
               obtain ⟨x342, e343, hm⟩ := bS hm
               replace e343 := nlit e343
               obtain ⟨jx344, jx345, cs346, R347, k348⟩ := Cat.idx hC277 e343
               obtain rfl := R347
               rw [hl276] at jx345
               refine St.val (v := (.pointer (some ⟨bk (some ⟨b278, 0, none⟩), bo (some ⟨b278, 0, none⟩) + (s315.2 : Int).toNat * 1, none⟩))) (Yields.indexArr (p := ⟨bk (some ⟨b278, 0, none⟩), bo (some ⟨b278, 0, none⟩) + (s315.2 : Int).toNat * 1, none⟩) tr76 rfl rfl jx344 jx345 (add_off _ _ _)) trivial rfl rfl ?_
               refine St.val (v := (.bool x342)) (Yields.load rfl (Loads.rA1 2 rfl tc4 (k348 0 _ rfl))) trivial rfl rfl ?_
               refine St.nil ?_
               refine St.norm ?_
               refine St.cond_b rfl ?_ ?_
               ·intro q349
                replace q349 : x342 = true := q349
                replace hm := iT hm q349
                refine St.region ?_
                refine St.val (v := (.slice A320 s315.1.length c321)) (Yields.move rfl) trivial rfl rfl ?_
                refine St.val (v := (.int .i64 x335)) (Yields.move rfl) trivial rfl rfl ?_
                refine St.buildSlice (e := 3) (cells := #[.int .i64 x335]) (vs := #[(0, .int .i64 x335)]) (fun _ ha => evp1 ha rfl) (fun _ => by kernel_rfl) rfl trivial ?_
                intro b350
                obtain ⟨x355, e356, hm⟩ := bS hm
                refine St.pushL (R := [blk b350 (.cells #[.int .i64 x335] 3 (0, 0)), blk b173 (.cells #[.int .i64 x154.Kind, .slice A161 x154.Vars.length c162, .slice A164 x154.A.length c165, .int .i64 x154.B, .slice A167 x154.Rows.length c168] 28 (0, 0)), rowo A261 s256.1.length c262 26 1 cells264, rowo (some ⟨b278, 0, none⟩) x269.length 30 76 1 cs272]) (R3 := [blk b173 (.cells #[.int .i64 x154.Kind, .slice A161 x154.Vars.length c162, .slice A164 x154.A.length c165, .int .i64 x154.B, .slice A167 x154.Rows.length c168] 28 (0, 0)), rowo A261 s256.1.length c262 26 1 cells264, rowo (some ⟨b278, 0, none⟩) x269.length 30 76 1 cs272]) e356 ts26 rfl rfl rfl rfl rfl 4 rfl rfl 0 rfl 0 rfl rfl h322 ⟨[.int .i64 x335], _, rfl, rfl, rfl⟩ rfl trivial ?_
                intro A351 c352 cells353 h354
                refine St.val (v := (.slice A351 x355.length c352)) (Yields.assign rfl) trivial rfl rfl ?_
                refine St.nil ?_
                refine St.innorm ?_
                obtain rfl := sI hm
                intro a w ha hs
                exact ⟨A351, c352, cells353, h354, (Bnd.of_push e356), ha.covers ⟨rfl, rfl, rfl, rfl, rfl, rfl, rfl, rfl, rfl, rfl, rfl, rfl, rfl, rfl, rfl, rfl, trivial⟩, (Among.of (Among.take 1 rfl rfl (Among.take 1 rfl rfl (Among.take 1 rfl rfl (Among.take 0 rfl rfl Among.none)))) _ hs)⟩
               ·intro q358
                replace q358 : ¬ (x342 = true) := bf q358
                replace hm := iF hm q358
                refine St.skip ?_
                refine St.innorm ?_
                obtain rfl := sI hm
                intro a w ha hs
                exact ⟨A320, c321, cells323, h322, b324, ha.covers ⟨rfl, rfl, rfl, rfl, rfl, rfl, rfl, rfl, rfl, rfl, rfl, rfl, rfl, rfl, rfl, rfl, trivial⟩, (Among.of (Among.take 0 rfl rfl (Among.take 0 rfl rfl (Among.take 0 rfl rfl (Among.take 0 rfl rfl Among.none)))) _ hs)⟩
              ·rintro a w ⟨A329, c330, cells332, h331, b333, ha, hs⟩
               replace hm := hk334
               refine St.use (?_ : St _ _ _ _ _ _) ha hs
               clear ha hs a w
               refine St.region ?_
               refine St.val (v := (.int .i64 ((s315.2 + 1 : Nat) : Int))) (Yields.addn (j := 1) rfl rfl rfl (by have q_0 := q326; have q_1 := h304.bnd.2; omega)) trivial rfl rfl ?_
               refine St.val (v := (.int .i64 ((s315.2 + 1 : Nat) : Int))) (Yields.move rfl) trivial rfl rfl ?_
               refine St.nil ?_
               refine St.norm ?_
               obtain rfl := sI hm
               intro a w ha hs
               exact ⟨(z327, s315.2 + 1), aL ho318, A329, c330, cells332, h331, b333, ha.covers ⟨rfl, rfl, rfl, rfl, rfl, rfl, rfl, rfl, rfl, rfl, rfl, rfl, rfl, rfl, rfl, rfl, trivial⟩, (Among.of (Among.take 0 rfl rfl (Among.take 0 rfl rfl (Among.take 0 rfl rfl (Among.take 0 rfl rfl Among.none)))) _ hs)⟩
             ·intro q359
              replace q359 : ¬ (((s315.2 : Nat) : Int) < ((x295.length : Nat) : Int)) := of_decide_eq_false q359
              replace hm := iF hm q359
              refine St.exit ?_
              refine St.thenexit ?_
              refine St.thenexit ?_
              refine St.inexit ?_
              obtain rfl := sI hm
              obtain rfl := aR ho318
              intro a w ha hs
              exact ⟨A320, c321, cells323, h322, b324, ha.covers ⟨rfl, rfl, rfl, rfl, rfl, rfl, rfl, rfl, rfl, rfl, rfl, rfl, trivial⟩, (Among.of (Among.take 0 rfl rfl (Among.take 0 rfl rfl (Among.take 1 rfl rfl Among.none))) _ hs)⟩
           ·rintro a w ⟨A289, c290, cells292, h291, b293, ha, hs⟩
            replace hm := hk294
            refine St.use (?_ : St _ _ _ _ _ _) ha hs
            clear ha hs a w
            refine St.seq ?_
            refine St.seq ?_
            refine St.region ?_
            refine St.val (v := (.slice A289 z287.length c290)) (Yields.move rfl) trivial rfl rfl ?_
            refine St.val (v := (.int .i64 ((z287.length : Nat) : Int))) (Yields.lenSlice tu26 rfl) trivial rfl rfl ?_
            refine St.val (v := (.bool (decide (((z287.length : Nat) : Int) = 0)))) (Yields.eq rfl rfl) trivial rfl rfl ?_
            refine St.nil ?_
            refine St.norm ?_
            refine St.cond_b rfl ?_ ?_
            ·intro q360
             replace q360 : ((z287.length : Nat) : Int) = 0 := of_decide_eq_true q360
             replace hm := iT hm q360
             refine St.seq ?_
             refine St.region ?_
             refine St.val (v := (.slice none 0 0)) (Yields.assign rfl) trivial rfl rfl ?_
             refine St.val (v := (.bool false)) (Yields.assign rfl) trivial rfl rfl ?_
             refine St.nil ?_
             refine St.norm ?_
             refine St.ret ?_
             refine St.thenret ?_
             refine St.inret ?_
             refine St.thenret ?_
             refine St.thenret ?_
             refine St.inret ?_
             refine St.inret ?_
             refine St.thenret ?_
             refine St.thenret ?_
             refine St.inret ?_
             refine St.inret ?_
             refine St.thenret ?_
             refine St.inret ?_
             refine St.thenret ?_
             refine St.rowo_new 26 1 ?_
             obtain rfl := sI hm
             obtain rfl := aR ho259
             obtain rfl := aR ho153
             obtain rfl := aR ho133
             obtain rfl := aR ho110
             obtain rfl := aR ho97
             exact St.doneR2 rfl rfl rfl ⟨none, 0, [], rfl, (show Cat (Kind.sl 8 (Kind.int .i64)) _ [] [] from rfl), Bnd.of_nil, rfl⟩ (fun w hs => Among.of (Among.take 0 rfl rfl Among.none) w hs)
            ·intro q362
             replace q362 : ¬ (((z287.length : Nat) : Int) = 0) := of_decide_eq_false q362
             replace hm := iF hm q362
             refine St.skip ?_
             refine St.norm ?_
             obtain ⟨z363, hm, hk364⟩ := bS hm
             refine St.cutI (fun a w => Has Try.f28.ntmps a [(1, .slice pA1 a1.length pc1), (6, .slice A261 s256.1.length c262), (9, .bool z363), (11, .pointer (some ⟨b173, 0, none⟩)), (14, .int .i64 x280), (15, .slice A289 z287.length c290), (38, .slice pA1 a1.length pc1), (39, .int .i64 ((a1.length : Nat) : Int)), (40, .int .i64 ((s130.2.2 : Nat) : Int)), (54, .slice A242 q238.length c243), (55, .int .i64 ((q238.length : Nat) : Int)), (56, .int .i64 ((s256.2.2 : Nat) : Int))] ∧ Sat ⟨w0, fun b => m0 b ≠ none, F⟩ F266 [blk b173 (.cells #[.int .i64 x154.Kind, .slice A161 x154.Vars.length c162, .slice A164 x154.A.length c165, .int .i64 x154.B, .slice A167 x154.Rows.length c168] 28 (0, 0)), rowo A261 s256.1.length c262 26 1 cells264, rowo A289 z287.length c290 3 1 cells292] w) ?_ ?_
             ·skip
              refine St.region ?_
              by_cases q365 : s256.2.1 = true
              ·replace hm := iT hm q365
               have hb366 : (s256.2.1) = true := q365
               try rw [hb366]
               refine St.val (v := (.bool true)) (Yields.move rfl) trivial rfl rfl ?_
               refine St.val (v := (.bool true)) (Yields.move rfl) trivial rfl rfl ?_
               refine St.unwanted rfl rfl rfl ?_
               refine St.unwanted rfl rfl rfl ?_
               refine St.unwanted rfl rfl rfl ?_
               refine St.unwanted rfl rfl rfl ?_
               refine St.unwanted rfl rfl rfl ?_
               refine St.unwanted rfl rfl rfl ?_
               refine St.unwanted rfl rfl rfl ?_
               refine St.unwanted rfl rfl rfl ?_
               refine St.val (v := (.bool true)) (Yields.pick_t rfl rfl) trivial rfl rfl ?_
               refine St.val (v := (.bool true)) (Yields.assign rfl) trivial rfl rfl ?_
               refine St.nil ?_
               obtain rfl := sI hm
               intro a w ha hs
               exact ⟨ha.covers ⟨rfl, rfl, rfl, rfl, rfl, rfl, rfl, rfl, rfl, rfl, rfl, rfl, trivial⟩, (Among.of (Among.take 0 rfl rfl (Among.take 0 rfl rfl (Among.take 0 rfl rfl Among.none))) _ hs)⟩
              ·replace hm := iF hm q365
               have hb367 : (s256.2.1) = false := eq_false_of_ne_true q365
               try rw [hb367]
               refine St.val (v := (.bool false)) (Yields.move rfl) trivial rfl rfl ?_
               refine St.val (v := (.bool false)) (Yields.move rfl) trivial rfl rfl ?_
               refine St.val (v := (.slice A289 z287.length c290)) (Yields.move rfl) rfl rfl rfl ?_
               refine St.val (v := (.int .i64 ((z287.length : Nat) : Int))) (Yields.lenSlice tu26 rfl) rfl rfl rfl ?_
               refine St.val (v := (.slice A261 s256.1.length c262)) (Yields.move rfl) rfl rfl rfl ?_
               refine St.val (v := (.int .i64 x280)) (Yields.move rfl) rfl rfl rfl ?_
               obtain ⟨x368, e369, hm⟩ := bS hm
               obtain ⟨jx370, jx371, cs372, R373, k374⟩ := h263.idx e369
               obtain ⟨A375, c376, rfl, h377⟩ := R373
               refine St.rowo_at 1 rfl (by omega) ?_
               intro hA379
               refine St.val (v := (.pointer (some ⟨bk A261, bo A261 + x280.toNat * 1, none⟩))) (Yields.idx (IdxAt.own hA379 jx370 jx371) ts22 rfl rfl) rfl rfl rfl ?_
               refine St.val (v := (.slice A375 x368.length c376)) (Yields.load rfl (Loads.rA1 1 rfl tc26 (k374 0 _ rfl))) rfl rfl rfl ?_
               refine St.val (v := (.int .i64 ((x368.length : Nat) : Int))) (Yields.lenSlice tu26 rfl) rfl rfl rfl ?_
               refine St.val (v := (.bool (decide (((z287.length : Nat) : Int) < ((x368.length : Nat) : Int))))) (Yields.lt rfl rfl) rfl rfl rfl ?_
               refine St.val (v := (.bool (decide (((z287.length : Nat) : Int) < ((x368.length : Nat) : Int))))) (Yields.pick_f rfl rfl) trivial rfl rfl ?_
               refine St.val (v := (.bool (decide (((z287.length : Nat) : Int) < ((x368.length : Nat) : Int))))) (Yields.assign rfl) trivial rfl rfl ?_
               refine St.nil ?_
               obtain rfl := sI hm
               intro a w ha hs
               exact ⟨ha.covers ⟨rfl, rfl, rfl, rfl, rfl, rfl, rfl, rfl, rfl, rfl, rfl, rfl, trivial⟩, (Among.of (Among.take 0 rfl rfl (Among.take 0 rfl rfl (Among.take 0 rfl rfl Among.none))) _ hs)⟩
             ·rintro a w ⟨ha, hs⟩
              replace hm := hk364
              refine St.use (?_ : St _ _ _ _ _ _) ha hs
              clear ha hs a w
              refine St.region ?_
              refine St.val (v := (.slice A261 s256.1.length c262)) (Yields.move rfl) trivial rfl rfl ?_
              refine St.val (v := (.int .i64 x280)) (Yields.move rfl) trivial rfl rfl ?_
              refine St.val (v := (.slice A289 z287.length c290)) (Yields.move rfl) trivial rfl rfl ?_
              obtain ⟨x380, e381, hm⟩ := bS hm
              obtain ⟨jx382, jx383, cs384, R385, k386⟩ := h263.idx e381
              obtain ⟨A387, c388, rfl, h389⟩ := R385
              refine St.rowo_at 1 rfl (by omega) ?_
              intro hA391
              refine St.val (v := (.pointer (some ⟨bk A261, bo A261 + x280.toNat * 1, none⟩))) (Yields.idx (IdxAt.own hA391 jx382 jx383) ts22 rfl rfl) trivial rfl rfl ?_
              refine St.frz 2 rfl rfl rfl h291 b293 ?_
              intro F392 l393 h394
              obtain ⟨x397, e398, hm⟩ := bS hm
              refine St.putK1 (R := [blk b173 (.cells #[.int .i64 x154.Kind, .slice A161 x154.Vars.length c162, .slice A164 x154.A.length c165, .int .i64 x154.B, .slice A167 x154.Rows.length c168] 28 (0, 0))]) e398 (Cat.mono l393 h263) (show ((Kind.sl 8 (Kind.int .i64))).R _ [.slice A289 z287.length c290] z287 from ⟨_, _, rfl, h394⟩) rfl rfl rfl 1 rfl rfl tc26 rfl trivial ?_
              intro cells396 h395
              try rw [upd_len e398]
              refine St.nil ?_
              refine St.innorm ?_
              refine St.norm ?_
              refine St.region ?_
              refine St.val (v := (.int .i64 ((s256.2.2 + 1 : Nat) : Int))) (Yields.addn (j := 1) rfl rfl rfl (by have q_0 := q268; have q_1 := h244.bnd.2; omega)) trivial rfl rfl ?_
              refine St.val (v := (.int .i64 ((s256.2.2 + 1 : Nat) : Int))) (Yields.move rfl) trivial rfl rfl ?_
              refine St.nil ?_
              refine St.norm ?_
              obtain rfl := sI hm
              intro a w ha hs
              exact ⟨(x397, z363, s256.2.2 + 1), aL ho259, A261, c262, cells396, F392, (PH.le_trans l267 l393), h395, (Bnd.of_upd b265 e398), ha.covers ⟨rfl, rfl, rfl, rfl, rfl, rfl, rfl, rfl, rfl, rfl, trivial⟩, (Among.of (Among.take 1 rfl rfl (Among.take 0 rfl rfl Among.none)) _ hs)⟩
          ·intro q399
           replace q399 : ¬ (((s256.2.2 : Nat) : Int) < ((q238.length : Nat) : Int)) := of_decide_eq_false q399
           replace hm := iF hm q399
           refine St.exit ?_
           refine St.thenexit ?_
           refine St.thenexit ?_
           refine St.inexit ?_
           refine St.innorm ?_
           obtain rfl := sI hm
           obtain rfl := aR ho259
           intro a w ha hs
           exact ⟨(s256.1, s256.2.1), rfl, A261, c262, cells264, F266, (PH.le_trans l241 l267), h263, b265, ha.covers ⟨rfl, rfl, rfl, rfl, rfl, rfl, trivial⟩, (Among.of (Among.take 1 rfl rfl Among.none) _ hs)⟩
       ·rintro a w ⟨z143, rfl, A147, c148, cells150, F144, l145, h149, b151, ha, hs⟩
        replace hm := aL ho153
        refine St.use (?_ : St _ _ _ _ _ _) ha hs
        clear ha hs a w
        refine St.region ?_
        refine St.val (v := (.int .i64 ((s130.2.2 + 1 : Nat) : Int))) (Yields.addn (j := 1) rfl rfl rfl (by have q_0 := q142; have q_1 := ph1.bnd.2; omega)) trivial rfl rfl ?_
        refine St.val (v := (.int .i64 ((s130.2.2 + 1 : Nat) : Int))) (Yields.move rfl) trivial rfl rfl ?_
        refine St.nil ?_
        refine St.norm ?_
        obtain rfl := sI hm
        intro a w ha hs
        exact ⟨(z143.1, z143.2, s130.2.2 + 1), aL ho133, A147, c148, cells150, F144, (PH.le_trans l141 l145), h149, b151, ha.covers ⟨rfl, rfl, rfl, rfl, rfl, rfl, trivial⟩, (Among.of (Among.take 0 rfl rfl Among.none) _ hs)⟩
      ·intro q400
       replace q400 : ¬ (((s130.2.2 : Nat) : Int) < ((a1.length : Nat) : Int)) := of_decide_eq_false q400
       replace hm := iF hm q400
       refine St.exit ?_
       refine St.thenexit ?_
       refine St.thenexit ?_
       refine St.inexit ?_
       refine St.innorm ?_
       refine St.norm ?_
       obtain rfl := sI hm
       obtain rfl := aR ho133
       intro a w ha hs
       exact ⟨(s130.1, s130.2.1), aL ho110, A135, c136, cells138, F140, (PH.le_trans l118 l141), h137, b139, ha.covers ⟨rfl, rfl, rfl, trivial⟩, (Among.of (Among.take 0 rfl rfl Among.none) _ hs)⟩
    ·intro q401
     replace q401 : ¬ (s107.2 = true) := bf q401
     replace hm := iF hm q401
     refine St.exit ?_
     refine St.thenexit ?_
     refine St.thenexit ?_
     refine St.inexit ?_
     obtain rfl := sI hm
     obtain rfl := aR ho110
     intro a w ha hs
     exact ⟨s107.1, rfl, A112, c113, cells115, F117, l118, h114, b116, ha.covers ⟨rfl, trivial⟩, (Among.of (Among.take 0 rfl rfl Among.none) _ hs)⟩
  ·rintro a w ⟨z87, rfl, A91, c92, cells94, F88, l89, h93, b95, ha, hs⟩
   replace hm := aL ho97
   refine St.use (?_ : St _ _ _ _ _ _) ha hs
   clear ha hs a w
   refine St.seq ?_
   refine St.region ?_
   refine St.val (v := (.slice A91 z87.length c92)) (Yields.move rfl) trivial rfl rfl ?_
   refine St.val (v := (.slice A91 z87.length c92)) (Yields.assign rfl) trivial rfl rfl ?_
   refine St.val (v := (.bool true)) (Yields.assign rfl) trivial rfl rfl ?_
   refine St.nil ?_
   refine St.norm ?_
   refine St.ret ?_
   obtain rfl := sI hm
   exact St.doneR2 rfl rfl rfl ⟨A91, c92, cells94, rfl, h93, b95, rfl⟩ (fun w hs => Among.of (Among.take 0 rfl rfl Among.none) w hs)

abbrev m_domain_solver_from_S (g : Nat) : Prop := ∀ {F : PH} {a0 : List (List Int)} {a1 : List (List Int)} {a2 : List DLimit} {a3 : Int} {a4 : Int} {a5 : List (List Int)} {a6 : Int} {pbl0 : Nat} {pA0 : Option Addr} {pc0 : Nat} {pA1 : Option Addr} {pc1 : Nat} {pA2 : Option Addr} {pc2 : Nat} {pA5 : Option Addr} {pc5 : Nat} {pcl5 : List Value} (ph0 : Fsl 24 (Kind.sl 8 (Kind.int .i64)) F pA0 pc0 a0) (ph1 : Fsl 24 (Kind.sl 8 (Kind.int .i64)) F pA1 pc1 a1) (ph2 : Fsl 88 KDLimit F pA2 pc2 a2) (ph5 : Cat (Kind.sl 8 (Kind.int .i64)) F pcl5 a5) (pbd5 : Bnd 24 a5) {r : List (List Int) × Int} (_ : m_domain_solver_from g a0 a1 a2 a3 a4 a5 a6 = some r),
  CallSp Try.prog 36 #[.pointer (some ⟨pbl0, 0, none⟩), .slice pA0 a0.length pc0] F [blk pbl0 (.cells #[.slice pA1 a1.length pc1, .slice pA2 a2.length pc2, .int .i64 a3, .int .i64 a4, .slice pA5 a5.length pc5, .int .i64 a6] 62 (0, 0)), rowo pA5 a5.length pc5 26 1 pcl5] (fun u F' H' => ∃ (G5 : Option Addr) (e5 : Nat) (gl5 : List Value), u = (.tuple #[]) ∧ Cat (Kind.sl 8 (Kind.int .i64)) F' gl5 r.1 ∧ Bnd 24 r.1 ∧ H' = [blk pbl0 (.cells #[.slice pA1 a1.length pc1, .slice pA2 a2.length pc2, .int .i64 a3, .int .i64 a4, .slice G5 r.1.length e5, .int .i64 r.2] 62 (0, 0)), rowo G5 r.1.length e5 26 1 gl5])
theorem m_domain_solver_from_st {g : Nat} (ih_m_domain_solver_from : m_domain_solver_from_S g) : m_domain_solver_from_S (g + 1) := by
 intro F a0 a1 a2 a3 a4 a5 a6 pbl0 pA0 pc0 pA1 pc1 pA2 pc2 pA5 pc5 pcl5 ph0 ph1 ph2 ph5 pbd5 r hm
 rw [m_domain_solver_from] at hm
 refine CallSp.enter (args := [.pointer (some ⟨pbl0, 0, none⟩), .slice pA0 a0.length pc0]) Try.func36 rfl rfl ?_
 intro w0 m0 hm0
 refine St.seq ?_
 refine St.seq ?_
 refine StD.start [] [blk pbl0 (.cells #[.slice pA1 a1.length pc1, .slice pA2 a2.length pc2, .int .i64 a3, .int .i64 a4, .slice pA5 a5.length pc5, .int .i64 a6] 62 (0, 0)), rowo pA5 a5.length pc5 26 1 pcl5] hmix ?_
 refine StD.takeP (i := 0) (v := (.pointer (some ⟨pbl0, 0, none⟩))) rfl (fun _ => Yields.move rfl) rfl rfl trivial (by rintro _ _ _ ⟨_, _, _, _, h, _⟩; cases h) (by kernel_rfl) (listed' := #[true, false, false, false, false, false, false, false, false, false]) rfl ?_
 refine StD.takeP (i := 1) (v := (.pointer (some ⟨pbl0, 0, none⟩))) rfl (fun _ => Yields.nilCheck rfl) rfl rfl trivial (by rintro _ _ _ ⟨_, _, _, _, h, _⟩; cases h) (by kernel_rfl) (listed' := #[true, true, false, false, false, false, false, false, false, false]) rfl ?_
 refine StD.takeP (i := 2) (v := (.pointer (some ⟨pbl0, 4, none⟩))) rfl (fun _ => Yields.fieldAddr (v := (.pointer (some ⟨pbl0, 4, none⟩))) rfl (fun _ => by kernel_rfl)) rfl rfl trivial (by rintro _ _ _ ⟨_, _, _, _, h, _⟩; cases h) (by kernel_rfl) (listed' := #[true, true, true, false, false, false, false, false, false, false]) rfl ?_
 refine StD.take [0, 1, 2, 4, 5, 6, 7, 9] (i := 3) (v := (.slice pA5 a5.length pc5)) rfl (Yields.load rfl (Loads.H1 0 rfl tc22 rfl)) rfl rfl trivial Among.refl (by rintro _ _ _ ⟨_, _, _, _, h, _⟩; cases h) (by kernel_rfl) (listed' := #[true, true, true, true, false, false, false, false, false, false]) rfl ?_
 refine StD.takeP (i := 4) (v := (.int .i64 ((a5.length : Nat) : Int))) rfl (fun _ => Yields.lenSlice tu22 rfl) rfl rfl trivial (by rintro _ _ _ ⟨_, _, _, _, h, _⟩; cases h) (by kernel_rfl) (listed' := #[true, true, true, true, true, false, false, false, false, false]) rfl ?_
 refine StD.takeP (i := 5) (v := (.pointer (some ⟨pbl0, 0, none⟩))) rfl (fun _ => Yields.move rfl) rfl rfl trivial (by rintro _ _ _ ⟨_, _, _, _, h, _⟩; cases h) (by kernel_rfl) (listed' := #[true, true, true, true, true, true, false, false, false, false]) rfl ?_
 refine StD.takeP (i := 6) (v := (.pointer (some ⟨pbl0, 0, none⟩))) rfl (fun _ => Yields.nilCheck rfl) rfl rfl trivial (by rintro _ _ _ ⟨_, _, _, _, h, _⟩; cases h) (by kernel_rfl) (listed' := #[true, true, true, true, true, true, true, false, false, false]) rfl ?_
 refine StD.takeP (i := 7) (v := (.pointer (some ⟨pbl0, 3, none⟩))) rfl (fun _ => Yields.fieldAddr (v := (.pointer (some ⟨pbl0, 3, none⟩))) rfl (fun _ => by kernel_rfl)) rfl rfl trivial (by rintro _ _ _ ⟨_, _, _, _, h, _⟩; cases h) (by kernel_rfl) (listed' := #[true, true, true, true, true, true, true, true, false, false]) rfl ?_
 refine StD.take [0, 1, 2, 4, 5, 6, 7, 9] (i := 8) (v := (.int .i64 a4)) rfl (Yields.load rfl (Loads.H1 0 rfl tc3 rfl)) rfl rfl trivial Among.refl (by rintro _ _ _ ⟨_, _, _, _, h, _⟩; cases h) (by kernel_rfl) (listed' := #[true, true, true, true, true, true, true, true, true, false]) rfl ?_
 refine StD.takeP (i := 9) (v := (.bool (decide (((a5.length : Nat) : Int) > a4)))) rfl (fun _ => Yields.gt rfl rfl) rfl rfl trivial (by rintro _ _ _ ⟨_, _, _, _, h, _⟩; cases h) (by kernel_rfl) (listed' := #[true, true, true, true, true, true, true, true, true, true]) rfl ?_
 refine StD.done (by kernel_rfl) ?_
 refine St.norm ?_
 refine St.cond_b rfl ?_ ?_
 ·intro q5
  replace q5 : ((a5.length : Nat) : Int) > a4 := of_decide_eq_true q5
  replace hm := iT hm q5
  refine St.ret ?_
  refine St.thenret ?_
  obtain rfl := sI hm
  exact St.doneR0 rfl ⟨pA5, pc5, pcl5, rfl, ph5, pbd5, rfl⟩ (fun w hs => Among.of (Among.take 0 rfl rfl (Among.take 0 rfl rfl Among.none)) w hs)
 ·intro q6
  replace q6 : ¬ (((a5.length : Nat) : Int) > a4) := of_decide_eq_false q6
  replace hm := iF hm q6
  refine St.skip ?_
  refine St.norm ?_
  refine St.seq ?_
  refine St.region ?_
  refine St.val (v := (.pointer (some ⟨pbl0, 0, none⟩))) (Yields.move rfl) trivial rfl rfl ?_
  refine St.val (v := (.slice pA0 a0.length pc0)) (Yields.move rfl) trivial rfl rfl ?_
  refine St.pick (R := [blk pbl0 (.cells #[.slice pA1 a1.length pc1, .slice pA2 a2.length pc2, .int .i64 a3, .int .i64 a4, .slice pA5 a5.length pc5, .int .i64 a6] 62 (0, 0))]) 1 rfl rfl ?_
  refine St.pick (R := [rowo pA5 a5.length pc5 26 1 pcl5]) 1 rfl rfl ?_
  obtain ⟨q7, e8, hm⟩ := bS hm
  refine St.call [] (m_domain_solver_next_sp ph0 ph1 ph2 ph5 pbd5 e8) rfl (fun _ ha => ev2 ha rfl rfl) rfl en53 rfl rfl trivial ?_
  rintro _ F9 _ ⟨rfl, rfl⟩ l10
  refine St.val (v := (.int .i64 q7)) (Yields.assign rfl) trivial rfl rfl ?_
  refine St.nil ?_
  refine St.norm ?_
  refine St.seq ?_
  refine St.seq ?_
  refine St.region ?_
  refine St.val (v := (.int .i64 q7)) (Yields.move rfl) trivial rfl rfl ?_
  refine St.val (v := (.bool (decide (q7 < 0)))) (Yields.lt rfl rfl) trivial rfl rfl ?_
  refine St.nil ?_
  refine St.norm ?_
  refine St.cond_b rfl ?_ ?_
  ·intro q11
   replace q11 : q7 < 0 := of_decide_eq_true q11
   replace hm := iT hm q11
   refine St.seq ?_
   refine St.region ?_
   refine St.val (v := (.slice none 0 0)) (Yields.assign rfl) trivial rfl rfl ?_
   refine St.nil ?_
   refine St.norm ?_
   obtain ⟨z12, hm, hk19⟩ := bS hm
   refine St.cutI (fun a w => ∃ (A14 : Option Addr) (c15 : Nat) (cells17 : List Value), Cat (Kind.int .i64) F9 cells17 z12 ∧ Bnd 8 z12 ∧ Has Try.f36.ntmps a [(0, .pointer (some ⟨pbl0, 0, none⟩)), (5, .slice A14 z12.length c15)] ∧ Sat ⟨w0, fun b => m0 b ≠ none, F⟩ F9 [blk pbl0 (.cells #[.slice pA1 a1.length pc1, .slice pA2 a2.length pc2, .int .i64 a3, .int .i64 a4, .slice pA5 a5.length pc5, .int .i64 a6] 62 (0, 0)), rowo A14 z12.length c15 3 1 cells17, rowo pA5 a5.length pc5 26 1 pcl5] w) ?_ ?_
   ·skip
    refine St.seq ?_
    refine St.region ?_
    refine St.val (v := (.slice pA0 a0.length pc0)) (Yields.move rfl) trivial rfl rfl ?_
    refine St.val (v := (.int .i64 ((a0.length : Nat) : Int))) (Yields.lenSlice tu22 rfl) trivial rfl rfl ?_
    refine St.val (v := (.int .i64 0)) (Yields.move rfl) trivial rfl rfl ?_
    refine St.nil ?_
    refine St.norm ?_
    refine St.block ?_
    refine St.loopM hm (fun s28 a w => ∃ (A33 : Option Addr) (c34 : Nat) (cells36 : List Value), Cat (Kind.int .i64) F9 cells36 s28.1 ∧ Bnd 8 s28.1 ∧ Has Try.f36.ntmps a [(0, .pointer (some ⟨pbl0, 0, none⟩)), (5, .slice A33 s28.1.length c34), (28, .slice pA0 a0.length pc0), (29, .int .i64 ((a0.length : Nat) : Int)), (30, .int .i64 ((s28.2 : Nat) : Int))] ∧ Sat ⟨w0, fun b => m0 b ≠ none, F⟩ F9 [blk pbl0 (.cells #[.slice pA1 a1.length pc1, .slice pA2 a2.length pc2, .int .i64 a3, .int .i64 a4, .slice pA5 a5.length pc5, .int .i64 a6] 62 (0, 0)), rowo A33 s28.1.length c34 3 1 cells36, rowo pA5 a5.length pc5 26 1 pcl5] w) ?_ ?_
    ·skip
     refine St.rowo_new 3 1 ?_
     intro a w ha hs
     exact ⟨none, 0, [], (show Cat (Kind.int .i64) _ [] [] from rfl), Bnd.of_nil, ha.covers ⟨rfl, rfl, rfl, rfl, rfl, trivial⟩, (Among.of (Among.take 1 rfl rfl (Among.take 0 rfl rfl (Among.take 0 rfl rfl Among.none))) _ hs)⟩
    ·rintro s28 o29 co30 hm ho31 a w ⟨A33, c34, cells36, h35, b37, ha, hs⟩
     refine St.use (?_ : St _ _ _ _ _ _) ha hs
     clear ha hs a w
     refine St.seq ?_
     refine St.region ?_
     refine St.val (v := (.bool (decide (((s28.2 : Nat) : Int) < ((a0.length : Nat) : Int))))) (Yields.lt rfl rfl) trivial rfl rfl ?_
     refine St.nil ?_
     refine St.norm ?_
     refine St.seq ?_
     refine St.cond_b rfl ?_ ?_
     ·intro q39
      replace q39 : ((s28.2 : Nat) : Int) < ((a0.length : Nat) : Int) := of_decide_eq_true q39
      replace hm := iT hm q39
      refine St.skip ?_
      refine St.norm ?_
      refine St.seq ?_
      refine St.block ?_
      refine St.seq ?_
      refine St.region ?_
      obtain ⟨x40, e41, hm⟩ := bS hm
      obtain ⟨p42, cs43, jx44, R45, k46⟩ := (Fsl.mono l10 ph0).nidx e41
      obtain ⟨A47, c48, rfl, h49⟩ := R45
      refine St.val (v := (.pointer (some p42))) (Yields.idx jx44 ts22 rfl rfl) trivial rfl rfl ?_
      refine St.val (v := (.slice A47 x40.length c48)) (Yields.load rfl (Loads.Fat k46 tc26 rfl)) trivial rfl rfl ?_
      refine St.val (v := (.slice A47 x40.length c48)) (Yields.assign rfl) trivial rfl rfl ?_
      refine St.nil ?_
      refine St.norm ?_
      refine St.region ?_
      refine St.val (v := (.slice A33 s28.1.length c34)) (Yields.move rfl) trivial rfl rfl ?_
      refine St.val (v := (.slice A47 x40.length c48)) (Yields.move rfl) trivial rfl rfl ?_
      obtain ⟨x51, e52, hm⟩ := bS hm
      replace e52 := nlit e52
      obtain ⟨p53, cs54, jx55, R56, k57⟩ := h49.idx e52
      obtain rfl := R56
      refine St.val (v := (.pointer (some p53))) (Yields.idx jx55 ts26 rfl rfl) trivial rfl rfl ?_
      refine St.val (v := (.int .i64 x51)) (Yields.load rfl (Loads.Fat k57 tc3 rfl)) trivial rfl rfl ?_
      refine St.buildSlice (e := 3) (cells := #[.int .i64 x51]) (vs := #[(0, .int .i64 x51)]) (fun _ ha => evp1 ha rfl) (fun _ => by kernel_rfl) rfl trivial ?_
      intro b58
      obtain ⟨x63, e64, hm⟩ := bS hm
      refine St.pushL (R := [blk b58 (.cells #[.int .i64 x51] 3 (0, 0)), blk pbl0 (.cells #[.slice pA1 a1.length pc1, .slice pA2 a2.length pc2, .int .i64 a3, .int .i64 a4, .slice pA5 a5.length pc5, .int .i64 a6] 62 (0, 0)), rowo pA5 a5.length pc5 26 1 pcl5]) (R3 := [blk pbl0 (.cells #[.slice pA1 a1.length pc1, .slice pA2 a2.length pc2, .int .i64 a3, .int .i64 a4, .slice pA5 a5.length pc5, .int .i64 a6] 62 (0, 0)), rowo pA5 a5.length pc5 26 1 pcl5]) e64 ts26 rfl rfl rfl rfl rfl 2 rfl rfl 0 rfl 0 rfl rfl h35 ⟨[.int .i64 x51], _, rfl, rfl, rfl⟩ rfl trivial ?_
      intro A59 c60 cells61 h62
      refine St.val (v := (.slice A59 x63.length c60)) (Yields.assign rfl) trivial rfl rfl ?_
      refine St.nil ?_
      refine St.innorm ?_
      refine St.norm ?_
      refine St.region ?_
      refine St.val (v := (.int .i64 ((s28.2 + 1 : Nat) : Int))) (Yields.addn (j := 1) rfl rfl rfl (by have q_0 := q39; have q_1 := ph0.bnd.2; omega)) trivial rfl rfl ?_
      refine St.val (v := (.int .i64 ((s28.2 + 1 : Nat) : Int))) (Yields.move rfl) trivial rfl rfl ?_
      refine St.nil ?_
      refine St.norm ?_
      obtain rfl := sI hm
      intro a w ha hs
      exact ⟨(x63, s28.2 + 1), aL ho31, A59, c60, cells61, h62, (Bnd.of_push e64), ha.covers ⟨rfl, rfl, rfl, rfl, rfl, trivial⟩, (Among.of (Among.take 1 rfl rfl (Among.take 0 rfl rfl (Among.take 0 rfl rfl Among.none))) _ hs)⟩
     ·intro q66
      replace q66 : ¬ (((s28.2 : Nat) : Int) < ((a0.length : Nat) : Int)) := of_decide_eq_false q66
      replace hm := iF hm q66
      refine St.exit ?_
      refine St.thenexit ?_
      refine St.thenexit ?_
      refine St.inexit ?_
      obtain rfl := sI hm
      obtain rfl := aR ho31
      intro a w ha hs
      exact ⟨A33, c34, cells36, h35, b37, ha.covers ⟨rfl, rfl, trivial⟩, (Among.of (Among.take 0 rfl rfl (Among.take 0 rfl rfl (Among.take 0 rfl rfl Among.none))) _ hs)⟩
   ·rintro a w ⟨A14, c15, cells17, h16, b18, ha, hs⟩
    replace hm := hk19
    refine St.use (?_ : St _ _ _ _ _ _) ha hs
    clear ha hs a w
    refine St.seq ?_
    refine St.region ?_
    refine St.val (v := (.pointer (some ⟨pbl0, 0, none⟩))) (Yields.move rfl) trivial rfl rfl ?_
    refine St.val (v := (.pointer (some ⟨pbl0, 0, none⟩))) (Yields.move rfl) trivial rfl rfl ?_
    refine St.val (v := (.pointer (some ⟨pbl0, 0, none⟩))) (Yields.nilCheck rfl) trivial rfl rfl ?_
    refine St.val (v := (.pointer (some ⟨pbl0, 4, none⟩))) (Yields.fieldAddr (v := (.pointer (some ⟨pbl0, 4, none⟩))) rfl (fun _ => by kernel_rfl)) trivial rfl rfl ?_
    refine St.val (v := (.slice pA5 a5.length pc5)) (Yields.load rfl (Loads.H1 0 rfl tc22 rfl)) trivial rfl rfl ?_
    refine St.val (v := (.slice A14 z12.length c15)) (Yields.move rfl) trivial rfl rfl ?_
    refine St.frz 1 rfl rfl rfl h16 b18 ?_
    intro F67 l68 h69
    refine St.buildSlice (e := 26) (cells := #[.slice A14 z12.length c15]) (vs := #[(0, .slice A14 z12.length c15)]) (fun _ ha => evp1 ha rfl) (fun _ => by kernel_rfl) rfl trivial ?_
    intro b70
    obtain ⟨x75, e76, hm⟩ := bS hm
    refine St.pushL (R := [blk b70 (.cells #[.slice A14 z12.length c15] 26 (0, 0)), blk pbl0 (.cells #[.slice pA1 a1.length pc1, .slice pA2 a2.length pc2, .int .i64 a3, .int .i64 a4, .slice pA5 a5.length pc5, .int .i64 a6] 62 (0, 0))]) (R3 := [blk pbl0 (.cells #[.slice pA1 a1.length pc1, .slice pA2 a2.length pc2, .int .i64 a3, .int .i64 a4, .slice pA5 a5.length pc5, .int .i64 a6] 62 (0, 0))]) e76 ts22 rfl rfl rfl rfl rfl 2 rfl rfl 0 rfl 0 rfl rfl (Cat.mono (PH.le_trans l10 l68) ph5) ⟨[.slice A14 z12.length c15], _, rfl, ⟨_, _, rfl, h69⟩, rfl⟩ rfl trivial ?_
    intro A71 c72 cells73 h74
    refine St.val (v := (.pointer (some ⟨pbl0, 0, none⟩))) (Yields.nilCheck rfl) trivial rfl rfl ?_
    refine St.val (v := (.pointer (some ⟨pbl0, 4, none⟩))) (Yields.fieldAddr (v := (.pointer (some ⟨pbl0, 4, none⟩))) rfl (fun _ => by kernel_rfl)) trivial rfl rfl ?_
    refine St.store (R := [rowo A71 x75.length c72 26 1 cells73]) rfl rfl 1 rfl rfl tc22 rfl rfl trivial (cs' := #[.slice pA1 a1.length pc1, .slice pA2 a2.length pc2, .int .i64 a3, .int .i64 a4, .slice A71 x75.length c72, .int .i64 a6]) rfl ?_
    refine St.nil ?_
    refine St.norm ?_
    refine St.ret ?_
    refine St.thenret ?_
    obtain rfl := sI hm
    exact St.doneR0 rfl ⟨A71, c72, cells73, rfl, h74, (Bnd.of_push e76), rfl⟩ (fun w hs => Among.of (Among.take 0 rfl rfl (Among.take 0 rfl rfl Among.none)) w hs)
  ·intro q78
   replace q78 : ¬ (q7 < 0) := of_decide_eq_false q78
   replace hm := iF hm q78
   refine St.skip ?_
   refine St.norm ?_
   refine St.seq ?_
   refine St.region ?_
   refine St.val (v := (.pointer (some ⟨pbl0, 0, none⟩))) (Yields.move rfl) trivial rfl rfl ?_
   refine St.val (v := (.pointer (some ⟨pbl0, 0, none⟩))) (Yields.nilCheck rfl) trivial rfl rfl ?_
   refine St.val (v := (.pointer (some ⟨pbl0, 5, none⟩))) (Yields.fieldAddr (v := (.pointer (some ⟨pbl0, 5, none⟩))) rfl (fun _ => by kernel_rfl)) trivial rfl rfl ?_
   refine St.val (v := (.int .i64 a6)) (Yields.load rfl (Loads.H1 0 rfl tc3 rfl)) trivial rfl rfl ?_
   refine St.val (v := (.int .i64 (Mir.w64 (a6 + 1)))) (Yields.addw rfl rfl) trivial rfl rfl ?_
   refine St.val (v := (.pointer (some ⟨pbl0, 0, none⟩))) (Yields.nilCheck rfl) trivial rfl rfl ?_
   refine St.val (v := (.pointer (some ⟨pbl0, 5, none⟩))) (Yields.fieldAddr (v := (.pointer (some ⟨pbl0, 5, none⟩))) rfl (fun _ => by kernel_rfl)) trivial rfl rfl ?_
   refine St.store (R := [rowo pA5 a5.length pc5 26 1 pcl5]) rfl rfl 0 rfl rfl tc3 rfl rfl trivial (cs' := #[.slice pA1 a1.length pc1, .slice pA2 a2.length pc2, .int .i64 a3, .int .i64 a4, .slice pA5 a5.length pc5, .int .i64 (Mir.w64 (a6 + 1))]) rfl ?_
   refine St.nil ?_
   refine St.norm ?_
   refine St.seq ?_
   refine St.region ?_
   refine St.val (v := (.slice pA0 a0.length pc0)) (Yields.move rfl) trivial rfl rfl ?_
   refine St.val (v := (.int .i64 q7)) (Yields.move rfl) trivial rfl rfl ?_
   obtain ⟨x79, e80, hm⟩ := bS hm
   obtain ⟨p81, cs82, jx83, R84, k85⟩ := (Fsl.mono l10 ph0).idx e80
   obtain ⟨A86, c87, rfl, h88⟩ := R84
   refine St.val (v := (.pointer (some p81))) (Yields.idx jx83 ts22 rfl rfl) trivial rfl rfl ?_
   refine St.val (v := (.slice A86 x79.length c87)) (Yields.load rfl (Loads.Fat k85 tc26 rfl)) trivial rfl rfl ?_
   refine St.val (v := (.int .i64 ((x79.length : Nat) : Int))) (Yields.lenSlice tu26 rfl) trivial rfl rfl ?_
   refine St.val (v := (.int .i64 0)) (Yields.move rfl) trivial rfl rfl ?_
   refine St.nil ?_
   refine St.norm ?_
   refine St.block ?_
   refine St.loopM hm (fun s100 a w => ∃ (A105 : Option Addr) (c106 : Nat) (cells108 : List Value) (F110 : PH), PH.le F9 F110 ∧ Cat (Kind.sl 8 (Kind.int .i64)) F110 cells108 s100.1 ∧ Bnd 24 s100.1 ∧ Has Try.f36.ntmps a [(0, .pointer (some ⟨pbl0, 0, none⟩)), (1, .slice pA0 a0.length pc0), (4, .int .i64 q7), (61, .slice A86 x79.length c87), (62, .int .i64 ((x79.length : Nat) : Int)), (63, .int .i64 ((s100.2.2 : Nat) : Int))] ∧ Sat ⟨w0, fun b => m0 b ≠ none, F⟩ F110 [blk pbl0 (.cells #[.slice pA1 a1.length pc1, .slice pA2 a2.length pc2, .int .i64 a3, .int .i64 a4, .slice A105 s100.1.length c106, .int .i64 s100.2.1] 62 (0, 0)), rowo A105 s100.1.length c106 26 1 cells108] w) ?_ ?_
   ·skip
    intro a w ha hs
    exact ⟨pA5, pc5, pcl5, F9, (PH.le_refl _), (Cat.mono l10 ph5), pbd5, ha.covers ⟨rfl, rfl, rfl, rfl, rfl, rfl, trivial⟩, (Among.of (Among.take 0 rfl rfl (Among.take 0 rfl rfl Among.none)) _ hs)⟩
   ·rintro s100 o101 co102 hm ho103 a w ⟨A105, c106, cells108, F110, l111, h107, b109, ha, hs⟩
    refine St.use (?_ : St _ _ _ _ _ _) ha hs
    clear ha hs a w
    refine St.seq ?_
    refine St.region ?_
    refine St.val (v := (.bool (decide (((s100.2.2 : Nat) : Int) < ((x79.length : Nat) : Int))))) (Yields.lt rfl rfl) trivial rfl rfl ?_
    refine St.nil ?_
    refine St.norm ?_
    refine St.seq ?_
    refine St.cond_b rfl ?_ ?_
    ·intro q112
     replace q112 : ((s100.2.2 : Nat) : Int) < ((x79.length : Nat) : Int) := of_decide_eq_true q112
     replace hm := iT hm q112
     refine St.skip ?_
     refine St.norm ?_
     obtain ⟨o122, hm, ho123⟩ := jS hm
     refine St.cutI (fun a w => ∃ z113 : List (List Int) × Int, o122 = .inl z113 ∧ ∃ (A117 : Option Addr) (c118 : Nat) (cells120 : List Value) (F114 : PH), PH.le F110 F114 ∧ Cat (Kind.sl 8 (Kind.int .i64)) F114 cells120 z113.1 ∧ Bnd 24 z113.1 ∧ Has Try.f36.ntmps a [(0, .pointer (some ⟨pbl0, 0, none⟩)), (1, .slice pA0 a0.length pc0), (4, .int .i64 q7), (61, .slice A86 x79.length c87), (62, .int .i64 ((x79.length : Nat) : Int)), (63, .int .i64 ((s100.2.2 : Nat) : Int))] ∧ Sat ⟨w0, fun b => m0 b ≠ none, F⟩ F114 [blk pbl0 (.cells #[.slice pA1 a1.length pc1, .slice pA2 a2.length pc2, .int .i64 a3, .int .i64 a4, .slice A117 z113.1.length c118, .int .i64 z113.2] 62 (0, 0)), rowo A117 z113.1.length c118 26 1 cells120] w) ?_ ?_
     ·skip
      refine St.block ?_
      refine St.seq ?_
      refine St.region ?_
      obtain ⟨x124, e125, hm⟩ := bS hm
      obtain ⟨p126, cs127, jx128, R129, k130⟩ := (Fsl.mono l111 h88).nidx e125
      obtain rfl := R129
      refine St.val (v := (.pointer (some p126))) (Yields.idx jx128 ts26 rfl rfl) trivial rfl rfl ?_
      refine St.val (v := (.int .i64 x124)) (Yields.load rfl (Loads.Fat k130 tc3 rfl)) trivial rfl rfl ?_
      refine St.val (v := (.int .i64 x124)) (Yields.assign rfl) trivial rfl rfl ?_
      refine St.nil ?_
      refine St.norm ?_
      refine St.seq ?_
      refine St.seq ?_
      refine StD.start [] [blk pbl0 (.cells #[.slice pA1 a1.length pc1, .slice pA2 a2.length pc2, .int .i64 a3, .int .i64 a4, .slice A105 s100.1.length c106, .int .i64 s100.2.1] 62 (0, 0)), rowo A105 s100.1.length c106 26 1 cells108] hmix ?_
      refine StD.takeP (i := 0) (v := (.pointer (some ⟨pbl0, 0, none⟩))) rfl (fun _ => Yields.move rfl) rfl rfl trivial (by rintro _ _ _ ⟨_, _, _, _, h, _⟩; cases h) (by kernel_rfl) (listed' := #[true, false, false, false, false, false, false, false, false, false]) rfl ?_
      refine StD.takeP (i := 1) (v := (.pointer (some ⟨pbl0, 0, none⟩))) rfl (fun _ => Yields.nilCheck rfl) rfl rfl trivial (by rintro _ _ _ ⟨_, _, _, _, h, _⟩; cases h) (by kernel_rfl) (listed' := #[true, true, false, false, false, false, false, false, false, false]) rfl ?_
      refine StD.takeP (i := 2) (v := (.pointer (some ⟨pbl0, 4, none⟩))) rfl (fun _ => Yields.fieldAddr (v := (.pointer (some ⟨pbl0, 4, none⟩))) rfl (fun _ => by kernel_rfl)) rfl rfl trivial (by rintro _ _ _ ⟨_, _, _, _, h, _⟩; cases h) (by kernel_rfl) (listed' := #[true, true, true, false, false, false, false, false, false, false]) rfl ?_
      refine StD.take [0, 1, 2, 4, 5, 6, 7, 9] (i := 3) (v := (.slice A105 s100.1.length c106)) rfl (Yields.load rfl (Loads.H1 0 rfl tc22 rfl)) rfl rfl trivial Among.refl (by rintro _ _ _ ⟨_, _, _, _, h, _⟩; cases h) (by kernel_rfl) (listed' := #[true, true, true, true, false, false, false, false, false, false]) rfl ?_
      refine StD.takeP (i := 4) (v := (.int .i64 ((s100.1.length : Nat) : Int))) rfl (fun _ => Yields.lenSlice tu22 rfl) rfl rfl trivial (by rintro _ _ _ ⟨_, _, _, _, h, _⟩; cases h) (by kernel_rfl) (listed' := #[true, true, true, true, true, false, false, false, false, false]) rfl ?_
      refine StD.takeP (i := 5) (v := (.pointer (some ⟨pbl0, 0, none⟩))) rfl (fun _ => Yields.move rfl) rfl rfl trivial (by rintro _ _ _ ⟨_, _, _, _, h, _⟩; cases h) (by kernel_rfl) (listed' := #[true, true, true, true, true, true, false, false, false, false]) rfl ?_
      refine StD.takeP (i := 6) (v := (.pointer (some ⟨pbl0, 0, none⟩))) rfl (fun _ => Yields.nilCheck rfl) rfl rfl trivial (by rintro _ _ _ ⟨_, _, _, _, h, _⟩; cases h) (by kernel_rfl) (listed' := #[true, true, true, true, true, true, true, false, false, false]) rfl ?_
      refine StD.takeP (i := 7) (v := (.pointer (some ⟨pbl0, 3, none⟩))) rfl (fun _ => Yields.fieldAddr (v := (.pointer (some ⟨pbl0, 3, none⟩))) rfl (fun _ => by kernel_rfl)) rfl rfl trivial (by rintro _ _ _ ⟨_, _, _, _, h, _⟩; cases h) (by kernel_rfl) (listed' := #[true, true, true, true, true, true, true, true, false, false]) rfl ?_
      refine StD.take [0, 1, 2, 4, 5, 6, 7, 9] (i := 8) (v := (.int .i64 a4)) rfl (Yields.load rfl (Loads.H1 0 rfl tc3 rfl)) rfl rfl trivial Among.refl (by rintro _ _ _ ⟨_, _, _, _, h, _⟩; cases h) (by kernel_rfl) (listed' := #[true, true, true, true, true, true, true, true, true, false]) rfl ?_
      refine StD.takeP (i := 9) (v := (.bool (decide (((s100.1.length : Nat) : Int) > a4)))) rfl (fun _ => Yields.gt rfl rfl) rfl rfl trivial (by rintro _ _ _ ⟨_, _, _, _, h, _⟩; cases h) (by kernel_rfl) (listed' := #[true, true, true, true, true, true, true, true, true, true]) rfl ?_
      refine StD.done (by kernel_rfl) ?_
      refine St.norm ?_
      refine St.cond_b rfl ?_ ?_
      ·intro q131
       replace q131 : ((s100.1.length : Nat) : Int) > a4 := of_decide_eq_true q131
       replace hm := iT hm q131
       refine St.ret ?_
       refine St.thenret ?_
       refine St.inret ?_
       refine St.thenret ?_
       refine St.thenret ?_
       refine St.inret ?_
       obtain rfl := sI hm
       obtain rfl := aR ho123
       obtain rfl := aR ho103
       exact St.doneR0 rfl ⟨A105, c106, cells108, rfl, h107, b109, rfl⟩ (fun w hs => Among.of (Among.take 0 rfl rfl (Among.take 0 rfl rfl Among.none)) w hs)
      ·intro q132
       replace q132 : ¬ (((s100.1.length : Nat) : Int) > a4) := of_decide_eq_false q132
       replace hm := iF hm q132
       refine St.skip ?_
       refine St.norm ?_
       refine St.seq ?_
       refine St.region ?_
       refine St.val (v := (.slice pA0 a0.length pc0)) (Yields.move rfl) trivial rfl rfl ?_
       refine St.rowo_new 26 1 ?_
       obtain ⟨x138, e139, hm⟩ := bS hm
       refine St.pushS (R := [blk pbl0 (.cells #[.slice pA1 a1.length pc1, .slice pA2 a2.length pc2, .int .i64 a3, .int .i64 a4, .slice A105 s100.1.length c106, .int .i64 s100.2.1] 62 (0, 0)), rowo A105 s100.1.length c106 26 1 cells108]) e139 ts22 rfl rfl rfl rfl 0 rfl rfl (show Cat (Kind.sl 8 (Kind.int .i64)) _ [] [] from rfl) (Fsl.mono (PH.le_trans l10 l111) ph0) rfl trivial ?_
       intro A134 c135 cells136 h137
       refine St.val (v := (.slice A134 x138.length c135)) (Yields.assign rfl) trivial rfl rfl ?_
       refine St.nil ?_
       refine St.norm ?_
       refine St.seq ?_
       refine St.region ?_
       refine St.val (v := (.slice A134 x138.length c135)) (Yields.move rfl) trivial rfl rfl ?_
       refine St.val (v := (.int .i64 q7)) (Yields.move rfl) trivial rfl rfl ?_
       refine St.val (v := (.int .i64 x124)) (Yields.move rfl) trivial rfl rfl ?_
       refine St.buildSlice (e := 3) (cells := #[.int .i64 x124]) (vs := #[(0, .int .i64 x124)]) (fun _ ha => evp1 ha rfl) (fun _ => by kernel_rfl) rfl trivial ?_
       intro b141
       refine St.weak (R := [rowo A134 x138.length c135 26 1 cells136, blk pbl0 (.cells #[.slice pA1 a1.length pc1, .slice pA2 a2.length pc2, .int .i64 a3, .int .i64 a4, .slice A105 s100.1.length c106, .int .i64 s100.2.1] 62 (0, 0)), rowo A105 s100.1.length c106 26 1 cells108]) (c' := rowo (some ⟨b141, 0, none⟩) ([x124] : List Int).length 1 3 1 [.int .i64 x124]) 0 rfl rfl (fun m hm => rowo_of_row (row_of_blk (k := 1) rfl (by decide) hm)) ?_
       obtain ⟨x143, e144, hm⟩ := bS hm
       obtain ⟨jx145, jx146, cs147, R148, k149⟩ := h137.idx e144
       obtain ⟨A150, c151, rfl, h152⟩ := R148
       refine St.rowo_at 1 rfl (by omega) ?_
       intro hA154
       refine St.val (v := (.pointer (some ⟨bk A134, bo A134 + q7.toNat * 1, none⟩))) (Yields.idx (IdxAt.own hA154 jx145 jx146) ts22 rfl rfl) trivial rfl rfl ?_
       refine St.frz 0 rfl rfl rfl (show Cat (Kind.int .i64) F110 [.int .i64 x124] ([x124] : List Int) from ⟨[.int .i64 x124], _, rfl, rfl, rfl⟩) (show Bnd 8 ([x124] : List Int) from ⟨by simp, by simp⟩) ?_
       intro F155 l156 h157
       obtain ⟨x160, e161, hm⟩ := bS hm
       refine St.putK1 (R := [blk pbl0 (.cells #[.slice pA1 a1.length pc1, .slice pA2 a2.length pc2, .int .i64 a3, .int .i64 a4, .slice A105 s100.1.length c106, .int .i64 s100.2.1] 62 (0, 0)), rowo A105 s100.1.length c106 26 1 cells108]) e161 (Cat.mono l156 h137) (show ((Kind.sl 8 (Kind.int .i64))).R _ [.slice (some ⟨b141, 0, none⟩) ([x124] : List Int).length 1] ([x124] : List Int) from ⟨_, _, rfl, h157⟩) rfl rfl rfl 0 rfl rfl tc26 rfl trivial ?_
       intro cells159 h158
       try rw [upd_len e161]
       refine St.nil ?_
       refine St.norm ?_
       refine St.seq ?_
       refine St.region ?_
       refine St.val (v := (.slice A134 x160.length c135)) (Yields.move rfl) trivial rfl rfl ?_
       refine St.val (v := (.pointer (some ⟨pbl0, 0, none⟩))) (Yields.move rfl) trivial rfl rfl ?_
       refine St.val (v := (.pointer (some ⟨pbl0, 0, none⟩))) (Yields.nilCheck rfl) trivial rfl rfl ?_
       refine St.val (v := (.pointer (some ⟨pbl0, 0, none⟩))) (Yields.fieldAddr (v := (.pointer (some ⟨pbl0, 0, none⟩))) rfl (fun _ => by kernel_rfl)) trivial rfl rfl ?_
       refine St.val (v := (.pointer (some ⟨pbl0, 1, none⟩))) (Yields.fieldAddr (v := (.pointer (some ⟨pbl0, 1, none⟩))) rfl (fun _ => by kernel_rfl)) trivial rfl rfl ?_
       refine St.val (v := (.slice pA2 a2.length pc2)) (Yields.load rfl (Loads.H1 1 rfl tc23 rfl)) trivial rfl rfl ?_
       refine St.pick (R := [blk pbl0 (.cells #[.slice pA1 a1.length pc1, .slice pA2 a2.length pc2, .int .i64 a3, .int .i64 a4, .slice A105 s100.1.length c106, .int .i64 s100.2.1] 62 (0, 0)), rowo A105 s100.1.length c106 26 1 cells108]) 0 rfl rfl ?_
       obtain ⟨q162, e163, hm⟩ := bS hm
       refine St.call [blk pbl0 (.cells #[.slice pA1 a1.length pc1, .slice pA2 a2.length pc2, .int .i64 a3, .int .i64 a4, .slice A105 s100.1.length c106, .int .i64 s100.2.1] 62 (0, 0)), rowo A105 s100.1.length c106 26 1 cells108] (m_domain_narrow_2_sp h158 (Bnd.of_upd (Bnd.of_push e139) e161) (Fsl.mono (PH.le_trans l10 (PH.le_trans l111 l156)) ph2) e163) rfl (fun _ ha => ev2 ha rfl rfl) rfl en28 rfl rfl trivial ?_
       rintro _ F164 _ ⟨A166, c167, cells170, rfl, h168, b171, rfl⟩ l165
       refine St.val (v := (.tuple #[.slice A166 q162.1.length c167, .bool q162.2])) (Yields.move rfl) trivial rfl rfl ?_
       refine St.val (v := (.slice A166 q162.1.length c167)) (Yields.extract rfl rfl) trivial rfl rfl ?_
       refine St.val (v := (.bool q162.2)) (Yields.extract rfl rfl) trivial rfl rfl ?_
       refine St.val (v := (.slice A166 q162.1.length c167)) (Yields.assign rfl) trivial rfl rfl ?_
       refine St.val (v := (.bool q162.2)) (Yields.assign rfl) trivial rfl rfl ?_
       refine St.nil ?_
       refine St.norm ?_
       refine St.seq ?_
       refine St.region ?_
       refine St.val (v := (.bool q162.2)) (Yields.move rfl) trivial rfl rfl ?_
       refine St.nil ?_
       refine St.norm ?_
       refine St.cond_b rfl ?_ ?_
       ·intro q172
        replace q172 : q162.2 = true := q172
        replace hm := iT hm q172
        refine St.region ?_
        refine St.val (v := (.pointer (some ⟨pbl0, 0, none⟩))) (Yields.move rfl) trivial rfl rfl ?_
        refine St.val (v := (.slice A166 q162.1.length c167)) (Yields.move rfl) trivial rfl rfl ?_
        refine St.frz 0 rfl rfl rfl h168 b171 ?_
        intro F173 l174 h175
        refine St.pick (R := [blk pbl0 (.cells #[.slice pA1 a1.length pc1, .slice pA2 a2.length pc2, .int .i64 a3, .int .i64 a4, .slice A105 s100.1.length c106, .int .i64 s100.2.1] 62 (0, 0))]) 1 rfl rfl ?_
        refine St.pick (R := [rowo A105 s100.1.length c106 26 1 cells108]) 1 rfl rfl ?_
        obtain ⟨q176, e177, hm⟩ := bS hm
        refine St.call [] (ih_m_domain_solver_from h175 (Fsl.mono (PH.le_trans l10 (PH.le_trans l111 (PH.le_trans l156 (PH.le_trans l165 l174)))) ph1) (Fsl.mono (PH.le_trans l10 (PH.le_trans l111 (PH.le_trans l156 (PH.le_trans l165 l174)))) ph2) (Cat.mono (PH.le_trans l156 (PH.le_trans l165 l174)) h107) b109 e177) rfl (fun _ ha => ev2 ha rfl rfl) rfl en36 rfl rfl trivial ?_
        rintro _ F178 _ ⟨A180, c181, cells184, rfl, h182, b185, rfl⟩ l179
        refine St.nil ?_
        refine St.innorm ?_
        obtain rfl := sI hm
        intro a w ha hs
        exact ⟨(q176.1, q176.2), rfl, A180, c181, cells184, F178, (PH.le_trans l156 (PH.le_trans l165 (PH.le_trans l174 l179))), h182, b185, ha.covers ⟨rfl, rfl, rfl, rfl, rfl, rfl, trivial⟩, (Among.of (Among.take 0 rfl rfl (Among.take 0 rfl rfl Among.none)) _ hs)⟩
       ·intro q186
        replace q186 : ¬ (q162.2 = true) := bf q186
        replace hm := iF hm q186
        refine St.skip ?_
        refine St.innorm ?_
        obtain rfl := sI hm
        intro a w ha hs
        exact ⟨(s100.1, s100.2.1), rfl, A105, c106, cells108, F164, (PH.le_trans l156 l165), (Cat.mono (PH.le_trans l156 l165) h107), b109, ha.covers ⟨rfl, rfl, rfl, rfl, rfl, rfl, trivial⟩, (Among.of (Among.take 1 rfl rfl (Among.take 1 rfl rfl Among.none)) _ hs)⟩
     ·rintro a w ⟨z113, rfl, A117, c118, cells120, F114, l115, h119, b121, ha, hs⟩
      replace hm := aL ho123
      refine St.use (?_ : St _ _ _ _ _ _) ha hs
      clear ha hs a w
      refine St.region ?_
      refine St.val (v := (.int .i64 ((s100.2.2 + 1 : Nat) : Int))) (Yields.addn (j := 1) rfl rfl rfl (by have q_0 := q112; have q_1 := h88.bnd.2; omega)) trivial rfl rfl ?_
      refine St.val (v := (.int .i64 ((s100.2.2 + 1 : Nat) : Int))) (Yields.move rfl) trivial rfl rfl ?_
      refine St.nil ?_
      refine St.norm ?_
      obtain rfl := sI hm
      intro a w ha hs
      exact ⟨(z113.1, z113.2, s100.2.2 + 1), aL ho103, A117, c118, cells120, F114, (PH.le_trans l111 l115), h119, b121, ha.covers ⟨rfl, rfl, rfl, rfl, rfl, rfl, trivial⟩, (Among.of (Among.take 0 rfl rfl (Among.take 0 rfl rfl Among.none)) _ hs)⟩
    ·intro q187
     replace q187 : ¬ (((s100.2.2 : Nat) : Int) < ((x79.length : Nat) : Int)) := of_decide_eq_false q187
     replace hm := iF hm q187
     refine St.exit ?_
     refine St.thenexit ?_
     refine St.thenexit ?_
     refine St.inexit ?_
     obtain rfl := sI hm
     obtain rfl := aR ho103
     exact St.endR0 rfl ⟨A105, c106, cells108, rfl, h107, b109, rfl⟩ (fun w hs => Among.of (Among.take 0 rfl rfl (Among.take 0 rfl rfl Among.none)) w hs)
theorem m_domain_solver_from_all : ∀ g, m_domain_solver_from_S g
 | 0 => (by (try unfold m_domain_solver_from_S); intros; rename_i hm; exact nomatch (show (none : Option _) = some _ from hm))
 | g + 1 => m_domain_solver_from_st (m_domain_solver_from_all g)
theorem m_domain_solver_from_sp {F : PH} {g : Nat} {a0 : List (List Int)} {a1 : List (List Int)} {a2 : List DLimit} {a3 : Int} {a4 : Int} {a5 : List (List Int)} {a6 : Int} {pbl0 : Nat} {pA0 : Option Addr} {pc0 : Nat} {pA1 : Option Addr} {pc1 : Nat} {pA2 : Option Addr} {pc2 : Nat} {pA5 : Option Addr} {pc5 : Nat} {pcl5 : List Value} (ph0 : Fsl 24 (Kind.sl 8 (Kind.int .i64)) F pA0 pc0 a0) (ph1 : Fsl 24 (Kind.sl 8 (Kind.int .i64)) F pA1 pc1 a1) (ph2 : Fsl 88 KDLimit F pA2 pc2 a2) (ph5 : Cat (Kind.sl 8 (Kind.int .i64)) F pcl5 a5) (pbd5 : Bnd 24 a5) {r : List (List Int) × Int} (hm : m_domain_solver_from g a0 a1 a2 a3 a4 a5 a6 = some r) :
  CallSp Try.prog 36 #[.pointer (some ⟨pbl0, 0, none⟩), .slice pA0 a0.length pc0] F [blk pbl0 (.cells #[.slice pA1 a1.length pc1, .slice pA2 a2.length pc2, .int .i64 a3, .int .i64 a4, .slice pA5 a5.length pc5, .int .i64 a6] 62 (0, 0)), rowo pA5 a5.length pc5 26 1 pcl5] (fun u F' H' => ∃ (G5 : Option Addr) (e5 : Nat) (gl5 : List Value), u = (.tuple #[]) ∧ Cat (Kind.sl 8 (Kind.int .i64)) F' gl5 r.1 ∧ Bnd 24 r.1 ∧ H' = [blk pbl0 (.cells #[.slice pA1 a1.length pc1, .slice pA2 a2.length pc2, .int .i64 a3, .int .i64 a4, .slice G5 r.1.length e5, .int .i64 r.2] 62 (0, 0)), rowo G5 r.1.length e5 26 1 gl5]) := (m_domain_solver_from_all g) ph0 ph1 ph2 ph5 pbd5 hm

theorem m_domain_Solve_sp {F : PH} {g : Nat} {a0 : DProblem} {a1 : Int} {a2 : Int} {pA0_0 : Option Addr} {pc0_0 : Nat} {pA0_1 : Option Addr} {pc0_1 : Nat} (ph0_0 : Fsl 24 (Kind.sl 8 (Kind.int .i64)) F pA0_0 pc0_0 a0.Doms) (ph0_1 : Fsl 88 KDLimit F pA0_1 pc0_1 a0.Limits) {r : List (List Int) × Bool × Int × Int} (hm : m_domain_Solve g a0 a1 a2 = some r) :
  CallSp Try.prog 15 #[.agg #[.slice pA0_0 a0.Doms.length pc0_0, .slice pA0_1 a0.Limits.length pc0_1], .int .i64 a1, .int .i64 a2] F [] (fun u F' H' => ∃ (B0 : Option Addr) (d0 : Nat), u = (.tuple #[.slice B0 r.1.length d0, .bool r.2.1, .int .i64 r.2.2.1, .int .i64 r.2.2.2]) ∧ Fsl 24 (Kind.sl 8 (Kind.int .i64)) F' B0 d0 r.1 ∧ H' = []) := by
 unfold m_domain_Solve at hm
 refine CallSp.enter (args := [.agg #[.slice pA0_0 a0.Doms.length pc0_0, .slice pA0_1 a0.Limits.length pc0_1], .int .i64 a1, .int .i64 a2]) Try.func15 rfl rfl ?_
 intro w0 m0 hm0
 refine St.seq ?_
 refine St.region ?_
 refine St.box rfl trivial rfl ?_
 intro b3
 refine St.val (v := (.slice none 0 0)) (Yields.assign rfl) trivial rfl rfl ?_
 refine St.val (v := (.bool false)) (Yields.assign rfl) trivial rfl rfl ?_
 refine St.val (v := (.int .i64 0)) (Yields.assign rfl) trivial rfl rfl ?_
 refine St.val (v := (.int .i64 0)) (Yields.assign rfl) trivial rfl rfl ?_
 refine St.nil ?_
 refine St.norm ?_
 refine St.seq ?_
 refine St.seq ?_
 refine St.region ?_
 refine St.val (v := (.agg #[.slice pA0_0 a0.Doms.length pc0_0, .slice pA0_1 a0.Limits.length pc0_1])) (Yields.load rfl (Loads.Hk (vs := [.slice pA0_0 a0.Doms.length pc0_0, .slice pA0_1 a0.Limits.length pc0_1]) 0 rfl ta25 rfl rfl)) trivial rfl rfl ?_
 obtain ⟨q4, e5, hm⟩ := bS hm
 refine St.call [blk b3 (.cells #[.slice pA0_0 a0.Doms.length pc0_0, .slice pA0_1 a0.Limits.length pc0_1] 25 (0, 0))] (m_domain_Validate_sp (a0 := a0) ph0_0 ph0_1 e5) rfl (fun _ ha => ev1 ha rfl) rfl en6 rfl rfl trivial ?_
 rintro _ F6 _ ⟨rfl, rfl⟩ l7
 refine St.val (v := (.int .i64 q4)) (Yields.assign rfl) trivial rfl rfl ?_
 refine St.nil ?_
 refine St.norm ?_
 refine St.seq ?_
 refine St.region ?_
 refine St.val (v := (.int .i64 q4)) (Yields.move rfl) trivial rfl rfl ?_
 refine St.val (v := (.bool (!decide (q4 = 0)))) (Yields.ne rfl rfl) trivial rfl rfl ?_
 refine St.nil ?_
 refine St.norm ?_
 refine St.cond_b rfl ?_ ?_
 ·intro q8
  replace q8 : ¬ (q4 = 0) := nd_t q8
  replace hm := iF hm q8
  refine St.seq ?_
  refine St.region ?_
  refine St.val (v := (.int .i64 q4)) (Yields.move rfl) trivial rfl rfl ?_
  refine St.val (v := (.slice none 0 0)) (Yields.assign rfl) trivial rfl rfl ?_
  refine St.val (v := (.bool false)) (Yields.assign rfl) trivial rfl rfl ?_
  refine St.val (v := (.int .i64 0)) (Yields.assign rfl) trivial rfl rfl ?_
  refine St.val (v := (.int .i64 q4)) (Yields.assign rfl) trivial rfl rfl ?_
  refine St.nil ?_
  refine St.norm ?_
  refine St.ret ?_
  refine St.thenret ?_
  obtain rfl := sI hm
  exact St.doneR4 rfl rfl rfl rfl rfl ⟨none, 0, rfl, Fsl.nil, rfl⟩ (fun w hs => Among.of Among.none w hs)
 ·intro q9
  replace q9 : q4 = 0 := nd_f q9
  replace hm := iT hm q9
  refine St.skip ?_
  refine St.norm ?_
  refine St.seq ?_
  obtain ⟨z10, hm, hk11⟩ := bS hm
  refine St.cutI (fun a w => Has Try.f15.ntmps a [(1, .int .i64 a1), (2, .int .i64 a2), (3, .pointer (some ⟨b3, 0, none⟩)), (32, .bool z10)] ∧ Sat ⟨w0, fun b => m0 b ≠ none, F⟩ F6 [blk b3 (.cells #[.slice pA0_0 a0.Doms.length pc0_0, .slice pA0_1 a0.Limits.length pc0_1] 25 (0, 0))] w) ?_ ?_
  ·skip
   refine St.region ?_
   refine St.val (v := (.int .i64 a1)) (Yields.move rfl) trivial rfl rfl ?_
   by_cases q12 : a1 < 0
   ·replace hm := iT hm q12
    refine St.val (v := (.bool true)) (Yields.is q12 (Yields.lt rfl rfl)) trivial rfl rfl ?_
    refine St.val (v := (.bool true)) (Yields.move rfl) trivial rfl rfl ?_
    refine St.unwanted rfl rfl rfl ?_
    refine St.unwanted rfl rfl rfl ?_
    refine St.val (v := (.bool true)) (Yields.pick_t rfl rfl) trivial rfl rfl ?_
    refine St.val (v := (.bool true)) (Yields.move rfl) trivial rfl rfl ?_
    refine St.unwanted rfl rfl rfl ?_
    refine St.unwanted rfl rfl rfl ?_
    refine St.val (v := (.bool true)) (Yields.pick_t rfl rfl) trivial rfl rfl ?_
    refine St.val (v := (.bool true)) (Yields.move rfl) trivial rfl rfl ?_
    refine St.unwanted rfl rfl rfl ?_
    refine St.unwanted rfl rfl rfl ?_
    refine St.val (v := (.bool true)) (Yields.pick_t rfl rfl) trivial rfl rfl ?_
    refine St.nil ?_
    obtain rfl := sI hm
    intro a w ha hs
    exact ⟨ha.covers ⟨rfl, rfl, rfl, rfl, trivial⟩, (Among.of (Among.take 0 rfl rfl Among.none) _ hs)⟩
   ·replace hm := iF hm q12
    refine St.val (v := (.bool false)) (Yields.isnt q12 (Yields.lt rfl rfl)) trivial rfl rfl ?_
    refine St.val (v := (.bool false)) (Yields.move rfl) trivial rfl rfl ?_
    refine St.val (v := (.int .i64 a1)) (Yields.move rfl) rfl rfl rfl ?_
    by_cases q13 : a1 > 2
    ·replace hm := iT hm q13
     refine St.val (v := (.bool true)) (Yields.is q13 (Yields.gt rfl rfl)) rfl rfl rfl ?_
     refine St.val (v := (.bool true)) (Yields.pick_f rfl rfl) trivial rfl rfl ?_
     refine St.val (v := (.bool true)) (Yields.move rfl) trivial rfl rfl ?_
     refine St.unwanted rfl rfl rfl ?_
     refine St.unwanted rfl rfl rfl ?_
     refine St.val (v := (.bool true)) (Yields.pick_t rfl rfl) trivial rfl rfl ?_
     refine St.val (v := (.bool true)) (Yields.move rfl) trivial rfl rfl ?_
     refine St.unwanted rfl rfl rfl ?_
     refine St.unwanted rfl rfl rfl ?_
     refine St.val (v := (.bool true)) (Yields.pick_t rfl rfl) trivial rfl rfl ?_
     refine St.nil ?_
     obtain rfl := sI hm
     intro a w ha hs
     exact ⟨ha.covers ⟨rfl, rfl, rfl, rfl, trivial⟩, (Among.of (Among.take 0 rfl rfl Among.none) _ hs)⟩
    ·replace hm := iF hm q13
     refine St.val (v := (.bool false)) (Yields.isnt q13 (Yields.gt rfl rfl)) rfl rfl rfl ?_
     refine St.val (v := (.bool false)) (Yields.pick_f rfl rfl) trivial rfl rfl ?_
     refine St.val (v := (.bool false)) (Yields.move rfl) trivial rfl rfl ?_
     refine St.val (v := (.int .i64 a2)) (Yields.move rfl) rfl rfl rfl ?_
     by_cases q14 : a2 < 1
     ·replace hm := iT hm q14
      refine St.val (v := (.bool true)) (Yields.is q14 (Yields.lt rfl rfl)) rfl rfl rfl ?_
      refine St.val (v := (.bool true)) (Yields.pick_f rfl rfl) trivial rfl rfl ?_
      refine St.val (v := (.bool true)) (Yields.move rfl) trivial rfl rfl ?_
      refine St.unwanted rfl rfl rfl ?_
      refine St.unwanted rfl rfl rfl ?_
      refine St.val (v := (.bool true)) (Yields.pick_t rfl rfl) trivial rfl rfl ?_
      refine St.nil ?_
      obtain rfl := sI hm
      intro a w ha hs
      exact ⟨ha.covers ⟨rfl, rfl, rfl, rfl, trivial⟩, (Among.of (Among.take 0 rfl rfl Among.none) _ hs)⟩
     ·replace hm := iF hm q14
      refine St.val (v := (.bool false)) (Yields.isnt q14 (Yields.lt rfl rfl)) rfl rfl rfl ?_
      refine St.val (v := (.bool false)) (Yields.pick_f rfl rfl) trivial rfl rfl ?_
      refine St.val (v := (.bool false)) (Yields.move rfl) trivial rfl rfl ?_
      refine St.val (v := (.int .i64 a2)) (Yields.move rfl) rfl rfl rfl ?_
      refine St.val (v := (.bool (decide (a2 > 2000)))) (Yields.gt rfl rfl) rfl rfl rfl ?_
      refine St.val (v := (.bool (decide (a2 > 2000)))) (Yields.pick_f rfl rfl) trivial rfl rfl ?_
      refine St.nil ?_
      obtain rfl := sI hm
      intro a w ha hs
      exact ⟨ha.covers ⟨rfl, rfl, rfl, rfl, trivial⟩, (Among.of (Among.take 0 rfl rfl Among.none) _ hs)⟩
  ·rintro a w ⟨ha, hs⟩
   replace hm := hk11
   refine St.use (?_ : St _ _ _ _ _ _) ha hs
   clear ha hs a w
   refine St.cond_b rfl ?_ ?_
   ·intro q15
    replace q15 : z10 = true := q15
    replace hm := iT hm q15
    refine St.seq ?_
    refine St.region ?_
    refine St.val (v := (.slice none 0 0)) (Yields.assign rfl) trivial rfl rfl ?_
    refine St.val (v := (.bool false)) (Yields.assign rfl) trivial rfl rfl ?_
    refine St.val (v := (.int .i64 0)) (Yields.assign rfl) trivial rfl rfl ?_
    refine St.val (v := (.int .i64 1)) (Yields.assign rfl) trivial rfl rfl ?_
    refine St.nil ?_
    refine St.norm ?_
    refine St.ret ?_
    refine St.thenret ?_
    obtain rfl := sI hm
    exact St.doneR4 rfl rfl rfl rfl rfl ⟨none, 0, rfl, Fsl.nil, rfl⟩ (fun w hs => Among.of Among.none w hs)
   ·intro q16
    replace q16 : ¬ (z10 = true) := bf q16
    replace hm := iF hm q16
    refine St.skip ?_
    refine St.norm ?_
    refine St.seq ?_
    refine St.seq ?_
    refine St.region ?_
    refine St.val (v := (.agg #[.slice pA0_0 a0.Doms.length pc0_0, .slice pA0_1 a0.Limits.length pc0_1])) (Yields.load rfl (Loads.Hk (vs := [.slice pA0_0 a0.Doms.length pc0_0, .slice pA0_1 a0.Limits.length pc0_1]) 0 rfl ta25 rfl rfl)) trivial rfl rfl ?_
    obtain ⟨q17, e18, hm⟩ := bS hm
    refine St.call [blk b3 (.cells #[.slice pA0_0 a0.Doms.length pc0_0, .slice pA0_1 a0.Limits.length pc0_1] 25 (0, 0))] (m_domain_isCostly_sp (a0 := a0) (Fsl.mono l7 ph0_0) (Fsl.mono l7 ph0_1) e18) rfl (fun _ ha => ev1 ha rfl) rfl en27 rfl rfl trivial ?_
    rintro _ F19 _ ⟨rfl, rfl⟩ l20
    refine St.nil ?_
    refine St.norm ?_
    refine St.cond_b rfl ?_ ?_
    ·intro q21
     replace q21 : q17 = true := q21
     replace hm := iT hm q21
     refine St.seq ?_
     refine St.region ?_
     refine St.val (v := (.slice none 0 0)) (Yields.assign rfl) trivial rfl rfl ?_
     refine St.val (v := (.bool false)) (Yields.assign rfl) trivial rfl rfl ?_
     refine St.val (v := (.int .i64 0)) (Yields.assign rfl) trivial rfl rfl ?_
     refine St.val (v := (.int .i64 3)) (Yields.assign rfl) trivial rfl rfl ?_
     refine St.nil ?_
     refine St.norm ?_
     refine St.ret ?_
     refine St.thenret ?_
     obtain rfl := sI hm
     exact St.doneR4 rfl rfl rfl rfl rfl ⟨none, 0, rfl, Fsl.nil, rfl⟩ (fun w hs => Among.of Among.none w hs)
    ·intro q22
     replace q22 : ¬ (q17 = true) := bf q22
     replace hm := iF hm q22
     refine St.skip ?_
     refine St.norm ?_
     refine St.seq ?_
     refine St.region ?_
     refine St.val (v := (.agg #[.slice pA0_0 a0.Doms.length pc0_0, .slice pA0_1 a0.Limits.length pc0_1])) (Yields.load rfl (Loads.Hk (vs := [.slice pA0_0 a0.Doms.length pc0_0, .slice pA0_1 a0.Limits.length pc0_1]) 0 rfl ta25 rfl rfl)) trivial rfl rfl ?_
     refine St.val (v := (.int .i64 a1)) (Yields.move rfl) trivial rfl rfl ?_
     refine St.val (v := (.int .i64 a2)) (Yields.move rfl) trivial rfl rfl ?_
     refine St.val (v := (.agg #[.slice pA0_0 a0.Doms.length pc0_0, .slice pA0_1 a0.Limits.length pc0_1, .int .i64 a1, .int .i64 a2, .slice none 0 0, .int .i64 0])) (Yields.build (v := (.agg #[.slice pA0_0 a0.Doms.length pc0_0, .slice pA0_1 a0.Limits.length pc0_1, .int .i64 a1, .int .i64 a2, .slice none 0 0, .int .i64 0])) (vs := #[(0, .agg #[.slice pA0_0 a0.Doms.length pc0_0, .slice pA0_1 a0.Limits.length pc0_1]), (1, .int .i64 a1), (2, .int .i64 a2)]) (fun _ ha => evp3 ha rfl rfl rfl) (fun _ => by kernel_rfl)) trivial rfl rfl ?_
     refine St.box rfl trivial rfl ?_
     intro b23
     refine St.val (v := (.pointer (some ⟨b23, 0, none⟩))) (Yields.assign rfl) trivial rfl rfl ?_
     refine St.nil ?_
     refine St.norm ?_
     obtain ⟨z24, hm, hk33⟩ := bS hm
     refine St.cutI (fun a w => ∃ (A28 : Option Addr) (c29 : Nat) (cells31 : List Value) (F25 : PH), PH.le F19 F25 ∧ Cat (Kind.sl 8 (Kind.int .i64)) F25 cells31 z24.1 ∧ Bnd 24 z24.1 ∧ Has Try.f15.ntmps a [(2, .int .i64 a2), (11, .pointer (some ⟨b23, 0, none⟩))] ∧ Sat ⟨w0, fun b => m0 b ≠ none, F⟩ F25 [blk b23 (.cells #[.slice pA0_0 a0.Doms.length pc0_0, .slice pA0_1 a0.Limits.length pc0_1, .int .i64 a1, .int .i64 a2, .slice A28 z24.1.length c29, .int .i64 z24.2] 62 (0, 0)), rowo A28 z24.1.length c29 26 1 cells31] w) ?_ ?_
     ·skip
      refine St.seq ?_
      refine St.region ?_
      refine St.val (v := (.pointer (some ⟨b3, 0, none⟩))) (Yields.fieldAddr (v := (.pointer (some ⟨b3, 0, none⟩))) rfl (fun _ => by kernel_rfl)) trivial rfl rfl ?_
      refine St.val (v := (.slice pA0_0 a0.Doms.length pc0_0)) (Yields.load rfl (Loads.H1 1 rfl tc22 rfl)) trivial rfl rfl ?_
      refine St.val (v := (.pointer (some ⟨b3, 1, none⟩))) (Yields.fieldAddr (v := (.pointer (some ⟨b3, 1, none⟩))) rfl (fun _ => by kernel_rfl)) trivial rfl rfl ?_
      refine St.val (v := (.slice pA0_1 a0.Limits.length pc0_1)) (Yields.load rfl (Loads.H1 1 rfl tc23 rfl)) trivial rfl rfl ?_
      obtain ⟨q34, e35, hm⟩ := bS hm
      refine St.call [blk b23 (.cells #[.slice pA0_0 a0.Doms.length pc0_0, .slice pA0_1 a0.Limits.length pc0_1, .int .i64 a1, .int .i64 a2, .slice none 0 0, .int .i64 0] 62 (0, 0)), blk b3 (.cells #[.slice pA0_0 a0.Doms.length pc0_0, .slice pA0_1 a0.Limits.length pc0_1] 25 (0, 0))] (m_domain_narrow_sp (Fsl.mono (PH.le_trans l7 l20) ph0_0) (Fsl.mono (PH.le_trans l7 l20) ph0_1) e35) rfl (fun _ ha => ev2 ha rfl rfl) rfl en28 rfl rfl trivial ?_
      rintro _ F36 _ ⟨A38, c39, rfl, h40, rfl⟩ l37
      refine St.val (v := (.tuple #[.slice A38 q34.1.length c39, .bool q34.2])) (Yields.move rfl) trivial rfl rfl ?_
      refine St.val (v := (.slice A38 q34.1.length c39)) (Yields.extract rfl rfl) trivial rfl rfl ?_
      refine St.val (v := (.bool q34.2)) (Yields.extract rfl rfl) trivial rfl rfl ?_
      refine St.val (v := (.slice A38 q34.1.length c39)) (Yields.assign rfl) trivial rfl rfl ?_
      refine St.val (v := (.bool q34.2)) (Yields.assign rfl) trivial rfl rfl ?_
      refine St.nil ?_
      refine St.norm ?_
      refine St.seq ?_
      refine St.region ?_
      refine St.val (v := (.bool q34.2)) (Yields.move rfl) trivial rfl rfl ?_
      refine St.nil ?_
      refine St.norm ?_
      refine St.cond_b rfl ?_ ?_
      ·intro q42
       replace q42 : q34.2 = true := q42
       replace hm := iT hm q42
       refine St.region ?_
       refine St.val (v := (.pointer (some ⟨b23, 0, none⟩))) (Yields.move rfl) trivial rfl rfl ?_
       refine St.val (v := (.slice A38 q34.1.length c39)) (Yields.move rfl) trivial rfl rfl ?_
       refine St.rowo_new 26 1 ?_
       refine St.pick (R := [blk b23 (.cells #[.slice pA0_0 a0.Doms.length pc0_0, .slice pA0_1 a0.Limits.length pc0_1, .int .i64 a1, .int .i64 a2, .slice none ([] : List (List Int)).length 0, .int .i64 0] 62 (0, 0)), blk b3 (.cells #[.slice pA0_0 a0.Doms.length pc0_0, .slice pA0_1 a0.Limits.length pc0_1] 25 (0, 0))]) 0 rfl rfl ?_
       refine St.pick (R := [rowo none ([] : List (List Int)).length 0 26 1 [], blk b3 (.cells #[.slice pA0_0 a0.Doms.length pc0_0, .slice pA0_1 a0.Limits.length pc0_1] 25 (0, 0))]) 1 rfl rfl ?_
       obtain ⟨q44, e45, hm⟩ := bS hm
       refine St.call [blk b3 (.cells #[.slice pA0_0 a0.Doms.length pc0_0, .slice pA0_1 a0.Limits.length pc0_1] 25 (0, 0))] (m_domain_solver_from_sp h40 (Fsl.mono (PH.le_trans l7 (PH.le_trans l20 l37)) ph0_0) (Fsl.mono (PH.le_trans l7 (PH.le_trans l20 l37)) ph0_1) (show Cat (Kind.sl 8 (Kind.int .i64)) _ [] [] from rfl) Bnd.of_nil e45) rfl (fun _ ha => ev2 ha rfl rfl) rfl en36 rfl rfl trivial ?_
       rintro _ F46 _ ⟨A48, c49, cells52, rfl, h50, b53, rfl⟩ l47
       refine St.nil ?_
       obtain rfl := sI hm
       intro a w ha hs
       exact ⟨A48, c49, cells52, F46, (PH.le_trans l37 l47), h50, b53, ha.covers ⟨rfl, rfl, trivial⟩, (Among.of (Among.take 0 rfl rfl (Among.take 0 rfl rfl Among.none)) _ hs)⟩
      ·intro q54
       replace q54 : ¬ (q34.2 = true) := bf q54
       replace hm := iF hm q54
       refine St.skip ?_
       obtain rfl := sI hm
       refine St.rowo_new 26 1 ?_
       intro a w ha hs
       exact ⟨none, 0, [], F36, l37, (show Cat (Kind.sl 8 (Kind.int .i64)) _ [] [] from rfl), Bnd.of_nil, ha.covers ⟨rfl, rfl, trivial⟩, (Among.of (Among.take 1 rfl rfl (Among.take 0 rfl rfl Among.none)) _ hs)⟩
     ·rintro a w ⟨A28, c29, cells31, F25, l26, h30, b32, ha, hs⟩
      replace hm := hk33
      refine St.use (?_ : St _ _ _ _ _ _) ha hs
      clear ha hs a w
      refine St.seq ?_
      refine St.seq ?_
      refine St.region ?_
      refine St.val (v := (.pointer (some ⟨b23, 0, none⟩))) (Yields.move rfl) trivial rfl rfl ?_
      refine St.val (v := (.pointer (some ⟨b23, 0, none⟩))) (Yields.nilCheck rfl) trivial rfl rfl ?_
      refine St.val (v := (.pointer (some ⟨b23, 4, none⟩))) (Yields.fieldAddr (v := (.pointer (some ⟨b23, 4, none⟩))) rfl (fun _ => by kernel_rfl)) trivial rfl rfl ?_
      refine St.val (v := (.slice A28 z24.1.length c29)) (Yields.load rfl (Loads.H1 0 rfl tc22 rfl)) trivial rfl rfl ?_
      refine St.val (v := (.int .i64 ((z24.1.length : Nat) : Int))) (Yields.lenSlice tu22 rfl) trivial rfl rfl ?_
      refine St.val (v := (.int .i64 a2)) (Yields.move rfl) trivial rfl rfl ?_
      refine St.val (v := (.bool (decide (((z24.1.length : Nat) : Int) > a2)))) (Yields.gt rfl rfl) trivial rfl rfl ?_
      refine St.nil ?_
      refine St.norm ?_
      refine St.cond_b rfl ?_ ?_
      ·intro q56
       replace q56 : ((z24.1.length : Nat) : Int) > a2 := of_decide_eq_true q56
       replace hm := iT hm q56
       refine St.seq ?_
       refine StD.start [] [blk b23 (.cells #[.slice pA0_0 a0.Doms.length pc0_0, .slice pA0_1 a0.Limits.length pc0_1, .int .i64 a1, .int .i64 a2, .slice A28 z24.1.length c29, .int .i64 z24.2] 62 (0, 0)), rowo A28 z24.1.length c29 26 1 cells31] hmix ?_
       refine StD.takeP (i := 0) (v := (.pointer (some ⟨b23, 0, none⟩))) rfl (fun _ => Yields.move rfl) rfl rfl trivial (by rintro _ _ _ ⟨_, _, _, _, h, _⟩; cases h) (by kernel_rfl) (listed' := #[true, false, false, false, false, false, false, false, false, false, false, false, false, false]) rfl ?_
       refine StD.takeP (i := 1) (v := (.pointer (some ⟨b23, 0, none⟩))) rfl (fun _ => Yields.nilCheck rfl) rfl rfl trivial (by rintro _ _ _ ⟨_, _, _, _, h, _⟩; cases h) (by kernel_rfl) (listed' := #[true, true, false, false, false, false, false, false, false, false, false, false, false, false]) rfl ?_
       refine StD.takeP (i := 2) (v := (.pointer (some ⟨b23, 4, none⟩))) rfl (fun _ => Yields.fieldAddr (v := (.pointer (some ⟨b23, 4, none⟩))) rfl (fun _ => by kernel_rfl)) rfl rfl trivial (by rintro _ _ _ ⟨_, _, _, _, h, _⟩; cases h) (by kernel_rfl) (listed' := #[true, true, true, false, false, false, false, false, false, false, false, false, false, false]) rfl ?_
       refine StD.take [0, 1, 2, 4, 5, 6, 7, 8, 10, 11, 12, 13] (i := 3) (v := (.slice A28 z24.1.length c29)) rfl (Yields.load rfl (Loads.H1 0 rfl tc22 rfl)) rfl rfl trivial Among.refl (by rintro _ _ _ ⟨_, _, _, _, h, _⟩; cases h) (by kernel_rfl) (listed' := #[true, true, true, true, false, false, false, false, false, false, false, false, false, false]) rfl ?_
       refine StD.takeP (i := 4) (v := (.int .i64 a2)) rfl (fun _ => Yields.move rfl) rfl rfl trivial (by rintro _ _ _ ⟨_, _, _, _, h, _⟩; cases h) (by kernel_rfl) (listed' := #[true, true, true, true, true, false, false, false, false, false, false, false, false, false]) rfl ?_
       obtain ⟨x57, e58, hm⟩ := bS hm
       refine St.rowo_len 1 rfl ?_
       intro hk59
       obtain ⟨A60, c61, s62, hw63⟩ := subOwn (D := (Kind.sl 8 (Kind.int .i64))) A28 26 hk59 e58
       refine StD.takeP (i := 5) (v := (.slice A60 x57.length c61)) rfl (fun _ => Yields.subT s62 ts22 rfl rfl) rfl rfl trivial (by rintro _ _ _ ⟨_, _, _, _, h, _⟩; cases h) (by kernel_rfl) (listed' := #[true, true, true, true, true, true, false, false, false, false, false, false, false, false]) rfl ?_
       refine StD.takeP (i := 6) (v := (.pointer (some ⟨b23, 0, none⟩))) rfl (fun _ => Yields.move rfl) rfl rfl trivial (by rintro _ _ _ ⟨_, _, _, _, h, _⟩; cases h) (by kernel_rfl) (listed' := #[true, true, true, true, true, true, true, false, false, false, false, false, false, false]) rfl ?_
       refine StD.takeP (i := 7) (v := (.pointer (some ⟨b23, 0, none⟩))) rfl (fun _ => Yields.nilCheck rfl) rfl rfl trivial (by rintro _ _ _ ⟨_, _, _, _, h, _⟩; cases h) (by kernel_rfl) (listed' := #[true, true, true, true, true, true, true, true, false, false, false, false, false, false]) rfl ?_
       refine StD.takeP (i := 8) (v := (.pointer (some ⟨b23, 5, none⟩))) rfl (fun _ => Yields.fieldAddr (v := (.pointer (some ⟨b23, 5, none⟩))) rfl (fun _ => by kernel_rfl)) rfl rfl trivial (by rintro _ _ _ ⟨_, _, _, _, h, _⟩; cases h) (by kernel_rfl) (listed' := #[true, true, true, true, true, true, true, true, true, false, false, false, false, false]) rfl ?_
       refine StD.take [0, 1, 2, 4, 5, 6, 7, 8, 10, 11, 12, 13] (i := 9) (v := (.int .i64 z24.2)) rfl (Yields.load rfl (Loads.H1 0 rfl tc3 rfl)) rfl rfl trivial Among.refl (by rintro _ _ _ ⟨_, _, _, _, h, _⟩; cases h) (by kernel_rfl) (listed' := #[true, true, true, true, true, true, true, true, true, true, false, false, false, false]) rfl ?_
       refine StD.takeP (i := 10) (v := (.slice A60 x57.length c61)) rfl (fun _ => Yields.assign rfl) rfl rfl trivial (by rintro _ _ _ ⟨_, _, _, _, h, _⟩; cases h) (by kernel_rfl) (listed' := #[true, true, true, true, true, true, true, true, true, true, true, false, false, false]) rfl ?_
       refine StD.takeP (i := 11) (v := (.bool true)) rfl (fun _ => Yields.assign rfl) rfl rfl trivial (by rintro _ _ _ ⟨_, _, _, _, h, _⟩; cases h) (by kernel_rfl) (listed' := #[true, true, true, true, true, true, true, true, true, true, true, true, false, false]) rfl ?_
       refine StD.takeP (i := 12) (v := (.int .i64 z24.2)) rfl (fun _ => Yields.assign rfl) rfl rfl trivial (by rintro _ _ _ ⟨_, _, _, _, h, _⟩; cases h) (by kernel_rfl) (listed' := #[true, true, true, true, true, true, true, true, true, true, true, true, true, false]) rfl ?_
       refine StD.takeP (i := 13) (v := (.int .i64 0)) rfl (fun _ => Yields.assign rfl) rfl rfl trivial (by rintro _ _ _ ⟨_, _, _, _, h, _⟩; cases h) (by kernel_rfl) (listed' := #[true, true, true, true, true, true, true, true, true, true, true, true, true, true]) rfl ?_
       refine StD.done (by kernel_rfl) ?_
       refine St.norm ?_
       refine St.ret ?_
       refine St.thenret ?_
       refine St.frz 1 rfl rfl rfl h30 b32 ?_
       intro F65 l66 h67
       have h68 := Fsl.subAt h67 s62 e58
       obtain rfl := sI hm
       exact St.doneR4 rfl rfl rfl rfl rfl ⟨A60, c61, rfl, h68, rfl⟩ (fun w hs => Among.of Among.none w hs)
      ·intro q69
       replace q69 : ¬ (((z24.1.length : Nat) : Int) > a2) := of_decide_eq_false q69
       replace hm := iF hm q69
       refine St.skip ?_
       refine St.norm ?_
       refine St.seq ?_
       refine StD.start [] [blk b23 (.cells #[.slice pA0_0 a0.Doms.length pc0_0, .slice pA0_1 a0.Limits.length pc0_1, .int .i64 a1, .int .i64 a2, .slice A28 z24.1.length c29, .int .i64 z24.2] 62 (0, 0)), rowo A28 z24.1.length c29 26 1 cells31] hmix ?_
       refine StD.takeP (i := 0) (v := (.pointer (some ⟨b23, 0, none⟩))) rfl (fun _ => Yields.move rfl) rfl rfl trivial (by rintro _ _ _ ⟨_, _, _, _, h, _⟩; cases h) (by kernel_rfl) (listed' := #[true, false, false, false, false, false, false, false, false, false, false, false]) rfl ?_
       refine StD.takeP (i := 1) (v := (.pointer (some ⟨b23, 0, none⟩))) rfl (fun _ => Yields.nilCheck rfl) rfl rfl trivial (by rintro _ _ _ ⟨_, _, _, _, h, _⟩; cases h) (by kernel_rfl) (listed' := #[true, true, false, false, false, false, false, false, false, false, false, false]) rfl ?_
       refine StD.takeP (i := 2) (v := (.pointer (some ⟨b23, 4, none⟩))) rfl (fun _ => Yields.fieldAddr (v := (.pointer (some ⟨b23, 4, none⟩))) rfl (fun _ => by kernel_rfl)) rfl rfl trivial (by rintro _ _ _ ⟨_, _, _, _, h, _⟩; cases h) (by kernel_rfl) (listed' := #[true, true, true, false, false, false, false, false, false, false, false, false]) rfl ?_
       refine StD.take [0, 1, 2, 4, 5, 6, 8, 9, 10, 11] (i := 3) (v := (.slice A28 z24.1.length c29)) rfl (Yields.load rfl (Loads.H1 0 rfl tc22 rfl)) rfl rfl trivial Among.refl (by rintro _ _ _ ⟨_, _, _, _, h, _⟩; cases h) (by kernel_rfl) (listed' := #[true, true, true, true, false, false, false, false, false, false, false, false]) rfl ?_
       refine StD.takeP (i := 4) (v := (.pointer (some ⟨b23, 0, none⟩))) rfl (fun _ => Yields.move rfl) rfl rfl trivial (by rintro _ _ _ ⟨_, _, _, _, h, _⟩; cases h) (by kernel_rfl) (listed' := #[true, true, true, true, true, false, false, false, false, false, false, false]) rfl ?_
       refine StD.takeP (i := 5) (v := (.pointer (some ⟨b23, 0, none⟩))) rfl (fun _ => Yields.nilCheck rfl) rfl rfl trivial (by rintro _ _ _ ⟨_, _, _, _, h, _⟩; cases h) (by kernel_rfl) (listed' := #[true, true, true, true, true, true, false, false, false, false, false, false]) rfl ?_
       refine StD.takeP (i := 6) (v := (.pointer (some ⟨b23, 5, none⟩))) rfl (fun _ => Yields.fieldAddr (v := (.pointer (some ⟨b23, 5, none⟩))) rfl (fun _ => by kernel_rfl)) rfl rfl trivial (by rintro _ _ _ ⟨_, _, _, _, h, _⟩; cases h) (by kernel_rfl) (listed' := #[true, true, true, true, true, true, true, false, false, false, false, false]) rfl ?_
       refine StD.take [0, 1, 2, 4, 5, 6, 8, 9, 10, 11] (i := 7) (v := (.int .i64 z24.2)) rfl (Yields.load rfl (Loads.H1 0 rfl tc3 rfl)) rfl rfl trivial Among.refl (by rintro _ _ _ ⟨_, _, _, _, h, _⟩; cases h) (by kernel_rfl) (listed' := #[true, true, true, true, true, true, true, true, false, false, false, false]) rfl ?_
       refine StD.takeP (i := 8) (v := (.slice A28 z24.1.length c29)) rfl (fun _ => Yields.assign rfl) rfl rfl trivial (by rintro _ _ _ ⟨_, _, _, _, h, _⟩; cases h) (by kernel_rfl) (listed' := #[true, true, true, true, true, true, true, true, true, false, false, false]) rfl ?_
       refine StD.takeP (i := 9) (v := (.bool false)) rfl (fun _ => Yields.assign rfl) rfl rfl trivial (by rintro _ _ _ ⟨_, _, _, _, h, _⟩; cases h) (by kernel_rfl) (listed' := #[true, true, true, true, true, true, true, true, true, true, false, false]) rfl ?_
       refine StD.takeP (i := 10) (v := (.int .i64 z24.2)) rfl (fun _ => Yields.assign rfl) rfl rfl trivial (by rintro _ _ _ ⟨_, _, _, _, h, _⟩; cases h) (by kernel_rfl) (listed' := #[true, true, true, true, true, true, true, true, true, true, true, false]) rfl ?_
       refine StD.takeP (i := 11) (v := (.int .i64 0)) rfl (fun _ => Yields.assign rfl) rfl rfl trivial (by rintro _ _ _ ⟨_, _, _, _, h, _⟩; cases h) (by kernel_rfl) (listed' := #[true, true, true, true, true, true, true, true, true, true, true, true]) rfl ?_
       refine StD.done (by kernel_rfl) ?_
       refine St.norm ?_
       refine St.ret ?_
       refine St.frz 1 rfl rfl rfl h30 b32 ?_
       intro F70 l71 h72
       obtain rfl := sI hm
       exact St.doneR4 rfl rfl rfl rfl rfl ⟨A28, c29, rfl, h72, rfl⟩ (fun w hs => Among.of Among.none w hs)

theorem m_law11_has_sp {F : PH} {g : Nat} {a0 : List (List Int)} {a1 : List Int} {pA0 : Option Addr} {pc0 : Nat} {pA1 : Option Addr} {pc1 : Nat} (ph0 : Fsl 24 (Kind.sl 8 (Kind.int .i64)) F pA0 pc0 a0) (ph1 : Fsl 8 (Kind.int .i64) F pA1 pc1 a1) {r : Bool} (hm : m_law11_has g a0 a1 = some r) :
  CallSp Try.prog 16 #[.slice pA0 a0.length pc0, .slice pA1 a1.length pc1] F [] (fun u F' H' => u = (.bool r) ∧ H' = []) := by
 unfold m_law11_has at hm
 refine CallSp.enter (args := [.slice pA0 a0.length pc0, .slice pA1 a1.length pc1]) Try.func16 rfl rfl ?_
 intro w0 m0 hm0
 refine St.seq ?_
 refine St.region ?_
 refine St.val (v := (.bool false)) (Yields.assign rfl) trivial rfl rfl ?_
 refine St.nil ?_
 refine St.norm ?_
 obtain ⟨o6, hm, ho7⟩ := jS hm
 refine St.cutI (fun a w => ∃ z3 : Unit, o6 = .inl z3 ∧ ∃ (F4 : PH), PH.le F F4 ∧ Has Try.f16.ntmps a [] ∧ Sat ⟨w0, fun b => m0 b ≠ none, F⟩ F4 [] w) ?_ ?_
 ·skip
  refine St.seq ?_
  refine St.region ?_
  refine St.val (v := (.int .i64 0)) (Yields.assign rfl) trivial rfl rfl ?_
  refine St.nil ?_
  refine St.norm ?_
  refine St.block ?_
  refine St.loopM hm (fun s10 a w => ∃ (F14 : PH), PH.le F F14 ∧ Has Try.f16.ntmps a [(0, .slice pA0 a0.length pc0), (1, .slice pA1 a1.length pc1), (5, .int .i64 ((s10 : Nat) : Int))] ∧ Sat ⟨w0, fun b => m0 b ≠ none, F⟩ F14 [] w) ?_ ?_
  ·skip
   intro a w ha hs
   exact ⟨F, (PH.le_refl _), ha.covers ⟨rfl, rfl, rfl, trivial⟩, (Among.of Among.none _ hs)⟩
  ·rintro s10 o11 co12 hm ho13 a w ⟨F14, l15, ha, hs⟩
   refine St.use (?_ : St _ _ _ _ _ _) ha hs
   clear ha hs a w
   refine St.seq ?_
   refine St.seq ?_
   refine St.region ?_
   refine St.val (v := (.int .i64 ((s10 : Nat) : Int))) (Yields.move rfl) trivial rfl rfl ?_
   refine St.val (v := (.slice pA0 a0.length pc0)) (Yields.move rfl) trivial rfl rfl ?_
   refine St.val (v := (.int .i64 ((a0.length : Nat) : Int))) (Yields.lenSlice tu22 rfl) trivial rfl rfl ?_
   refine St.val (v := (.bool (decide (((s10 : Nat) : Int) < ((a0.length : Nat) : Int))))) (Yields.lt rfl rfl) trivial rfl rfl ?_
   refine St.nil ?_
   refine St.norm ?_
   refine St.cond_b rfl ?_ ?_
   ·intro q16
    replace q16 : ((s10 : Nat) : Int) < ((a0.length : Nat) : Int) := of_decide_eq_true q16
    replace hm := iT hm q16
    refine St.skip ?_
    refine St.norm ?_
    refine St.seq ?_
    refine St.block ?_
    refine St.seq ?_
    refine St.region ?_
    refine St.val (v := (.slice pA0 a0.length pc0)) (Yields.move rfl) trivial rfl rfl ?_
    refine St.val (v := (.int .i64 ((s10 : Nat) : Int))) (Yields.move rfl) trivial rfl rfl ?_
    obtain ⟨x17, e18, hm⟩ := bS hm
    obtain ⟨p19, cs20, jx21, R22, k23⟩ := (Fsl.mono l15 ph0).nidx e18
    obtain ⟨A24, c25, rfl, h26⟩ := R22
    refine St.val (v := (.pointer (some p19))) (Yields.idx jx21 ts22 rfl rfl) trivial rfl rfl ?_
    refine St.val (v := (.slice A24 x17.length c25)) (Yields.load rfl (Loads.Fat k23 tc26 rfl)) trivial rfl rfl ?_
    refine St.val (v := (.slice pA1 a1.length pc1)) (Yields.move rfl) trivial rfl rfl ?_
    obtain ⟨q28, e29, hm⟩ := bS hm
    refine St.call [] (m_ref01_SameInts_sp h26 (Fsl.mono l15 ph1) e29) rfl (fun _ ha => ev2 ha rfl rfl) rfl en29 rfl rfl trivial ?_
    rintro _ F30 _ ⟨rfl, rfl⟩ l31
    refine St.nil ?_
    refine St.norm ?_
    refine St.cond_b rfl ?_ ?_
    ·intro q32
     replace q32 : q28 = true := q32
     replace hm := iT hm q32
     refine St.seq ?_
     refine St.region ?_
     refine St.val (v := (.bool true)) (Yields.assign rfl) trivial rfl rfl ?_
     refine St.nil ?_
     refine St.norm ?_
     refine St.ret ?_
     refine St.inret ?_
     refine St.thenret ?_
     refine St.thenret ?_
     refine St.inret ?_
     refine St.thenret ?_
     obtain rfl := sI hm
     obtain rfl := aR ho13
     obtain rfl := aR ho7
     exact St.doneR1 rfl rfl ⟨rfl, rfl⟩ (fun w hs => Among.of Among.none w hs)
    ·intro q33
     replace q33 : ¬ (q28 = true) := bf q33
     replace hm := iF hm q33
     refine St.skip ?_
     refine St.innorm ?_
     refine St.norm ?_
     refine St.region ?_
     refine St.val (v := (.int .i64 ((s10 : Nat) : Int))) (Yields.move rfl) trivial rfl rfl ?_
     refine St.val (v := (.int .i64 ((s10 + 1 : Nat) : Int))) (Yields.addn (j := 1) rfl rfl rfl (by have q_0 := q16; have q_1 := ph0.bnd.2; omega)) trivial rfl rfl ?_
     refine St.val (v := (.int .i64 ((s10 + 1 : Nat) : Int))) (Yields.assign rfl) trivial rfl rfl ?_
     refine St.nil ?_
     refine St.norm ?_
     obtain rfl := sI hm
     intro a w ha hs
     exact ⟨s10 + 1, aL ho13, F30, (PH.le_trans l15 l31), ha.covers ⟨rfl, rfl, rfl, trivial⟩, (Among.of Among.none _ hs)⟩
   ·intro q34
    replace q34 : ¬ (((s10 : Nat) : Int) < ((a0.length : Nat) : Int)) := of_decide_eq_false q34
    replace hm := iF hm q34
    refine St.exit ?_
    refine St.thenexit ?_
    refine St.thenexit ?_
    refine St.inexit ?_
    obtain rfl := sI hm
    obtain rfl := aR ho13
    intro a w ha hs
    exact ⟨(), rfl, F14, l15, ha.covers trivial, (Among.of Among.none _ hs)⟩
 ·rintro a w ⟨z3, rfl, F4, l5, ha, hs⟩
  replace hm := aL ho7
  refine St.use (?_ : St _ _ _ _ _ _) ha hs
  clear ha hs a w
  refine St.seq ?_
  refine St.region ?_
  refine St.val (v := (.bool false)) (Yields.assign rfl) trivial rfl rfl ?_
  refine St.nil ?_
  refine St.norm ?_
  refine St.ret ?_
  obtain rfl := sI hm
  exact St.doneR1 rfl rfl ⟨rfl, rfl⟩ (fun w hs => Among.of Among.none w hs)

theorem m_law11_DomainFinds_sp {F : PH} {g : Nat} {a0 : DProblem} {pA0_0 : Option Addr} {pc0_0 : Nat} {pA0_1 : Option Addr} {pc0_1 : Nat} (ph0_0 : Fsl 24 (Kind.sl 8 (Kind.int .i64)) F pA0_0 pc0_0 a0.Doms) (ph0_1 : Fsl 88 KDLimit F pA0_1 pc0_1 a0.Limits) {r : Bool} (hm : m_law11_DomainFinds g a0 = some r) :
  CallSp Try.prog 4 #[.agg #[.slice pA0_0 a0.Doms.length pc0_0, .slice pA0_1 a0.Limits.length pc0_1]] F [] (fun u F' H' => u = (.bool r) ∧ H' = []) := by
 unfold m_law11_DomainFinds at hm
 refine CallSp.enter (args := [.agg #[.slice pA0_0 a0.Doms.length pc0_0, .slice pA0_1 a0.Limits.length pc0_1]]) Try.func4 rfl rfl ?_
 intro w0 m0 hm0
 refine St.seq ?_
 refine St.region ?_
 refine St.box rfl trivial rfl ?_
 intro b3
 refine St.val (v := (.bool false)) (Yields.assign rfl) trivial rfl rfl ?_
 refine St.nil ?_
 refine St.norm ?_
 refine St.seq ?_
 obtain ⟨z4, hm, hk7⟩ := bS hm
 refine St.cutI (fun a w => ∃ (F5 : PH), PH.le F F5 ∧ Has Try.f4.ntmps a [(1, .pointer (some ⟨b3, 0, none⟩)), (30, .bool z4)] ∧ Sat ⟨w0, fun b => m0 b ≠ none, F⟩ F5 [blk b3 (.cells #[.slice pA0_0 a0.Doms.length pc0_0, .slice pA0_1 a0.Limits.length pc0_1] 25 (0, 0))] w) ?_ ?_
 ·skip
  refine St.region ?_
  refine St.val (v := (.agg #[.slice pA0_0 a0.Doms.length pc0_0, .slice pA0_1 a0.Limits.length pc0_1])) (Yields.load rfl (Loads.Hk (vs := [.slice pA0_0 a0.Doms.length pc0_0, .slice pA0_1 a0.Limits.length pc0_1]) 0 rfl ta25 rfl rfl)) trivial rfl rfl ?_
  obtain ⟨q8, e9, hm⟩ := bS hm
  refine St.call [blk b3 (.cells #[.slice pA0_0 a0.Doms.length pc0_0, .slice pA0_1 a0.Limits.length pc0_1] 25 (0, 0))] (m_domain_Validate_sp (a0 := a0) ph0_0 ph0_1 e9) rfl (fun _ ha => ev1 ha rfl) rfl en6 rfl rfl trivial ?_
  rintro _ F10 _ ⟨rfl, rfl⟩ l11
  by_cases q12 : q8 = 0
  ·replace hm := iT hm q12
   refine St.val (v := (.bool false)) (Yields.nis q12 (Yields.ne rfl rfl)) trivial rfl rfl ?_
   refine St.val (v := (.bool false)) (Yields.move rfl) trivial rfl rfl ?_
   refine St.val (v := (.agg #[.slice pA0_0 a0.Doms.length pc0_0, .slice pA0_1 a0.Limits.length pc0_1])) (Yields.load rfl (Loads.Hk (vs := [.slice pA0_0 a0.Doms.length pc0_0, .slice pA0_1 a0.Limits.length pc0_1]) 0 rfl ta25 rfl rfl)) rfl rfl rfl ?_
   obtain ⟨q13, e14, hm⟩ := bS hm
   refine St.call [blk b3 (.cells #[.slice pA0_0 a0.Doms.length pc0_0, .slice pA0_1 a0.Limits.length pc0_1] 25 (0, 0))] (m_law11_isHeavy_sp (a0 := a0) (Fsl.mono l11 ph0_0) (Fsl.mono l11 ph0_1) e14) rfl (fun _ ha => ev1 ha rfl) rfl en7 rfl rfl rfl ?_
   rintro _ F15 _ ⟨rfl, rfl⟩ l16
   by_cases q17 : q13 = true
   ·replace hm := iT hm q17
    have hb18 : (q13) = true := q17
    try rw [hb18]
    refine St.val (v := (.bool true)) (Yields.pick_f rfl rfl) trivial rfl rfl ?_
    refine St.val (v := (.bool true)) (Yields.move rfl) trivial rfl rfl ?_
    refine St.unwanted rfl rfl rfl ?_
    refine St.unwanted rfl rfl rfl ?_
    refine St.unwanted rfl rfl rfl ?_
    refine St.val (v := (.bool true)) (Yields.pick_t rfl rfl) trivial rfl rfl ?_
    refine St.nil ?_
    obtain rfl := sI hm
    intro a w ha hs
    exact ⟨F15, (PH.le_trans l11 l16), ha.covers ⟨rfl, rfl, trivial⟩, (Among.of (Among.take 0 rfl rfl Among.none) _ hs)⟩
   ·replace hm := iF hm q17
    have hb19 : (q13) = false := eq_false_of_ne_true q17
    try rw [hb19]
    refine St.val (v := (.bool false)) (Yields.pick_f rfl rfl) trivial rfl rfl ?_
    refine St.val (v := (.bool false)) (Yields.move rfl) trivial rfl rfl ?_
    refine St.val (v := (.agg #[.slice pA0_0 a0.Doms.length pc0_0, .slice pA0_1 a0.Limits.length pc0_1])) (Yields.load rfl (Loads.Hk (vs := [.slice pA0_0 a0.Doms.length pc0_0, .slice pA0_1 a0.Limits.length pc0_1]) 0 rfl ta25 rfl rfl)) rfl rfl rfl ?_
    obtain ⟨q20, e21, hm⟩ := bS hm
    refine St.call [blk b3 (.cells #[.slice pA0_0 a0.Doms.length pc0_0, .slice pA0_1 a0.Limits.length pc0_1] 25 (0, 0))] (m_law11_tuples_sp (a0 := a0) (Fsl.mono (PH.le_trans l11 l16) ph0_0) (Fsl.mono (PH.le_trans l11 l16) ph0_1) e21) rfl (fun _ ha => ev1 ha rfl) rfl en12 rfl rfl rfl ?_
    rintro _ F22 _ ⟨rfl, rfl⟩ l23
    refine St.val (v := (.bool (decide (q20 > 1500)))) (Yields.gt rfl rfl) rfl rfl rfl ?_
    refine St.val (v := (.bool (decide (q20 > 1500)))) (Yields.pick_f rfl rfl) trivial rfl rfl ?_
    refine St.nil ?_
    obtain rfl := sI hm
    intro a w ha hs
    exact ⟨F22, (PH.le_trans l11 (PH.le_trans l16 l23)), ha.covers ⟨rfl, rfl, trivial⟩, (Among.of (Among.take 0 rfl rfl Among.none) _ hs)⟩
  ·replace hm := iF hm q12
   refine St.val (v := (.bool true)) (Yields.nisnt q12 (Yields.ne rfl rfl)) trivial rfl rfl ?_
   refine St.val (v := (.bool true)) (Yields.move rfl) trivial rfl rfl ?_
   refine St.unwanted rfl rfl rfl ?_
   refine St.unwanted rfl rfl rfl ?_
   refine St.val (v := (.bool true)) (Yields.pick_t rfl rfl) trivial rfl rfl ?_
   refine St.val (v := (.bool true)) (Yields.move rfl) trivial rfl rfl ?_
   refine St.unwanted rfl rfl rfl ?_
   refine St.unwanted rfl rfl rfl ?_
   refine St.unwanted rfl rfl rfl ?_
   refine St.val (v := (.bool true)) (Yields.pick_t rfl rfl) trivial rfl rfl ?_
   refine St.nil ?_
   obtain rfl := sI hm
   intro a w ha hs
   exact ⟨F10, l11, ha.covers ⟨rfl, rfl, trivial⟩, (Among.of (Among.take 0 rfl rfl Among.none) _ hs)⟩
 ·rintro a w ⟨F5, l6, ha, hs⟩
  replace hm := hk7
  refine St.use (?_ : St _ _ _ _ _ _) ha hs
  clear ha hs a w
  refine St.cond_b rfl ?_ ?_
  ·intro q24
   replace q24 : z4 = true := q24
   replace hm := iT hm q24
   refine St.seq ?_
   refine St.region ?_
   obtain ⟨q25, e26, hm⟩ := bS hm
   refine St.call [blk b3 (.cells #[.slice pA0_0 a0.Doms.length pc0_0, .slice pA0_1 a0.Limits.length pc0_1] 25 (0, 0))] (m_law11_known_sp e26) rfl (fun _ _ => ev0) rfl en8 rfl rfl trivial ?_
   rintro _ F27 _ ⟨rfl, rfl⟩ l28
   refine St.val (v := (.bool q25)) (Yields.assign rfl) trivial rfl rfl ?_
   refine St.nil ?_
   refine St.norm ?_
   refine St.ret ?_
   refine St.thenret ?_
   obtain rfl := sI hm
   exact St.doneR1 rfl rfl ⟨rfl, rfl⟩ (fun w hs => Among.of Among.none w hs)
  ·intro q29
   replace q29 : ¬ (z4 = true) := bf q29
   replace hm := iF hm q29
   refine St.skip ?_
   refine St.norm ?_
   refine St.seq ?_
   refine St.region ?_
   refine St.val (v := (.agg #[.slice pA0_0 a0.Doms.length pc0_0, .slice pA0_1 a0.Limits.length pc0_1])) (Yields.load rfl (Loads.Hk (vs := [.slice pA0_0 a0.Doms.length pc0_0, .slice pA0_1 a0.Limits.length pc0_1]) 0 rfl ta25 rfl rfl)) trivial rfl rfl ?_
   obtain ⟨q30, e31, hm⟩ := bS hm
   refine St.call [blk b3 (.cells #[.slice pA0_0 a0.Doms.length pc0_0, .slice pA0_1 a0.Limits.length pc0_1] 25 (0, 0))] (m_domain_Narrow_sp (a0 := a0) (Fsl.mono l6 ph0_0) (Fsl.mono l6 ph0_1) e31) rfl (fun _ ha => ev1 ha rfl) rfl en9 rfl rfl trivial ?_
   rintro _ F32 _ ⟨A34, c35, rfl, h36, rfl⟩ l33
   refine St.val (v := (.tuple #[.slice A34 q30.1.length c35, .bool q30.2.1, .int .i64 q30.2.2])) (Yields.move rfl) trivial rfl rfl ?_
   refine St.val (v := (.slice A34 q30.1.length c35)) (Yields.extract rfl rfl) trivial rfl rfl ?_
   refine St.val (v := (.bool q30.2.1)) (Yields.extract rfl rfl) trivial rfl rfl ?_
   refine St.val (v := (.int .i64 q30.2.2)) (Yields.extract rfl rfl) trivial rfl rfl ?_
   refine St.val (v := (.slice A34 q30.1.length c35)) (Yields.assign rfl) trivial rfl rfl ?_
   refine St.val (v := (.bool q30.2.1)) (Yields.assign rfl) trivial rfl rfl ?_
   refine St.val (v := (.int .i64 q30.2.2)) (Yields.assign rfl) trivial rfl rfl ?_
   refine St.nil ?_
   refine St.norm ?_
   refine St.seq ?_
   refine St.seq ?_
   refine St.region ?_
   refine St.val (v := (.int .i64 q30.2.2)) (Yields.move rfl) trivial rfl rfl ?_
   refine St.val (v := (.bool (!decide (q30.2.2 = 0)))) (Yields.ne rfl rfl) trivial rfl rfl ?_
   refine St.nil ?_
   refine St.norm ?_
   refine St.cond_b rfl ?_ ?_
   ·intro q38
    replace q38 : ¬ (q30.2.2 = 0) := nd_t q38
    replace hm := iF hm q38
    refine St.seq ?_
    refine St.region ?_
    obtain ⟨q39, e40, hm⟩ := bS hm
    refine St.call [blk b3 (.cells #[.slice pA0_0 a0.Doms.length pc0_0, .slice pA0_1 a0.Limits.length pc0_1] 25 (0, 0))] (m_law11_known_sp e40) rfl (fun _ _ => ev0) rfl en8 rfl rfl trivial ?_
    rintro _ F41 _ ⟨rfl, rfl⟩ l42
    refine St.val (v := (.bool q39)) (Yields.assign rfl) trivial rfl rfl ?_
    refine St.nil ?_
    refine St.norm ?_
    refine St.ret ?_
    refine St.thenret ?_
    obtain rfl := sI hm
    exact St.doneR1 rfl rfl ⟨rfl, rfl⟩ (fun w hs => Among.of Among.none w hs)
   ·intro q43
    replace q43 : q30.2.2 = 0 := nd_f q43
    replace hm := iT hm q43
    refine St.skip ?_
    refine St.norm ?_
    refine St.seq ?_
    refine St.region ?_
    refine St.val (v := (.pointer (some ⟨b3, 0, none⟩))) (Yields.fieldAddr (v := (.pointer (some ⟨b3, 0, none⟩))) rfl (fun _ => by kernel_rfl)) trivial rfl rfl ?_
    refine St.val (v := (.slice pA0_0 a0.Doms.length pc0_0)) (Yields.load rfl (Loads.H1 0 rfl tc22 rfl)) trivial rfl rfl ?_
    refine St.val (v := (.agg #[.slice pA0_0 a0.Doms.length pc0_0, .slice none 0 0])) (Yields.build (v := (.agg #[.slice pA0_0 a0.Doms.length pc0_0, .slice none 0 0])) (vs := #[(0, .slice pA0_0 a0.Doms.length pc0_0)]) (fun _ ha => evp1 ha rfl) (fun _ => by kernel_rfl)) trivial rfl rfl ?_
    obtain ⟨q44, e45, hm⟩ := bS hm
    refine St.call [blk b3 (.cells #[.slice pA0_0 a0.Doms.length pc0_0, .slice pA0_1 a0.Limits.length pc0_1] 25 (0, 0))] (m_ref11_Tuples_sp (a0 := (DProblem.mk a0.Doms ([] : List DLimit))) (Fsl.mono (PH.le_trans l6 l33) ph0_0) Fsl.nil e45) rfl (fun _ ha => ev1 ha rfl) rfl en13 rfl rfl trivial ?_
    rintro _ F46 _ ⟨A48, c49, rfl, h50, rfl⟩ l47
    refine St.val (v := (.slice A48 q44.length c49)) (Yields.assign rfl) trivial rfl rfl ?_
    refine St.nil ?_
    refine St.norm ?_
    refine St.seq ?_
    refine St.region ?_
    refine St.val (v := (.slice none 0 0)) (Yields.assign rfl) trivial rfl rfl ?_
    refine St.nil ?_
    refine St.norm ?_
    obtain ⟨o61, hm, ho62⟩ := jS hm
    refine St.cutI (fun a w => ∃ z52 : List (List Int), o61 = .inl z52 ∧ ∃ (A56 : Option Addr) (c57 : Nat) (cells59 : List Value) (F53 : PH), PH.le F46 F53 ∧ Cat (Kind.sl 8 (Kind.int .i64)) F53 cells59 z52 ∧ Bnd 24 z52 ∧ Has Try.f4.ntmps a [(1, .pointer (some ⟨b3, 0, none⟩)), (7, .slice A56 z52.length c57)] ∧ Sat ⟨w0, fun b => m0 b ≠ none, F⟩ F53 [blk b3 (.cells #[.slice pA0_0 a0.Doms.length pc0_0, .slice pA0_1 a0.Limits.length pc0_1] 25 (0, 0)), rowo A56 z52.length c57 26 1 cells59] w) ?_ ?_
    ·skip
     refine St.seq ?_
     refine St.region ?_
     refine St.val (v := (.int .i64 0)) (Yields.assign rfl) trivial rfl rfl ?_
     refine St.nil ?_
     refine St.norm ?_
     refine St.block ?_
     refine St.loopM hm (fun s73 a w => ∃ (A78 : Option Addr) (c79 : Nat) (cells81 : List Value) (F83 : PH), PH.le F46 F83 ∧ Cat (Kind.sl 8 (Kind.int .i64)) F83 cells81 s73.2.1 ∧ Bnd 24 s73.2.1 ∧ Has Try.f4.ntmps a [(1, .pointer (some ⟨b3, 0, none⟩)), (3, .slice A34 q30.1.length c35), (4, .bool s73.1), (6, .slice A48 q44.length c49), (7, .slice A78 s73.2.1.length c79), (8, .int .i64 ((s73.2.2 : Nat) : Int))] ∧ Sat ⟨w0, fun b => m0 b ≠ none, F⟩ F83 [blk b3 (.cells #[.slice pA0_0 a0.Doms.length pc0_0, .slice pA0_1 a0.Limits.length pc0_1] 25 (0, 0)), rowo A78 s73.2.1.length c79 26 1 cells81] w) ?_ ?_
     ·skip
      refine St.rowo_new 26 1 ?_
      intro a w ha hs
      exact ⟨none, 0, [], F46, (PH.le_refl _), (show Cat (Kind.sl 8 (Kind.int .i64)) _ [] [] from rfl), Bnd.of_nil, ha.covers ⟨rfl, rfl, rfl, rfl, rfl, rfl, trivial⟩, (Among.of (Among.take 1 rfl rfl (Among.take 0 rfl rfl Among.none)) _ hs)⟩
     ·rintro s73 o74 co75 hm ho76 a w ⟨A78, c79, cells81, F83, l84, h80, b82, ha, hs⟩
      refine St.use (?_ : St _ _ _ _ _ _) ha hs
      clear ha hs a w
      refine St.seq ?_
      refine St.seq ?_
      refine St.region ?_
      refine St.val (v := (.int .i64 ((s73.2.2 : Nat) : Int))) (Yields.move rfl) trivial rfl rfl ?_
      refine St.val (v := (.slice A48 q44.length c49)) (Yields.move rfl) trivial rfl rfl ?_
      refine St.val (v := (.int .i64 ((q44.length : Nat) : Int))) (Yields.lenSlice tu22 rfl) trivial rfl rfl ?_
      refine St.val (v := (.bool (decide (((s73.2.2 : Nat) : Int) < ((q44.length : Nat) : Int))))) (Yields.lt rfl rfl) trivial rfl rfl ?_
      refine St.nil ?_
      refine St.norm ?_
      refine St.cond_b rfl ?_ ?_
      ·intro q86
       replace q86 : ((s73.2.2 : Nat) : Int) < ((q44.length : Nat) : Int) := of_decide_eq_true q86
       replace hm := iT hm q86
       refine St.skip ?_
       refine St.norm ?_
       obtain ⟨o96, hm, ho97⟩ := jS hm
       refine St.cutI (fun a w => ∃ z87 : Bool × List (List Int), o96 = .inl z87 ∧ ∃ (A91 : Option Addr) (c92 : Nat) (cells94 : List Value) (F88 : PH), PH.le F83 F88 ∧ Cat (Kind.sl 8 (Kind.int .i64)) F88 cells94 z87.2 ∧ Bnd 24 z87.2 ∧ Has Try.f4.ntmps a [(1, .pointer (some ⟨b3, 0, none⟩)), (3, .slice A34 q30.1.length c35), (4, .bool z87.1), (6, .slice A48 q44.length c49), (7, .slice A91 z87.2.length c92), (8, .int .i64 ((s73.2.2 : Nat) : Int))] ∧ Sat ⟨w0, fun b => m0 b ≠ none, F⟩ F88 [blk b3 (.cells #[.slice pA0_0 a0.Doms.length pc0_0, .slice pA0_1 a0.Limits.length pc0_1] 25 (0, 0)), rowo A91 z87.2.length c92 26 1 cells94] w) ?_ ?_
       ·skip
        refine St.block ?_
        refine St.seq ?_
        refine StD.start [5] [blk b3 (.cells #[.slice pA0_0 a0.Doms.length pc0_0, .slice pA0_1 a0.Limits.length pc0_1] 25 (0, 0)), rowo A78 s73.2.1.length c79 26 1 cells81] hmix ?_
        refine StD.take [1, 2, 3, 6, 7, 8, 9, 10, 11, 12] (i := 0) (v := (.agg #[.slice pA0_0 a0.Doms.length pc0_0, .slice pA0_1 a0.Limits.length pc0_1])) rfl (Yields.load rfl (Loads.Hk (vs := [.slice pA0_0 a0.Doms.length pc0_0, .slice pA0_1 a0.Limits.length pc0_1]) 0 rfl ta25 rfl rfl)) rfl rfl trivial Among.refl (by rintro _ _ _ ⟨_, _, _, _, h, _⟩; cases h) (by kernel_rfl) (listed' := #[true, false, false, false, false, false, false, false, false, false, false, false, false]) rfl ?_
        refine StD.takeP (i := 1) (v := (.slice A48 q44.length c49)) rfl (fun _ => Yields.move rfl) rfl rfl trivial (by rintro _ _ _ ⟨_, _, _, _, h, _⟩; cases h) (by kernel_rfl) (listed' := #[true, true, false, false, false, false, false, false, false, false, false, false, false]) rfl ?_
        refine StD.takeP (i := 2) (v := (.int .i64 ((s73.2.2 : Nat) : Int))) rfl (fun _ => Yields.move rfl) rfl rfl trivial (by rintro _ _ _ ⟨_, _, _, _, h, _⟩; cases h) (by kernel_rfl) (listed' := #[true, true, true, false, false, false, false, false, false, false, false, false, false]) rfl ?_
        obtain ⟨x98, e99, hm⟩ := bS hm
        obtain ⟨p100, cs101, jx102, R103, k104⟩ := (Fsl.mono l84 h50).nidx e99
        obtain ⟨A105, c106, rfl, h107⟩ := R103
        refine StD.takeP (i := 3) (v := (.pointer (some p100))) rfl (fun _ => Yields.idx jx102 ts22 rfl rfl) rfl rfl trivial (by rintro _ _ _ ⟨_, _, _, _, h, _⟩; cases h) (by kernel_rfl) (listed' := #[true, true, true, true, false, false, false, false, false, false, false, false, false]) rfl ?_
        refine StD.take [1, 2, 3, 6, 7, 8, 9, 10, 11, 12] (i := 4) (v := (.slice A105 x98.length c106)) rfl (Yields.load rfl (Loads.Fat k104 tc26 rfl)) rfl rfl trivial Among.refl (by rintro _ _ _ ⟨_, _, _, _, h, _⟩; cases h) (by kernel_rfl) (listed' := #[true, true, true, true, true, false, false, false, false, false, false, false, false]) rfl ?_
        refine StD.only (i := 5) rfl (by kernel_rfl) (listed' := #[true, true, true, true, true, true, false, false, false, false, false, false, false]) rfl ?_
        intro hcl109
        obtain ⟨q110, e111, hm⟩ := bS hm
        refine St.call [blk b3 (.cells #[.slice pA0_0 a0.Doms.length pc0_0, .slice pA0_1 a0.Limits.length pc0_1] 25 (0, 0)), rowo A78 s73.2.1.length c79 26 1 cells81] (m_domain_Holds_sp (a0 := a0) (Fsl.mono (PH.le_trans l6 (PH.le_trans l33 (PH.le_trans l47 l84))) ph0_0) (Fsl.mono (PH.le_trans l6 (PH.le_trans l33 (PH.le_trans l47 l84))) ph0_1) h107 e111) rfl (fun _ ha => ev2 ha rfl rfl) rfl en14 rfl rfl trivial ?_
        rintro _ F112 _ ⟨rfl, rfl⟩ l113
        refine StD.next hcl109 (fun h => by cases h) ?_
        refine StD.takeP (i := 6) (v := (.tuple #[.bool q110.1, .int .i64 q110.2.1, .int .i64 q110.2.2])) rfl (fun _ => Yields.move rfl) rfl rfl trivial (by rintro _ _ _ ⟨_, _, _, _, h, _⟩; cases h) (by kernel_rfl) (listed' := #[true, true, true, true, true, true, true, false, false, false, false, false, false]) rfl ?_
        refine StD.takeP (i := 7) (v := (.bool q110.1)) rfl (fun _ => Yields.extract rfl rfl) rfl rfl trivial (by rintro _ _ _ ⟨_, _, _, _, h, _⟩; cases h) (by kernel_rfl) (listed' := #[true, true, true, true, true, true, true, true, false, false, false, false, false]) rfl ?_
        refine StD.takeP (i := 8) (v := (.int .i64 q110.2.1)) rfl (fun _ => Yields.extract rfl rfl) rfl rfl trivial (by rintro _ _ _ ⟨_, _, _, _, h, _⟩; cases h) (by kernel_rfl) (listed' := #[true, true, true, true, true, true, true, true, true, false, false, false, false]) rfl ?_
        refine StD.takeP (i := 9) (v := (.int .i64 q110.2.2)) rfl (fun _ => Yields.extract rfl rfl) rfl rfl trivial (by rintro _ _ _ ⟨_, _, _, _, h, _⟩; cases h) (by kernel_rfl) (listed' := #[true, true, true, true, true, true, true, true, true, true, false, false, false]) rfl ?_
        refine StD.takeP (i := 10) (v := (.bool q110.1)) rfl (fun _ => Yields.assign rfl) rfl rfl trivial (by rintro _ _ _ ⟨_, _, _, _, h, _⟩; cases h) (by kernel_rfl) (listed' := #[true, true, true, true, true, true, true, true, true, true, true, false, false]) rfl ?_
        refine StD.takeP (i := 11) (v := (.int .i64 q110.2.1)) rfl (fun _ => Yields.assign rfl) rfl rfl trivial (by rintro _ _ _ ⟨_, _, _, _, h, _⟩; cases h) (by kernel_rfl) (listed' := #[true, true, true, true, true, true, true, true, true, true, true, true, false]) rfl ?_
        refine StD.takeP (i := 12) (v := (.int .i64 q110.2.2)) rfl (fun _ => Yields.assign rfl) rfl rfl trivial (by rintro _ _ _ ⟨_, _, _, _, h, _⟩; cases h) (by kernel_rfl) (listed' := #[true, true, true, true, true, true, true, true, true, true, true, true, true]) rfl ?_
        refine StD.done (by kernel_rfl) ?_
        refine St.norm ?_
        refine St.seq ?_
        refine St.seq ?_
        refine St.region ?_
        refine St.val (v := (.int .i64 q110.2.2)) (Yields.move rfl) trivial rfl rfl ?_
        refine St.val (v := (.bool (!decide (q110.2.2 = 0)))) (Yields.ne rfl rfl) trivial rfl rfl ?_
        refine St.nil ?_
        refine St.norm ?_
        refine St.cond_b rfl ?_ ?_
        ·intro q114
         replace q114 : ¬ (q110.2.2 = 0) := nd_t q114
         replace hm := iF hm q114
         refine St.seq ?_
         refine St.region ?_
         refine St.val (v := (.bool false)) (Yields.assign rfl) trivial rfl rfl ?_
         refine St.nil ?_
         refine St.norm ?_
         refine St.ret ?_
         refine St.thenret ?_
         refine St.inret ?_
         refine St.thenret ?_
         refine St.thenret ?_
         refine St.inret ?_
         refine St.thenret ?_
         obtain rfl := sI hm
         obtain rfl := aR ho97
         obtain rfl := aR ho76
         obtain rfl := aR ho62
         exact St.doneR1 rfl rfl ⟨rfl, rfl⟩ (fun w hs => Among.of Among.none w hs)
        ·intro q115
         replace q115 : q110.2.2 = 0 := nd_f q115
         replace hm := iT hm q115
         refine St.skip ?_
         refine St.norm ?_
         refine St.seq ?_
         refine St.seq ?_
         refine St.region ?_
         refine St.val (v := (.bool q110.1)) (Yields.move rfl) trivial rfl rfl ?_
         refine St.val (v := (.bool (!q110.1))) (Yields.not rfl) trivial rfl rfl ?_
         refine St.nil ?_
         refine St.norm ?_
         refine St.cond_b rfl ?_ ?_
         ·intro q116
          replace q116 : ¬ (q110.1 = true) := nb_t q116
          replace hm := iF hm q116
          refine St.exit ?_
          refine St.thenexit ?_
          refine St.inexit ?_
          obtain rfl := sI hm
          intro a w ha hs
          exact ⟨(s73.1, s73.2.1), rfl, A78, c79, cells81, F112, l113, (Cat.mono l113 h80), b82, ha.covers ⟨rfl, rfl, rfl, rfl, rfl, rfl, trivial⟩, (Among.of (Among.take 0 rfl rfl (Among.take 0 rfl rfl Among.none)) _ hs)⟩
         ·intro q117
          replace q117 : q110.1 = true := nb_f q117
          replace hm := iT hm q117
          refine St.skip ?_
          refine St.norm ?_
          refine St.seq ?_
          refine St.region ?_
          refine St.val (v := (.slice A78 s73.2.1.length c79)) (Yields.move rfl) trivial rfl rfl ?_
          refine St.val (v := (.slice A48 q44.length c49)) (Yields.move rfl) trivial rfl rfl ?_
          refine St.val (v := (.int .i64 ((s73.2.2 : Nat) : Int))) (Yields.move rfl) trivial rfl rfl ?_
          obtain ⟨x118, e119, hm⟩ := bS hm
          obtain ⟨p120, cs121, jx122, R123, k124⟩ := (Fsl.mono (PH.le_trans l84 l113) h50).nidx e119
          obtain ⟨A125, c126, rfl, h127⟩ := R123
          refine St.val (v := (.pointer (some p120))) (Yields.idx jx122 ts22 rfl rfl) trivial rfl rfl ?_
          refine St.val (v := (.slice A125 x118.length c126)) (Yields.load rfl (Loads.Fat k124 tc26 rfl)) trivial rfl rfl ?_
          refine St.buildSlice (e := 26) (cells := #[.slice A125 x118.length c126]) (vs := #[(0, .slice A125 x118.length c126)]) (fun _ ha => evp1 ha rfl) (fun _ => by kernel_rfl) rfl trivial ?_
          intro b129
          obtain ⟨x134, e135, hm⟩ := bS hm
          refine St.pushL (R := [blk b129 (.cells #[.slice A125 x118.length c126] 26 (0, 0)), blk b3 (.cells #[.slice pA0_0 a0.Doms.length pc0_0, .slice pA0_1 a0.Limits.length pc0_1] 25 (0, 0))]) (R3 := [blk b3 (.cells #[.slice pA0_0 a0.Doms.length pc0_0, .slice pA0_1 a0.Limits.length pc0_1] 25 (0, 0))]) e135 ts22 rfl rfl rfl rfl rfl 2 rfl rfl 0 rfl 0 rfl rfl (Cat.mono l113 h80) ⟨[.slice A125 x118.length c126], _, rfl, ⟨_, _, rfl, h127⟩, rfl⟩ rfl trivial ?_
          intro A130 c131 cells132 h133
          refine St.val (v := (.slice A130 x134.length c131)) (Yields.assign rfl) trivial rfl rfl ?_
          refine St.nil ?_
          refine St.norm ?_
          refine St.seq ?_
          obtain ⟨z137, hm, hk138⟩ := bS hm
          refine St.cutI (fun a w => Has Try.f4.ntmps a [(1, .pointer (some ⟨b3, 0, none⟩)), (3, .slice A34 q30.1.length c35), (4, .bool z137.1), (6, .slice A48 q44.length c49), (7, .slice A130 x134.length c131), (8, .int .i64 ((s73.2.2 : Nat) : Int)), (83, .bool z137.2)] ∧ Sat ⟨w0, fun b => m0 b ≠ none, F⟩ F112 [blk b3 (.cells #[.slice pA0_0 a0.Doms.length pc0_0, .slice pA0_1 a0.Limits.length pc0_1] 25 (0, 0)), rowo A130 x134.length c131 26 1 cells132] w) ?_ ?_
          ·skip
           refine St.region ?_
           by_cases q139 : s73.1 = true
           ·replace hm := iT hm q139
            have hb140 : (s73.1) = true := q139
            try rw [hb140]
            refine St.val (v := (.bool true)) (Yields.move rfl) trivial rfl rfl ?_
            refine St.val (v := (.bool false)) (Yields.not_t rfl) trivial rfl rfl ?_
            refine St.val (v := (.bool false)) (Yields.move rfl) trivial rfl rfl ?_
            refine St.val (v := (.slice A34 q30.1.length c35)) (Yields.move rfl) rfl rfl rfl ?_
            refine St.val (v := (.int .i64 ((q30.1.length : Nat) : Int))) (Yields.lenSlice tu22 rfl) rfl rfl rfl ?_
            refine St.val (v := (.slice A48 q44.length c49)) (Yields.move rfl) rfl rfl rfl ?_
            refine St.val (v := (.int .i64 ((s73.2.2 : Nat) : Int))) (Yields.move rfl) rfl rfl rfl ?_
            obtain ⟨x141, e142, hm⟩ := bS hm
            obtain ⟨p143, cs144, jx145, R146, k147⟩ := (Fsl.mono (PH.le_trans l84 l113) h50).nidx e142
            obtain ⟨A148, c149, rfl, h150⟩ := R146
            refine St.val (v := (.pointer (some p143))) (Yields.idx jx145 ts22 rfl rfl) rfl rfl rfl ?_
            refine St.val (v := (.slice A148 x141.length c149)) (Yields.load rfl (Loads.Fat k147 tc26 rfl)) rfl rfl rfl ?_
            refine St.val (v := (.int .i64 ((x141.length : Nat) : Int))) (Yields.lenSlice tu26 rfl) rfl rfl rfl ?_
            refine St.val (v := (.bool (!decide (((q30.1.length : Nat) : Int) = ((x141.length : Nat) : Int))))) (Yields.ne rfl rfl) rfl rfl rfl ?_
            refine St.val (v := (.bool (!decide (((q30.1.length : Nat) : Int) = ((x141.length : Nat) : Int))))) (Yields.pick_f rfl rfl) trivial rfl rfl ?_
            refine St.nil ?_
            obtain rfl := sI hm
            intro a w ha hs
            exact ⟨ha.covers ⟨rfl, rfl, rfl, rfl, rfl, rfl, rfl, trivial⟩, (Among.of (Among.take 1 rfl rfl (Among.take 0 rfl rfl Among.none)) _ hs)⟩
           ·replace hm := iF hm q139
            have hb152 : (s73.1) = false := eq_false_of_ne_true q139
            try rw [hb152]
            refine St.val (v := (.bool false)) (Yields.move rfl) trivial rfl rfl ?_
            refine St.val (v := (.bool true)) (Yields.not_f rfl) trivial rfl rfl ?_
            refine St.val (v := (.bool true)) (Yields.move rfl) trivial rfl rfl ?_
            refine St.unwanted rfl rfl rfl ?_
            refine St.unwanted rfl rfl rfl ?_
            refine St.unwanted rfl rfl rfl ?_
            refine St.unwanted rfl rfl rfl ?_
            refine St.unwanted rfl rfl rfl ?_
            refine St.unwanted rfl rfl rfl ?_
            refine St.unwanted rfl rfl rfl ?_
            refine St.unwanted rfl rfl rfl ?_
            refine St.val (v := (.bool true)) (Yields.pick_t rfl rfl) trivial rfl rfl ?_
            refine St.nil ?_
            obtain rfl := sI hm
            intro a w ha hs
            exact ⟨ha.covers ⟨rfl, rfl, rfl, rfl, rfl, rfl, rfl, trivial⟩, (Among.of (Among.take 1 rfl rfl (Among.take 0 rfl rfl Among.none)) _ hs)⟩
          ·rintro a w ⟨ha, hs⟩
           replace hm := hk138
           refine St.use (?_ : St _ _ _ _ _ _) ha hs
           clear ha hs a w
           refine St.cond_b rfl ?_ ?_
           ·intro q153
            replace q153 : z137.2 = true := q153
            replace hm := iT hm q153
            refine St.seq ?_
            refine St.region ?_
            refine St.val (v := (.bool false)) (Yields.assign rfl) trivial rfl rfl ?_
            refine St.nil ?_
            refine St.norm ?_
            refine St.ret ?_
            refine St.thenret ?_
            refine St.inret ?_
            refine St.thenret ?_
            refine St.thenret ?_
            refine St.inret ?_
            refine St.thenret ?_
            obtain rfl := sI hm
            obtain rfl := aR ho97
            obtain rfl := aR ho76
            obtain rfl := aR ho62
            exact St.doneR1 rfl rfl ⟨rfl, rfl⟩ (fun w hs => Among.of Among.none w hs)
           ·intro q154
            replace q154 : ¬ (z137.2 = true) := bf q154
            replace hm := iF hm q154
            refine St.skip ?_
            refine St.norm ?_
            refine St.seq ?_
            refine St.region ?_
            refine St.val (v := (.int .i64 0)) (Yields.assign rfl) trivial rfl rfl ?_
            refine St.nil ?_
            refine St.norm ?_
            refine St.block ?_
            refine St.loopM hm (fun s157 a w => ∃ (F161 : PH), PH.le F112 F161 ∧ Has Try.f4.ntmps a [(1, .pointer (some ⟨b3, 0, none⟩)), (3, .slice A34 q30.1.length c35), (4, .bool z137.1), (6, .slice A48 q44.length c49), (7, .slice A130 x134.length c131), (8, .int .i64 ((s73.2.2 : Nat) : Int)), (12, .int .i64 ((s157 : Nat) : Int))] ∧ Sat ⟨w0, fun b => m0 b ≠ none, F⟩ F161 [blk b3 (.cells #[.slice pA0_0 a0.Doms.length pc0_0, .slice pA0_1 a0.Limits.length pc0_1] 25 (0, 0)), rowo A130 x134.length c131 26 1 cells132] w) ?_ ?_
            ·skip
             intro a w ha hs
             exact ⟨F112, (PH.le_refl _), ha.covers ⟨rfl, rfl, rfl, rfl, rfl, rfl, rfl, trivial⟩, (Among.of (Among.take 0 rfl rfl (Among.take 0 rfl rfl Among.none)) _ hs)⟩
            ·rintro s157 o158 co159 hm ho160 a w ⟨F161, l162, ha, hs⟩
             refine St.use (?_ : St _ _ _ _ _ _) ha hs
             clear ha hs a w
             refine St.seq ?_
             refine St.seq ?_
             refine St.region ?_
             refine St.val (v := (.int .i64 ((s157 : Nat) : Int))) (Yields.move rfl) trivial rfl rfl ?_
             refine St.val (v := (.slice A34 q30.1.length c35)) (Yields.move rfl) trivial rfl rfl ?_
             refine St.val (v := (.int .i64 ((q30.1.length : Nat) : Int))) (Yields.lenSlice tu22 rfl) trivial rfl rfl ?_
             refine St.val (v := (.bool (decide (((s157 : Nat) : Int) < ((q30.1.length : Nat) : Int))))) (Yields.lt rfl rfl) trivial rfl rfl ?_
             refine St.nil ?_
             refine St.norm ?_
             refine St.cond_b rfl ?_ ?_
             ·intro q163
              replace q163 : ((s157 : Nat) : Int) < ((q30.1.length : Nat) : Int) := of_decide_eq_true q163
              replace hm := iT hm q163
              refine St.skip ?_
              refine St.norm ?_
              refine St.seq ?_
              refine St.block ?_
              refine St.seq ?_
              refine StD.start [11] [blk b3 (.cells #[.slice pA0_0 a0.Doms.length pc0_0, .slice pA0_1 a0.Limits.length pc0_1] 25 (0, 0)), rowo A130 x134.length c131 26 1 cells132] hmix ?_
              refine StD.takeP (i := 0) (v := (.slice A34 q30.1.length c35)) rfl (fun _ => Yields.move rfl) rfl rfl trivial (by rintro _ _ _ ⟨_, _, _, _, h, _⟩; cases h) (by kernel_rfl) (listed' := #[true, false, false, false, false, false, false, false, false, false, false, false, false]) rfl ?_
              refine StD.takeP (i := 1) (v := (.int .i64 ((s157 : Nat) : Int))) rfl (fun _ => Yields.move rfl) rfl rfl trivial (by rintro _ _ _ ⟨_, _, _, _, h, _⟩; cases h) (by kernel_rfl) (listed' := #[true, true, false, false, false, false, false, false, false, false, false, false, false]) rfl ?_
              obtain ⟨x164, e165, hm⟩ := bS hm
              obtain ⟨p166, cs167, jx168, R169, k170⟩ := (Fsl.mono (PH.le_trans l47 (PH.le_trans l84 (PH.le_trans l113 l162))) h36).nidx e165
              obtain ⟨A171, c172, rfl, h173⟩ := R169
              refine StD.takeP (i := 2) (v := (.pointer (some p166))) rfl (fun _ => Yields.idx jx168 ts22 rfl rfl) rfl rfl trivial (by rintro _ _ _ ⟨_, _, _, _, h, _⟩; cases h) (by kernel_rfl) (listed' := #[true, true, true, false, false, false, false, false, false, false, false, false, false]) rfl ?_
              refine StD.take [0, 1, 2, 4, 5, 6, 8, 9, 12] (i := 3) (v := (.slice A171 x164.length c172)) rfl (Yields.load rfl (Loads.Fat k170 tc26 rfl)) rfl rfl trivial Among.refl (by rintro _ _ _ ⟨_, _, _, _, h, _⟩; cases h) (by kernel_rfl) (listed' := #[true, true, true, true, false, false, false, false, false, false, false, false, false]) rfl ?_
              refine StD.takeP (i := 4) (v := (.slice A48 q44.length c49)) rfl (fun _ => Yields.move rfl) rfl rfl trivial (by rintro _ _ _ ⟨_, _, _, _, h, _⟩; cases h) (by kernel_rfl) (listed' := #[true, true, true, true, true, false, false, false, false, false, false, false, false]) rfl ?_
              refine StD.takeP (i := 5) (v := (.int .i64 ((s73.2.2 : Nat) : Int))) rfl (fun _ => Yields.move rfl) rfl rfl trivial (by rintro _ _ _ ⟨_, _, _, _, h, _⟩; cases h) (by kernel_rfl) (listed' := #[true, true, true, true, true, true, false, false, false, false, false, false, false]) rfl ?_
              obtain ⟨x175, e176, hm⟩ := bS hm
              obtain ⟨p177, cs178, jx179, R180, k181⟩ := (Fsl.mono (PH.le_trans l84 (PH.le_trans l113 l162)) h50).nidx e176
              obtain ⟨A182, c183, rfl, h184⟩ := R180
              refine StD.takeP (i := 6) (v := (.pointer (some p177))) rfl (fun _ => Yields.idx jx179 ts22 rfl rfl) rfl rfl trivial (by rintro _ _ _ ⟨_, _, _, _, h, _⟩; cases h) (by kernel_rfl) (listed' := #[true, true, true, true, true, true, true, false, false, false, false, false, false]) rfl ?_
              refine StD.take [0, 1, 2, 4, 5, 6, 8, 9, 12] (i := 7) (v := (.slice A182 x175.length c183)) rfl (Yields.load rfl (Loads.Fat k181 tc26 rfl)) rfl rfl trivial Among.refl (by rintro _ _ _ ⟨_, _, _, _, h, _⟩; cases h) (by kernel_rfl) (listed' := #[true, true, true, true, true, true, true, true, false, false, false, false, false]) rfl ?_
              refine StD.takeP (i := 8) (v := (.int .i64 ((s157 : Nat) : Int))) rfl (fun _ => Yields.move rfl) rfl rfl trivial (by rintro _ _ _ ⟨_, _, _, _, h, _⟩; cases h) (by kernel_rfl) (listed' := #[true, true, true, true, true, true, true, true, true, false, false, false, false]) rfl ?_
              obtain ⟨x186, e187, hm⟩ := bS hm
              obtain ⟨p188, cs189, jx190, R191, k192⟩ := h184.nidx e187
              obtain rfl := R191
              refine StD.takeP (i := 9) (v := (.pointer (some p188))) rfl (fun _ => Yields.idx jx190 ts26 rfl rfl) rfl rfl trivial (by rintro _ _ _ ⟨_, _, _, _, h, _⟩; cases h) (by kernel_rfl) (listed' := #[true, true, true, true, true, true, true, true, true, true, false, false, false]) rfl ?_
              refine StD.take [0, 1, 2, 4, 5, 6, 8, 9, 12] (i := 10) (v := (.int .i64 x186)) rfl (Yields.load rfl (Loads.Fat k192 tc3 rfl)) rfl rfl trivial Among.refl (by rintro _ _ _ ⟨_, _, _, _, h, _⟩; cases h) (by kernel_rfl) (listed' := #[true, true, true, true, true, true, true, true, true, true, true, false, false]) rfl ?_
              refine StD.only (i := 11) rfl (by kernel_rfl) (listed' := #[true, true, true, true, true, true, true, true, true, true, true, true, false]) rfl ?_
              intro hcl193
              obtain ⟨q194, e195, hm⟩ := bS hm
              refine St.call [blk b3 (.cells #[.slice pA0_0 a0.Doms.length pc0_0, .slice pA0_1 a0.Limits.length pc0_1] 25 (0, 0)), rowo A130 x134.length c131 26 1 cells132] (m_law11_in_sp h173 e195) rfl (fun _ ha => ev2 ha rfl rfl) rfl en11 rfl rfl trivial ?_
              rintro _ F196 _ ⟨rfl, rfl⟩ l197
              refine StD.next hcl193 (fun h => by cases h) ?_
              refine StD.takeP (i := 12) (v := (.bool (!q194))) rfl (fun _ => Yields.not rfl) rfl rfl trivial (by rintro _ _ _ ⟨_, _, _, _, h, _⟩; cases h) (by kernel_rfl) (listed' := #[true, true, true, true, true, true, true, true, true, true, true, true, true]) rfl ?_
              refine StD.done (by kernel_rfl) ?_
              refine St.norm ?_
              refine St.cond_b rfl ?_ ?_
              ·intro q198
               replace q198 : ¬ (q194 = true) := nb_t q198
               replace hm := iF hm q198
               refine St.seq ?_
               refine St.region ?_
               refine St.val (v := (.bool false)) (Yields.assign rfl) trivial rfl rfl ?_
               refine St.nil ?_
               refine St.norm ?_
               refine St.ret ?_
               refine St.inret ?_
               refine St.thenret ?_
               refine St.thenret ?_
               refine St.inret ?_
               refine St.inret ?_
               refine St.thenret ?_
               refine St.thenret ?_
               refine St.inret ?_
               refine St.thenret ?_
               obtain rfl := sI hm
               obtain rfl := aR ho160
               obtain rfl := aR ho97
               obtain rfl := aR ho76
               obtain rfl := aR ho62
               exact St.doneR1 rfl rfl ⟨rfl, rfl⟩ (fun w hs => Among.of Among.none w hs)
              ·intro q199
               replace q199 : q194 = true := nb_f q199
               replace hm := iT hm q199
               refine St.skip ?_
               refine St.innorm ?_
               refine St.norm ?_
               refine St.region ?_
               refine St.val (v := (.int .i64 ((s157 : Nat) : Int))) (Yields.move rfl) trivial rfl rfl ?_
               refine St.val (v := (.int .i64 ((s157 + 1 : Nat) : Int))) (Yields.addn (j := 1) rfl rfl rfl (by have q_0 := q163; have q_1 := h36.bnd.2; omega)) trivial rfl rfl ?_
               refine St.val (v := (.int .i64 ((s157 + 1 : Nat) : Int))) (Yields.assign rfl) trivial rfl rfl ?_
               refine St.nil ?_
               refine St.norm ?_
               obtain rfl := sI hm
               intro a w ha hs
               exact ⟨s157 + 1, aL ho160, F196, (PH.le_trans l162 l197), ha.covers ⟨rfl, rfl, rfl, rfl, rfl, rfl, rfl, trivial⟩, (Among.of (Among.take 0 rfl rfl (Among.take 0 rfl rfl Among.none)) _ hs)⟩
             ·intro q200
              replace q200 : ¬ (((s157 : Nat) : Int) < ((q30.1.length : Nat) : Int)) := of_decide_eq_false q200
              replace hm := iF hm q200
              refine St.exit ?_
              refine St.thenexit ?_
              refine St.thenexit ?_
              refine St.inexit ?_
              refine St.innorm ?_
              obtain rfl := sI hm
              obtain rfl := aR ho160
              intro a w ha hs
              exact ⟨(z137.1, x134), rfl, A130, c131, cells132, F161, (PH.le_trans l113 l162), (Cat.mono l162 h133), (Bnd.of_push e135), ha.covers ⟨rfl, rfl, rfl, rfl, rfl, rfl, trivial⟩, (Among.of (Among.take 0 rfl rfl (Among.take 0 rfl rfl Among.none)) _ hs)⟩
       ·rintro a w ⟨z87, rfl, A91, c92, cells94, F88, l89, h93, b95, ha, hs⟩
        replace hm := aL ho97
        refine St.use (?_ : St _ _ _ _ _ _) ha hs
        clear ha hs a w
        refine St.region ?_
        refine St.val (v := (.int .i64 ((s73.2.2 : Nat) : Int))) (Yields.move rfl) trivial rfl rfl ?_
        refine St.val (v := (.int .i64 ((s73.2.2 + 1 : Nat) : Int))) (Yields.addn (j := 1) rfl rfl rfl (by have q_0 := q86; have q_1 := h50.bnd.2; omega)) trivial rfl rfl ?_
        refine St.val (v := (.int .i64 ((s73.2.2 + 1 : Nat) : Int))) (Yields.assign rfl) trivial rfl rfl ?_
        refine St.nil ?_
        refine St.norm ?_
        obtain rfl := sI hm
        intro a w ha hs
        exact ⟨(z87.1, z87.2, s73.2.2 + 1), aL ho76, A91, c92, cells94, F88, (PH.le_trans l84 l89), h93, b95, ha.covers ⟨rfl, rfl, rfl, rfl, rfl, rfl, trivial⟩, (Among.of (Among.take 0 rfl rfl (Among.take 0 rfl rfl Among.none)) _ hs)⟩
      ·intro q201
       replace q201 : ¬ (((s73.2.2 : Nat) : Int) < ((q44.length : Nat) : Int)) := of_decide_eq_false q201
       replace hm := iF hm q201
       refine St.exit ?_
       refine St.thenexit ?_
       refine St.thenexit ?_
       refine St.inexit ?_
       obtain rfl := sI hm
       obtain rfl := aR ho76
       intro a w ha hs
       exact ⟨s73.2.1, rfl, A78, c79, cells81, F83, l84, h80, b82, ha.covers ⟨rfl, rfl, trivial⟩, (Among.of (Among.take 0 rfl rfl (Among.take 0 rfl rfl Among.none)) _ hs)⟩
    ·rintro a w ⟨z52, rfl, A56, c57, cells59, F53, l54, h58, b60, ha, hs⟩
     replace hm := aL ho62
     refine St.use (?_ : St _ _ _ _ _ _) ha hs
     clear ha hs a w
     obtain ⟨o205, hm, ho206⟩ := jS hm
     refine St.cutI (fun a w => ∃ z202 : Unit, o205 = .inl z202 ∧ ∃ (F203 : PH), PH.le F53 F203 ∧ Has Try.f4.ntmps a [] ∧ Sat ⟨w0, fun b => m0 b ≠ none, F⟩ F203 [] w) ?_ ?_
     ·skip
      refine St.seq ?_
      refine St.region ?_
      refine St.val (v := (.int .i64 0)) (Yields.assign rfl) trivial rfl rfl ?_
      refine St.nil ?_
      refine St.norm ?_
      refine St.block ?_
      refine St.loopM hm (fun s209 a w => ∃ (F213 : PH), PH.le F53 F213 ∧ Has Try.f4.ntmps a [(1, .pointer (some ⟨b3, 0, none⟩)), (7, .slice A56 z52.length c57), (13, .int .i64 ((s209 : Nat) : Int))] ∧ Sat ⟨w0, fun b => m0 b ≠ none, F⟩ F213 [blk b3 (.cells #[.slice pA0_0 a0.Doms.length pc0_0, .slice pA0_1 a0.Limits.length pc0_1] 25 (0, 0)), rowo A56 z52.length c57 26 1 cells59] w) ?_ ?_
      ·skip
       intro a w ha hs
       exact ⟨F53, (PH.le_refl _), ha.covers ⟨rfl, rfl, rfl, trivial⟩, (Among.of (Among.take 0 rfl rfl (Among.take 0 rfl rfl Among.none)) _ hs)⟩
      ·rintro s209 o210 co211 hm ho212 a w ⟨F213, l214, ha, hs⟩
       refine St.use (?_ : St _ _ _ _ _ _) ha hs
       clear ha hs a w
       refine St.seq ?_
       refine St.seq ?_
       refine St.region ?_
       refine St.val (v := (.int .i64 ((s209 : Nat) : Int))) (Yields.move rfl) trivial rfl rfl ?_
       refine St.val (v := (.bool (decide (((s209 : Nat) : Int) < 3)))) (Yields.lt rfl rfl) trivial rfl rfl ?_
       refine St.nil ?_
       refine St.norm ?_
       refine St.cond_b rfl ?_ ?_
       ·intro q215
        replace q215 : ((s209 : Nat) : Int) < 3 := of_decide_eq_true q215
        replace hm := iT hm q215
        refine St.skip ?_
        refine St.norm ?_
        obtain ⟨o219, hm, ho220⟩ := jS hm
        refine St.cutI (fun a w => ∃ z216 : Unit, o219 = .inl z216 ∧ ∃ (F217 : PH), PH.le F213 F217 ∧ Has Try.f4.ntmps a [(1, .pointer (some ⟨b3, 0, none⟩)), (7, .slice A56 z52.length c57), (13, .int .i64 ((s209 : Nat) : Int))] ∧ Sat ⟨w0, fun b => m0 b ≠ none, F⟩ F217 [blk b3 (.cells #[.slice pA0_0 a0.Doms.length pc0_0, .slice pA0_1 a0.Limits.length pc0_1] 25 (0, 0)), rowo A56 z52.length c57 26 1 cells59] w) ?_ ?_
        ·skip
         refine St.block ?_
         refine St.seq ?_
         refine St.region ?_
         refine St.val (v := (.agg #[.slice pA0_0 a0.Doms.length pc0_0, .slice pA0_1 a0.Limits.length pc0_1])) (Yields.load rfl (Loads.Hk (vs := [.slice pA0_0 a0.Doms.length pc0_0, .slice pA0_1 a0.Limits.length pc0_1]) 0 rfl ta25 rfl rfl)) trivial rfl rfl ?_
         refine St.val (v := (.int .i64 ((s209 : Nat) : Int))) (Yields.move rfl) trivial rfl rfl ?_
         obtain ⟨q221, e222, hm⟩ := bS hm
         refine St.call [blk b3 (.cells #[.slice pA0_0 a0.Doms.length pc0_0, .slice pA0_1 a0.Limits.length pc0_1] 25 (0, 0)), rowo A56 z52.length c57 26 1 cells59] (m_domain_Solve_sp (a0 := a0) (Fsl.mono (PH.le_trans l6 (PH.le_trans l33 (PH.le_trans l47 (PH.le_trans l54 l214)))) ph0_0) (Fsl.mono (PH.le_trans l6 (PH.le_trans l33 (PH.le_trans l47 (PH.le_trans l54 l214)))) ph0_1) e222) rfl (fun _ ha => ev3 ha rfl rfl rfl) rfl en15 rfl rfl trivial ?_
         rintro _ F223 _ ⟨A225, c226, rfl, h227, rfl⟩ l224
         refine St.val (v := (.tuple #[.slice A225 q221.1.length c226, .bool q221.2.1, .int .i64 q221.2.2.1, .int .i64 q221.2.2.2])) (Yields.move rfl) trivial rfl rfl ?_
         refine St.val (v := (.slice A225 q221.1.length c226)) (Yields.extract rfl rfl) trivial rfl rfl ?_
         refine St.val (v := (.bool q221.2.1)) (Yields.extract rfl rfl) trivial rfl rfl ?_
         refine St.val (v := (.int .i64 q221.2.2.1)) (Yields.extract rfl rfl) trivial rfl rfl ?_
         refine St.val (v := (.int .i64 q221.2.2.2)) (Yields.extract rfl rfl) trivial rfl rfl ?_
         refine St.val (v := (.slice A225 q221.1.length c226)) (Yields.assign rfl) trivial rfl rfl ?_
         refine St.val (v := (.bool q221.2.1)) (Yields.assign rfl) trivial rfl rfl ?_
         refine St.val (v := (.int .i64 q221.2.2.1)) (Yields.assign rfl) trivial rfl rfl ?_
         refine St.val (v := (.int .i64 q221.2.2.2)) (Yields.assign rfl) trivial rfl rfl ?_
         refine St.nil ?_
         refine St.norm ?_
         refine St.seq ?_
         obtain ⟨z229, hm, hk230⟩ := bS hm
         refine St.cutI (fun a w => Has Try.f4.ntmps a [(1, .pointer (some ⟨b3, 0, none⟩)), (7, .slice A56 z52.length c57), (13, .int .i64 ((s209 : Nat) : Int)), (14, .slice A225 q221.1.length c226), (126, .bool z229)] ∧ Sat ⟨w0, fun b => m0 b ≠ none, F⟩ F223 [blk b3 (.cells #[.slice pA0_0 a0.Doms.length pc0_0, .slice pA0_1 a0.Limits.length pc0_1] 25 (0, 0)), rowo A56 z52.length c57 26 1 cells59] w) ?_ ?_
         ·skip
          refine St.region ?_
          refine St.val (v := (.int .i64 q221.2.2.2)) (Yields.move rfl) trivial rfl rfl ?_
          by_cases q231 : q221.2.2.2 = 0
          ·replace hm := iT hm q231
           refine St.val (v := (.bool false)) (Yields.nis q231 (Yields.ne rfl rfl)) trivial rfl rfl ?_
           refine St.val (v := (.bool false)) (Yields.move rfl) trivial rfl rfl ?_
           by_cases q232 : q221.2.1 = true
           ·replace hm := iT hm q232
            have hb233 : (q221.2.1) = true := q232
            try rw [hb233]
            refine St.val (v := (.bool true)) (Yields.move rfl) rfl rfl rfl ?_
            refine St.val (v := (.bool true)) (Yields.pick_f rfl rfl) trivial rfl rfl ?_
            refine St.val (v := (.bool true)) (Yields.move rfl) trivial rfl rfl ?_
            refine St.unwanted rfl rfl rfl ?_
            refine St.unwanted rfl rfl rfl ?_
            refine St.unwanted rfl rfl rfl ?_
            refine St.unwanted rfl rfl rfl ?_
            refine St.unwanted rfl rfl rfl ?_
            refine St.val (v := (.bool true)) (Yields.pick_t rfl rfl) trivial rfl rfl ?_
            refine St.nil ?_
            obtain rfl := sI hm
            intro a w ha hs
            exact ⟨ha.covers ⟨rfl, rfl, rfl, rfl, rfl, trivial⟩, (Among.of (Among.take 0 rfl rfl (Among.take 0 rfl rfl Among.none)) _ hs)⟩
           ·replace hm := iF hm q232
            have hb234 : (q221.2.1) = false := eq_false_of_ne_true q232
            try rw [hb234]
            refine St.val (v := (.bool false)) (Yields.move rfl) rfl rfl rfl ?_
            refine St.val (v := (.bool false)) (Yields.pick_f rfl rfl) trivial rfl rfl ?_
            refine St.val (v := (.bool false)) (Yields.move rfl) trivial rfl rfl ?_
            refine St.val (v := (.slice A225 q221.1.length c226)) (Yields.move rfl) rfl rfl rfl ?_
            refine St.val (v := (.int .i64 ((q221.1.length : Nat) : Int))) (Yields.lenSlice tu22 rfl) rfl rfl rfl ?_
            refine St.val (v := (.slice A56 z52.length c57)) (Yields.move rfl) rfl rfl rfl ?_
            refine St.val (v := (.int .i64 ((z52.length : Nat) : Int))) (Yields.lenSlice tu22 rfl) rfl rfl rfl ?_
            refine St.val (v := (.bool (!decide (((q221.1.length : Nat) : Int) = ((z52.length : Nat) : Int))))) (Yields.ne rfl rfl) rfl rfl rfl ?_
            refine St.val (v := (.bool (!decide (((q221.1.length : Nat) : Int) = ((z52.length : Nat) : Int))))) (Yields.pick_f rfl rfl) trivial rfl rfl ?_
            refine St.nil ?_
            obtain rfl := sI hm
            intro a w ha hs
            exact ⟨ha.covers ⟨rfl, rfl, rfl, rfl, rfl, trivial⟩, (Among.of (Among.take 0 rfl rfl (Among.take 0 rfl rfl Among.none)) _ hs)⟩
          ·replace hm := iF hm q231
           refine St.val (v := (.bool true)) (Yields.nisnt q231 (Yields.ne rfl rfl)) trivial rfl rfl ?_
           refine St.val (v := (.bool true)) (Yields.move rfl) trivial rfl rfl ?_
           refine St.unwanted rfl rfl rfl ?_
           refine St.val (v := (.bool true)) (Yields.pick_t rfl rfl) trivial rfl rfl ?_
           refine St.val (v := (.bool true)) (Yields.move rfl) trivial rfl rfl ?_
           refine St.unwanted rfl rfl rfl ?_
           refine St.unwanted rfl rfl rfl ?_
           refine St.unwanted rfl rfl rfl ?_
           refine St.unwanted rfl rfl rfl ?_
           refine St.unwanted rfl rfl rfl ?_
           refine St.val (v := (.bool true)) (Yields.pick_t rfl rfl) trivial rfl rfl ?_
           refine St.nil ?_
           obtain rfl := sI hm
           intro a w ha hs
           exact ⟨ha.covers ⟨rfl, rfl, rfl, rfl, rfl, trivial⟩, (Among.of (Among.take 0 rfl rfl (Among.take 0 rfl rfl Among.none)) _ hs)⟩
         ·rintro a w ⟨ha, hs⟩
          replace hm := hk230
          refine St.use (?_ : St _ _ _ _ _ _) ha hs
          clear ha hs a w
          refine St.cond_b rfl ?_ ?_
          ·intro q235
           replace q235 : z229 = true := q235
           replace hm := iT hm q235
           refine St.seq ?_
           refine St.region ?_
           refine St.val (v := (.bool false)) (Yields.assign rfl) trivial rfl rfl ?_
           refine St.nil ?_
           refine St.norm ?_
           refine St.ret ?_
           refine St.thenret ?_
           refine St.inret ?_
           refine St.thenret ?_
           refine St.thenret ?_
           refine St.inret ?_
           refine St.thenret ?_
           obtain rfl := sI hm
           obtain rfl := aR ho220
           obtain rfl := aR ho212
           obtain rfl := aR ho206
           exact St.doneR1 rfl rfl ⟨rfl, rfl⟩ (fun w hs => Among.of Among.none w hs)
          ·intro q236
           replace q236 : ¬ (z229 = true) := bf q236
           replace hm := iF hm q236
           refine St.skip ?_
           refine St.norm ?_
           refine St.seq ?_
           refine St.region ?_
           refine St.val (v := (.int .i64 0)) (Yields.assign rfl) trivial rfl rfl ?_
           refine St.nil ?_
           refine St.norm ?_
           refine St.block ?_
           refine St.loopM hm (fun s239 a w => ∃ (F243 : PH), PH.le F223 F243 ∧ Has Try.f4.ntmps a [(1, .pointer (some ⟨b3, 0, none⟩)), (7, .slice A56 z52.length c57), (13, .int .i64 ((s209 : Nat) : Int)), (14, .slice A225 q221.1.length c226), (18, .int .i64 ((s239 : Nat) : Int))] ∧ Sat ⟨w0, fun b => m0 b ≠ none, F⟩ F243 [blk b3 (.cells #[.slice pA0_0 a0.Doms.length pc0_0, .slice pA0_1 a0.Limits.length pc0_1] 25 (0, 0)), rowo A56 z52.length c57 26 1 cells59] w) ?_ ?_
           ·skip
            intro a w ha hs
            exact ⟨F223, (PH.le_refl _), ha.covers ⟨rfl, rfl, rfl, rfl, rfl, trivial⟩, (Among.of (Among.take 0 rfl rfl (Among.take 0 rfl rfl Among.none)) _ hs)⟩
           ·rintro s239 o240 co241 hm ho242 a w ⟨F243, l244, ha, hs⟩
            refine St.use (?_ : St _ _ _ _ _ _) ha hs
            clear ha hs a w
            refine St.seq ?_
            refine St.seq ?_
            refine St.region ?_
            refine St.val (v := (.int .i64 ((s239 : Nat) : Int))) (Yields.move rfl) trivial rfl rfl ?_
            refine St.val (v := (.slice A225 q221.1.length c226)) (Yields.move rfl) trivial rfl rfl ?_
            refine St.val (v := (.int .i64 ((q221.1.length : Nat) : Int))) (Yields.lenSlice tu22 rfl) trivial rfl rfl ?_
            refine St.val (v := (.bool (decide (((s239 : Nat) : Int) < ((q221.1.length : Nat) : Int))))) (Yields.lt rfl rfl) trivial rfl rfl ?_
            refine St.nil ?_
            refine St.norm ?_
            refine St.cond_b rfl ?_ ?_
            ·intro q245
             replace q245 : ((s239 : Nat) : Int) < ((q221.1.length : Nat) : Int) := of_decide_eq_true q245
             replace hm := iT hm q245
             refine St.skip ?_
             refine St.norm ?_
             refine St.seq ?_
             refine St.block ?_
             obtain ⟨z246, hm, hk249⟩ := bS hm
             refine St.cutI (fun a w => ∃ (F247 : PH), PH.le F243 F247 ∧ Has Try.f4.ntmps a [(1, .pointer (some ⟨b3, 0, none⟩)), (7, .slice A56 z52.length c57), (13, .int .i64 ((s209 : Nat) : Int)), (14, .slice A225 q221.1.length c226), (18, .int .i64 ((s239 : Nat) : Int)), (149, .bool z246)] ∧ Sat ⟨w0, fun b => m0 b ≠ none, F⟩ F247 [blk b3 (.cells #[.slice pA0_0 a0.Doms.length pc0_0, .slice pA0_1 a0.Limits.length pc0_1] 25 (0, 0)), rowo A56 z52.length c57 26 1 cells59] w) ?_ ?_
             ·skip
              refine StD.start [15] [blk b3 (.cells #[.slice pA0_0 a0.Doms.length pc0_0, .slice pA0_1 a0.Limits.length pc0_1] 25 (0, 0)), rowo A56 z52.length c57 26 1 cells59] hmix ?_
              refine StD.takeP (i := 0) (v := (.slice A56 z52.length c57)) rfl (fun _ => Yields.move rfl) rfl rfl trivial (by rintro _ _ _ ⟨_, _, _, _, h, _⟩; cases h) (by kernel_rfl) (listed' := #[true, false, false, false, false, false, false, false, false, false, false, false, false, false, false, false, false]) rfl ?_
              refine StD.takeP (i := 1) (v := (.slice A225 q221.1.length c226)) rfl (fun _ => Yields.move rfl) rfl rfl trivial (by rintro _ _ _ ⟨_, _, _, _, h, _⟩; cases h) (by kernel_rfl) (listed' := #[true, true, false, false, false, false, false, false, false, false, false, false, false, false, false, false, false]) rfl ?_
              refine StD.takeP (i := 2) (v := (.int .i64 ((s239 : Nat) : Int))) rfl (fun _ => Yields.move rfl) rfl rfl trivial (by rintro _ _ _ ⟨_, _, _, _, h, _⟩; cases h) (by kernel_rfl) (listed' := #[true, true, true, false, false, false, false, false, false, false, false, false, false, false, false, false, false]) rfl ?_
              obtain ⟨x250, e251, hm⟩ := bS hm
              obtain ⟨p252, cs253, jx254, R255, k256⟩ := (Fsl.mono l244 h227).nidx e251
              obtain ⟨A257, c258, rfl, h259⟩ := R255
              refine StD.takeP (i := 3) (v := (.pointer (some p252))) rfl (fun _ => Yields.idx jx254 ts22 rfl rfl) rfl rfl trivial (by rintro _ _ _ ⟨_, _, _, _, h, _⟩; cases h) (by kernel_rfl) (listed' := #[true, true, true, true, false, false, false, false, false, false, false, false, false, false, false, false, false]) rfl ?_
              refine StD.take [0, 1, 2, 3, 6, 7, 8, 9, 10, 11, 12, 13, 16] (i := 4) (v := (.slice A257 x250.length c258)) rfl (Yields.load rfl (Loads.Fat k256 tc26 rfl)) rfl rfl trivial Among.refl (by rintro _ _ _ ⟨_, _, _, _, h, _⟩; cases h) (by kernel_rfl) (listed' := #[true, true, true, true, true, false, false, false, false, false, false, false, false, false, false, false, false]) rfl ?_
              refine StD.only (i := 5) rfl (by kernel_rfl) (listed' := #[true, true, true, true, true, true, false, false, false, false, false, false, false, false, false, false, false]) rfl ?_
              intro hcl261
              refine St.pick (R := [blk b3 (.cells #[.slice pA0_0 a0.Doms.length pc0_0, .slice pA0_1 a0.Limits.length pc0_1] 25 (0, 0))]) 1 rfl rfl ?_
              obtain ⟨q262, e263, hm⟩ := bS hm
              refine St.call [blk b3 (.cells #[.slice pA0_0 a0.Doms.length pc0_0, .slice pA0_1 a0.Limits.length pc0_1] 25 (0, 0))] (CallSp.lend (Hl := [rowo A56 z52.length c57 26 1 cells59]) (fun m_ hm_ hd_ h1_ h2_ => (m_law11_has_sp (lentR hm_ 0 rfl rfl (Cat.mono (PH.le_trans l214 (PH.le_trans l224 l244)) h58) b60 h1_ h2_) (Fsl.mono h1_ h259) e263).mono (fun _ _ _ h_ _ _ => h_))) rfl (fun _ ha => ev2 ha rfl rfl) rfl en16 rfl rfl trivial ?_
              rintro _ F264 _ ⟨_, rfl, rfl, rfl⟩ l265
              refine StD.next hcl261 (fun _ => (Among.of_le l265 (PH.le_trans l6 (PH.le_trans l33 (PH.le_trans l47 (PH.le_trans l54 (PH.le_trans l214 (PH.le_trans l224 l244)))))) (Among.take 1 rfl rfl (Among.take 0 rfl rfl Among.none)))) ?_
              by_cases q266 : q262 = true
              ·replace hm := iT hm q266
               have hb267 : (q262) = true := q266
               try rw [hb267]
               refine StD.takeP (i := 6) (v := (.bool false)) rfl (fun _ => Yields.not_t rfl) rfl rfl trivial (by rintro _ _ _ ⟨_, _, _, _, h, _⟩; cases h) (by kernel_rfl) (listed' := #[true, true, true, true, true, true, true, false, false, false, false, false, false, false, false, false, false]) rfl ?_
               refine StD.takeP (i := 7) (v := (.bool false)) rfl (fun _ => Yields.move rfl) rfl rfl trivial (by rintro _ _ _ ⟨_, _, _, _, h, _⟩; cases h) (by kernel_rfl) (listed' := #[true, true, true, true, true, true, true, true, false, false, false, false, false, false, false, false, false]) rfl ?_
               refine StD.takeP (i := 8) (v := (.slice A225 q221.1.length c226)) rfl (fun _ => Yields.move rfl) rfl rfl rfl (by rintro _ _ _ ⟨_, _, _, _, h, _⟩; cases h) (by kernel_rfl) (listed' := #[true, true, true, true, true, true, true, true, true, false, false, false, false, false, false, false, false]) rfl ?_
               refine StD.takeP (i := 9) (v := (.int .i64 ((s239 : Nat) : Int))) rfl (fun _ => Yields.move rfl) rfl rfl rfl (by rintro _ _ _ ⟨_, _, _, _, h, _⟩; cases h) (by kernel_rfl) (listed' := #[true, true, true, true, true, true, true, true, true, true, false, false, false, false, false, false, false]) rfl ?_
               obtain ⟨x272, e273, hm⟩ := bS hm
               obtain ⟨A268, c269, s270, h271⟩ := (Fsl.mono l244 h227).subx e273
               refine StD.takeP (i := 10) (v := (.slice A268 x272.length c269)) rfl (fun _ => Yields.subT s270 ts22 rfl rfl) rfl rfl rfl (by rintro _ _ _ ⟨_, _, _, _, h, _⟩; cases h) (by kernel_rfl) (listed' := #[true, true, true, true, true, true, true, true, true, true, true, false, false, false, false, false, false]) rfl ?_
               refine StD.takeP (i := 11) (v := (.slice A225 q221.1.length c226)) rfl (fun _ => Yields.move rfl) rfl rfl rfl (by rintro _ _ _ ⟨_, _, _, _, h, _⟩; cases h) (by kernel_rfl) (listed' := #[true, true, true, true, true, true, true, true, true, true, true, true, false, false, false, false, false]) rfl ?_
               refine StD.takeP (i := 12) (v := (.int .i64 ((s239 : Nat) : Int))) rfl (fun _ => Yields.move rfl) rfl rfl rfl (by rintro _ _ _ ⟨_, _, _, _, h, _⟩; cases h) (by kernel_rfl) (listed' := #[true, true, true, true, true, true, true, true, true, true, true, true, true, false, false, false, false]) rfl ?_
               obtain ⟨x275, e276, hm⟩ := bS hm
               obtain ⟨p277, cs278, jx279, R280, k281⟩ := (Fsl.mono l244 h227).nidx e276
               obtain ⟨A282, c283, rfl, h284⟩ := R280
               refine StD.takeP (i := 13) (v := (.pointer (some p277))) rfl (fun _ => Yields.idx jx279 ts22 rfl rfl) rfl rfl rfl (by rintro _ _ _ ⟨_, _, _, _, h, _⟩; cases h) (by kernel_rfl) (listed' := #[true, true, true, true, true, true, true, true, true, true, true, true, true, true, false, false, false]) rfl ?_
               refine StD.take [0, 1, 2, 3, 6, 7, 8, 9, 10, 11, 12, 13, 16] (i := 14) (v := (.slice A282 x275.length c283)) rfl (Yields.load rfl (Loads.Fat k281 tc26 rfl)) rfl rfl rfl (Among.of_le l265 (PH.le_trans l6 (PH.le_trans l33 (PH.le_trans l47 (PH.le_trans l54 (PH.le_trans l214 (PH.le_trans l224 l244)))))) (Among.take 1 rfl rfl (Among.take 0 rfl rfl Among.none))) (by rintro _ _ _ ⟨_, _, _, _, h, _⟩; cases h) (by kernel_rfl) (listed' := #[true, true, true, true, true, true, true, true, true, true, true, true, true, true, true, false, false]) rfl ?_
               refine StD.only (i := 15) rfl (by kernel_rfl) (listed' := #[true, true, true, true, true, true, true, true, true, true, true, true, true, true, true, true, false]) rfl ?_
               intro hcl286
               obtain ⟨q287, e288, hm⟩ := bS hm
               refine St.call [rowo A56 z52.length c57 26 1 cells59, blk b3 (.cells #[.slice pA0_0 a0.Doms.length pc0_0, .slice pA0_1 a0.Limits.length pc0_1] 25 (0, 0))] (m_law11_has_sp (Fsl.mono l265 h271) (Fsl.mono l265 h284) e288) rfl (fun _ ha => ev2 ha rfl rfl) rfl en16 rfl rfl rfl ?_
               rintro _ F289 _ ⟨rfl, rfl⟩ l290
               refine StD.next hcl286 (fun h => by cases h) ?_
               refine StD.takeP (i := 16) (v := (.bool q287)) rfl (fun _ => Yields.pick_f rfl rfl) rfl rfl trivial (by rintro _ _ _ ⟨_, _, _, _, h, _⟩; cases h) (by kernel_rfl) (listed' := #[true, true, true, true, true, true, true, true, true, true, true, true, true, true, true, true, true]) rfl ?_
               refine StD.done (by kernel_rfl) ?_
               obtain rfl := sI hm
               intro a w ha hs
               exact ⟨F289, (PH.le_trans l265 l290), ha.covers ⟨rfl, rfl, rfl, rfl, rfl, rfl, trivial⟩, (Among.of (Among.take 1 rfl rfl (Among.take 0 rfl rfl Among.none)) _ hs)⟩
              ·replace hm := iF hm q266
               have hb291 : (q262) = false := eq_false_of_ne_true q266
               try rw [hb291]
               refine StD.takeP (i := 6) (v := (.bool true)) rfl (fun _ => Yields.not_f rfl) rfl rfl trivial (by rintro _ _ _ ⟨_, _, _, _, h, _⟩; cases h) (by kernel_rfl) (listed' := #[true, true, true, true, true, true, true, false, false, false, false, false, false, false, false, false, false]) rfl ?_
               refine StD.takeP (i := 7) (v := (.bool true)) rfl (fun _ => Yields.move rfl) rfl rfl trivial (by rintro _ _ _ ⟨_, _, _, _, h, _⟩; cases h) (by kernel_rfl) (listed' := #[true, true, true, true, true, true, true, true, false, false, false, false, false, false, false, false, false]) rfl ?_
               refine StD.takeNot (i := 8) rfl rfl rfl rfl (by rintro _ _ _ ⟨_, _, _, _, h, _⟩; cases h) (by kernel_rfl) (listed' := #[true, true, true, true, true, true, true, true, true, false, false, false, false, false, false, false, false]) rfl ?_
               refine StD.takeNot (i := 9) rfl rfl rfl rfl (by rintro _ _ _ ⟨_, _, _, _, h, _⟩; cases h) (by kernel_rfl) (listed' := #[true, true, true, true, true, true, true, true, true, true, false, false, false, false, false, false, false]) rfl ?_
               refine StD.takeNot (i := 10) rfl rfl rfl rfl (by rintro _ _ _ ⟨_, _, _, _, h, _⟩; cases h) (by kernel_rfl) (listed' := #[true, true, true, true, true, true, true, true, true, true, true, false, false, false, false, false, false]) rfl ?_
               refine StD.takeNot (i := 11) rfl rfl rfl rfl (by rintro _ _ _ ⟨_, _, _, _, h, _⟩; cases h) (by kernel_rfl) (listed' := #[true, true, true, true, true, true, true, true, true, true, true, true, false, false, false, false, false]) rfl ?_
               refine StD.takeNot (i := 12) rfl rfl rfl rfl (by rintro _ _ _ ⟨_, _, _, _, h, _⟩; cases h) (by kernel_rfl) (listed' := #[true, true, true, true, true, true, true, true, true, true, true, true, true, false, false, false, false]) rfl ?_
               refine StD.takeNot (i := 13) rfl rfl rfl rfl (by rintro _ _ _ ⟨_, _, _, _, h, _⟩; cases h) (by kernel_rfl) (listed' := #[true, true, true, true, true, true, true, true, true, true, true, true, true, true, false, false, false]) rfl ?_
               refine StD.takeNot (i := 14) rfl rfl rfl rfl (by rintro _ _ _ ⟨_, _, _, _, h, _⟩; cases h) (by kernel_rfl) (listed' := #[true, true, true, true, true, true, true, true, true, true, true, true, true, true, true, false, false]) rfl ?_
               refine StD.only (i := 15) rfl (by kernel_rfl) (listed' := #[true, true, true, true, true, true, true, true, true, true, true, true, true, true, true, true, false]) rfl ?_
               intro hcl292
               refine St.unwanted rfl rfl rfl ?_
               refine StD.next hcl292 (fun h => by cases h) ?_
               refine StD.takeP (i := 16) (v := (.bool true)) rfl (fun _ => Yields.pick_t rfl rfl) rfl rfl trivial (by rintro _ _ _ ⟨_, _, _, _, h, _⟩; cases h) (by kernel_rfl) (listed' := #[true, true, true, true, true, true, true, true, true, true, true, true, true, true, true, true, true]) rfl ?_
               refine StD.done (by kernel_rfl) ?_
               obtain rfl := sI hm
               intro a w ha hs
               exact ⟨F264, l265, ha.covers ⟨rfl, rfl, rfl, rfl, rfl, rfl, trivial⟩, (Among.of (Among.take 1 rfl rfl (Among.take 0 rfl rfl Among.none)) _ hs)⟩
             ·rintro a w ⟨F247, l248, ha, hs⟩
              replace hm := hk249
              refine St.use (?_ : St _ _ _ _ _ _) ha hs
              clear ha hs a w
              refine St.cond_b rfl ?_ ?_
              ·intro q293
               replace q293 : z246 = true := q293
               replace hm := iT hm q293
               refine St.seq ?_
               refine St.region ?_
               refine St.val (v := (.bool false)) (Yields.assign rfl) trivial rfl rfl ?_
               refine St.nil ?_
               refine St.norm ?_
               refine St.ret ?_
               refine St.inret ?_
               refine St.thenret ?_
               refine St.thenret ?_
               refine St.inret ?_
               refine St.inret ?_
               refine St.thenret ?_
               refine St.thenret ?_
               refine St.inret ?_
               refine St.thenret ?_
               obtain rfl := sI hm
               obtain rfl := aR ho242
               obtain rfl := aR ho220
               obtain rfl := aR ho212
               obtain rfl := aR ho206
               exact St.doneR1 rfl rfl ⟨rfl, rfl⟩ (fun w hs => Among.of Among.none w hs)
              ·intro q294
               replace q294 : ¬ (z246 = true) := bf q294
               replace hm := iF hm q294
               refine St.skip ?_
               refine St.innorm ?_
               refine St.norm ?_
               refine St.region ?_
               refine St.val (v := (.int .i64 ((s239 : Nat) : Int))) (Yields.move rfl) trivial rfl rfl ?_
               refine St.val (v := (.int .i64 ((s239 + 1 : Nat) : Int))) (Yields.addn (j := 1) rfl rfl rfl (by have q_0 := q245; have q_1 := h227.bnd.2; omega)) trivial rfl rfl ?_
               refine St.val (v := (.int .i64 ((s239 + 1 : Nat) : Int))) (Yields.assign rfl) trivial rfl rfl ?_
               refine St.nil ?_
               refine St.norm ?_
               obtain rfl := sI hm
               intro a w ha hs
               exact ⟨s239 + 1, aL ho242, F247, (PH.le_trans l244 l248), ha.covers ⟨rfl, rfl, rfl, rfl, rfl, trivial⟩, (Among.of (Among.take 0 rfl rfl (Among.take 0 rfl rfl Among.none)) _ hs)⟩
            ·intro q295
             replace q295 : ¬ (((s239 : Nat) : Int) < ((q221.1.length : Nat) : Int)) := of_decide_eq_false q295
             replace hm := iF hm q295
             refine St.exit ?_
             refine St.thenexit ?_
             refine St.thenexit ?_
             refine St.inexit ?_
             refine St.innorm ?_
             obtain rfl := sI hm
             obtain rfl := aR ho242
             intro a w ha hs
             exact ⟨(), rfl, F243, (PH.le_trans l224 l244), ha.covers ⟨rfl, rfl, rfl, trivial⟩, (Among.of (Among.take 0 rfl rfl (Among.take 0 rfl rfl Among.none)) _ hs)⟩
        ·rintro a w ⟨z216, rfl, F217, l218, ha, hs⟩
         replace hm := aL ho220
         refine St.use (?_ : St _ _ _ _ _ _) ha hs
         clear ha hs a w
         refine St.region ?_
         refine St.val (v := (.int .i64 ((s209 : Nat) : Int))) (Yields.move rfl) trivial rfl rfl ?_
         refine St.val (v := (.int .i64 ((s209 + 1 : Nat) : Int))) (Yields.addn (j := 1) rfl rfl rfl (by have q_0 := q215; omega)) trivial rfl rfl ?_
         refine St.val (v := (.int .i64 ((s209 + 1 : Nat) : Int))) (Yields.assign rfl) trivial rfl rfl ?_
         refine St.nil ?_
         refine St.norm ?_
         obtain rfl := sI hm
         intro a w ha hs
         exact ⟨s209 + 1, aL ho212, F217, (PH.le_trans l214 l218), ha.covers ⟨rfl, rfl, rfl, trivial⟩, (Among.of (Among.take 0 rfl rfl (Among.take 0 rfl rfl Among.none)) _ hs)⟩
       ·intro q296
        replace q296 : ¬ (((s209 : Nat) : Int) < 3) := of_decide_eq_false q296
        replace hm := iF hm q296
        refine St.exit ?_
        refine St.thenexit ?_
        refine St.thenexit ?_
        refine St.inexit ?_
        obtain rfl := sI hm
        obtain rfl := aR ho212
        intro a w ha hs
        exact ⟨(), rfl, F213, l214, ha.covers trivial, (Among.of Among.none _ hs)⟩
     ·rintro a w ⟨z202, rfl, F203, l204, ha, hs⟩
      replace hm := aL ho206
      refine St.use (?_ : St _ _ _ _ _ _) ha hs
      clear ha hs a w
      refine St.seq ?_
      refine St.region ?_
      obtain ⟨q297, e298, hm⟩ := bS hm
      refine St.call [] (m_law11_known_sp e298) rfl (fun _ _ => ev0) rfl en8 rfl rfl trivial ?_
      rintro _ F299 _ ⟨rfl, rfl⟩ l300
      refine St.val (v := (.bool q297)) (Yields.assign rfl) trivial rfl rfl ?_
      refine St.nil ?_
      refine St.norm ?_
      refine St.ret ?_
      obtain rfl := sI hm
      exact St.doneR1 rfl rfl ⟨rfl, rfl⟩ (fun w hs => Among.of Among.none w hs)

end Go.Proofs.Ytopmcncaanjboaa
