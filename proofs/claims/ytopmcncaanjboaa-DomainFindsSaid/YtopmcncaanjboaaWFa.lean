/- Each function does what its plain words tell. -/
import Derived.Test.YtopmcncaanjboaaKiF
namespace Go.Proofs.Ytopmcncaanjboaa
open Go Go.Sy Go.RowKit
set_option linter.unusedVariables false
open Go.Mir
theorem m_domain_isNumber_sp {F : PH} {g : Nat} {a0 : Int} {r : Bool} (hm : m_domain_isNumber g a0 = some r) :
  CallSp Try.prog 21 #[.int .i64 a0] F [] (fun u F' H' => u = (.bool r) ∧ H' = []) := by
 unfold m_domain_isNumber at hm
 refine CallSp.enter (args := [.int .i64 a0]) Try.func21 rfl rfl ?_
 intro w0 m0 hm0
 refine St.seq ?_
 refine St.region ?_
 refine St.val (v := (.bool false)) (Yields.assign rfl) trivial rfl rfl ?_
 refine St.nil ?_
 refine St.norm ?_
 obtain ⟨z1, hm, hk2⟩ := bS hm
 refine St.cutI (fun a w => Has Try.f21.ntmps a [(2, .bool z1)] ∧ Sat ⟨w0, fun b => m0 b ≠ none, F⟩ F [] w) ?_ ?_
 ·skip
  refine St.region ?_
  refine St.val (v := (.int .i64 a0)) (Yields.move rfl) trivial rfl rfl ?_
  by_cases q3 : a0 ≥ (-1000000)
  ·replace hm := iT hm q3
   refine St.val (v := (.bool true)) (Yields.is q3 (Yields.ge rfl rfl)) trivial rfl rfl ?_
   refine St.val (v := (.bool true)) (Yields.move rfl) trivial rfl rfl ?_
   refine St.val (v := (.int .i64 a0)) (Yields.move rfl) rfl rfl rfl ?_
   refine St.val (v := (.bool (decide (a0 ≤ 1000000)))) (Yields.le rfl rfl) rfl rfl rfl ?_
   refine St.val (v := (.bool (decide (a0 ≤ 1000000)))) (Yields.pick_t rfl rfl) trivial rfl rfl ?_
   refine St.val (v := (.bool (decide (a0 ≤ 1000000)))) (Yields.assign rfl) trivial rfl rfl ?_
   refine St.nil ?_
   obtain rfl := sI hm
   intro a w ha hs
   exact ⟨ha.covers ⟨rfl, trivial⟩, (Among.of Among.none _ hs)⟩
  ·replace hm := iF hm q3
   refine St.val (v := (.bool false)) (Yields.isnt q3 (Yields.ge rfl rfl)) trivial rfl rfl ?_
   refine St.val (v := (.bool false)) (Yields.move rfl) trivial rfl rfl ?_
   refine St.unwanted rfl rfl rfl ?_
   refine St.unwanted rfl rfl rfl ?_
   refine St.val (v := (.bool false)) (Yields.pick_f rfl rfl) trivial rfl rfl ?_
   refine St.val (v := (.bool false)) (Yields.assign rfl) trivial rfl rfl ?_
   refine St.nil ?_
   obtain rfl := sI hm
   intro a w ha hs
   exact ⟨ha.covers ⟨rfl, trivial⟩, (Among.of Among.none _ hs)⟩
 ·rintro a w ⟨ha, hs⟩
  replace hm := hk2
  refine St.use (?_ : St _ _ _ _ _ _) ha hs
  clear ha hs a w
  refine St.ret ?_
  obtain rfl := sI hm
  exact St.doneR1 rfl rfl ⟨rfl, rfl⟩ (fun w hs => Among.of Among.none w hs)

theorem m_domain_rising_sp {F : PH} {g : Nat} {a0 : List Int} {pA0 : Option Addr} {pc0 : Nat} (ph0 : Fsl 8 (Kind.int .i64) F pA0 pc0 a0) {r : Bool} (hm : m_domain_rising g a0 = some r) :
  CallSp Try.prog 22 #[.slice pA0 a0.length pc0] F [] (fun u F' H' => u = (.bool r) ∧ H' = []) := by
 unfold m_domain_rising at hm
 refine CallSp.enter (args := [.slice pA0 a0.length pc0]) Try.func22 rfl rfl ?_
 intro w0 m0 hm0
 refine St.seq ?_
 refine St.region ?_
 refine St.val (v := (.bool false)) (Yields.assign rfl) trivial rfl rfl ?_
 refine St.nil ?_
 refine St.norm ?_
 obtain ⟨o3, hm, ho4⟩ := jS hm
 refine St.cutI (fun a w => ∃ z2 : Unit, o3 = .inl z2 ∧ Has Try.f22.ntmps a [] ∧ Sat ⟨w0, fun b => m0 b ≠ none, F⟩ F [] w) ?_ ?_
 ·skip
  refine St.seq ?_
  refine St.region ?_
  refine St.val (v := (.int .i64 1)) (Yields.assign rfl) trivial rfl rfl ?_
  refine St.nil ?_
  refine St.norm ?_
  refine St.block ?_
  refine St.loopM hm (fun s6 a w => Has Try.f22.ntmps a [(0, .slice pA0 a0.length pc0), (3, .int .i64 ((s6 : Nat) : Int))] ∧ Sat ⟨w0, fun b => m0 b ≠ none, F⟩ F [] w) ?_ ?_
  ·skip
   intro a w ha hs
   exact ⟨ha.covers ⟨rfl, rfl, trivial⟩, (Among.of Among.none _ hs)⟩
  ·rintro s6 o7 co8 hm ho9 a w ⟨ha, hs⟩
   refine St.use (?_ : St _ _ _ _ _ _) ha hs
   clear ha hs a w
   refine St.seq ?_
   refine St.seq ?_
   refine St.region ?_
   refine St.val (v := (.int .i64 ((s6 : Nat) : Int))) (Yields.move rfl) trivial rfl rfl ?_
   refine St.val (v := (.slice pA0 a0.length pc0)) (Yields.move rfl) trivial rfl rfl ?_
   refine St.val (v := (.int .i64 ((a0.length : Nat) : Int))) (Yields.lenSlice tu26 rfl) trivial rfl rfl ?_
   refine St.val (v := (.bool (decide (((s6 : Nat) : Int) < ((a0.length : Nat) : Int))))) (Yields.lt rfl rfl) trivial rfl rfl ?_
   refine St.nil ?_
   refine St.norm ?_
   refine St.cond_b rfl ?_ ?_
   ·intro q10
    replace q10 : ((s6 : Nat) : Int) < ((a0.length : Nat) : Int) := of_decide_eq_true q10
    replace hm := iT hm q10
    refine St.skip ?_
    refine St.norm ?_
    refine St.seq ?_
    refine St.block ?_
    refine St.seq ?_
    refine StD.start [] [] hmix ?_
    refine StD.takeP (i := 0) (v := (.slice pA0 a0.length pc0)) rfl (fun _ => Yields.move rfl) rfl rfl trivial (by rintro _ _ _ ⟨_, _, _, _, h, _⟩; cases h) (by kernel_rfl) (listed' := #[true, false, false, false, false, false, false, false, false, false]) rfl ?_
    refine StD.takeP (i := 1) (v := (.int .i64 ((s6 : Nat) : Int))) rfl (fun _ => Yields.move rfl) rfl rfl trivial (by rintro _ _ _ ⟨_, _, _, _, h, _⟩; cases h) (by kernel_rfl) (listed' := #[true, true, false, false, false, false, false, false, false, false]) rfl ?_
    refine StD.takeP (i := 2) (v := (.int .i64 (((s6 : Nat) : Int) - 1))) rfl (fun _ => Yields.sub rfl rfl (by have q_0 := q10; have q_1 := ph0.bnd.2; omega) (by have q_0 := q10; have q_1 := ph0.bnd.2; omega)) rfl rfl trivial (by rintro _ _ _ ⟨_, _, _, _, h, _⟩; cases h) (by kernel_rfl) (listed' := #[true, true, true, false, false, false, false, false, false, false]) rfl ?_
    obtain ⟨x11, e12, hm⟩ := bS hm
    obtain ⟨p13, cs14, jx15, R16, k17⟩ := ph0.idx e12
    obtain rfl := R16
    refine StD.takeP (i := 3) (v := (.pointer (some p13))) rfl (fun _ => Yields.idx jx15 ts26 rfl rfl) rfl rfl trivial (by rintro _ _ _ ⟨_, _, _, _, h, _⟩; cases h) (by kernel_rfl) (listed' := #[true, true, true, true, false, false, false, false, false, false]) rfl ?_
    refine StD.take [0, 1, 2, 3, 5, 6, 7, 9] (i := 4) (v := (.int .i64 x11)) rfl (Yields.load rfl (Loads.Fat k17 tc3 rfl)) rfl rfl trivial Among.refl (by rintro _ _ _ ⟨_, _, _, _, h, _⟩; cases h) (by kernel_rfl) (listed' := #[true, true, true, true, true, false, false, false, false, false]) rfl ?_
    refine StD.takeP (i := 5) (v := (.slice pA0 a0.length pc0)) rfl (fun _ => Yields.move rfl) rfl rfl trivial (by rintro _ _ _ ⟨_, _, _, _, h, _⟩; cases h) (by kernel_rfl) (listed' := #[true, true, true, true, true, true, false, false, false, false]) rfl ?_
    refine StD.takeP (i := 6) (v := (.int .i64 ((s6 : Nat) : Int))) rfl (fun _ => Yields.move rfl) rfl rfl trivial (by rintro _ _ _ ⟨_, _, _, _, h, _⟩; cases h) (by kernel_rfl) (listed' := #[true, true, true, true, true, true, true, false, false, false]) rfl ?_
    obtain ⟨x18, e19, hm⟩ := bS hm
    obtain ⟨p20, cs21, jx22, R23, k24⟩ := ph0.nidx e19
    obtain rfl := R23
    refine StD.takeP (i := 7) (v := (.pointer (some p20))) rfl (fun _ => Yields.idx jx22 ts26 rfl rfl) rfl rfl trivial (by rintro _ _ _ ⟨_, _, _, _, h, _⟩; cases h) (by kernel_rfl) (listed' := #[true, true, true, true, true, true, true, true, false, false]) rfl ?_
    refine StD.take [0, 1, 2, 3, 5, 6, 7, 9] (i := 8) (v := (.int .i64 x18)) rfl (Yields.load rfl (Loads.Fat k24 tc3 rfl)) rfl rfl trivial Among.refl (by rintro _ _ _ ⟨_, _, _, _, h, _⟩; cases h) (by kernel_rfl) (listed' := #[true, true, true, true, true, true, true, true, true, false]) rfl ?_
    refine StD.takeP (i := 9) (v := (.bool (decide (x11 ≥ x18)))) rfl (fun _ => Yields.ge rfl rfl) rfl rfl trivial (by rintro _ _ _ ⟨_, _, _, _, h, _⟩; cases h) (by kernel_rfl) (listed' := #[true, true, true, true, true, true, true, true, true, true]) rfl ?_
    refine StD.done (by kernel_rfl) ?_
    refine St.norm ?_
    refine St.cond_b rfl ?_ ?_
    ·intro q25
     replace q25 : x11 ≥ x18 := of_decide_eq_true q25
     replace hm := iT hm q25
     refine St.seq ?_
     refine St.region ?_
     refine St.val (v := (.bool false)) (Yields.assign rfl) trivial rfl rfl ?_
     refine St.nil ?_
     refine St.norm ?_
     refine St.ret ?_
     refine St.inret ?_
     refine St.thenret ?_
     refine St.thenret ?_
     refine St.inret ?_
     refine St.thenret ?_
     obtain rfl := sI hm
     obtain rfl := aR ho9
     obtain rfl := aR ho4
     exact St.doneR1 rfl rfl ⟨rfl, rfl⟩ (fun w hs => Among.of Among.none w hs)
    ·intro q26
     replace q26 : ¬ (x11 ≥ x18) := of_decide_eq_false q26
     replace hm := iF hm q26
     refine St.skip ?_
     refine St.innorm ?_
     refine St.norm ?_
     refine St.region ?_
     refine St.val (v := (.int .i64 ((s6 : Nat) : Int))) (Yields.move rfl) trivial rfl rfl ?_
     refine St.val (v := (.int .i64 ((s6 + 1 : Nat) : Int))) (Yields.addn (j := 1) rfl rfl rfl (by have q_0 := q10; have q_1 := ph0.bnd.2; omega)) trivial rfl rfl ?_
     refine St.val (v := (.int .i64 ((s6 + 1 : Nat) : Int))) (Yields.assign rfl) trivial rfl rfl ?_
     refine St.nil ?_
     refine St.norm ?_
     obtain rfl := sI hm
     intro a w ha hs
     exact ⟨s6 + 1, aL ho9, ha.covers ⟨rfl, rfl, trivial⟩, (Among.of Among.none _ hs)⟩
   ·intro q27
    replace q27 : ¬ (((s6 : Nat) : Int) < ((a0.length : Nat) : Int)) := of_decide_eq_false q27
    replace hm := iF hm q27
    refine St.exit ?_
    refine St.thenexit ?_
    refine St.thenexit ?_
    refine St.inexit ?_
    obtain rfl := sI hm
    obtain rfl := aR ho9
    intro a w ha hs
    exact ⟨(), rfl, ha.covers trivial, (Among.of Among.none _ hs)⟩
 ·rintro a w ⟨z2, rfl, ha, hs⟩
  replace hm := aL ho4
  refine St.use (?_ : St _ _ _ _ _ _) ha hs
  clear ha hs a w
  refine St.seq ?_
  refine St.region ?_
  refine St.val (v := (.bool true)) (Yields.assign rfl) trivial rfl rfl ?_
  refine St.nil ?_
  refine St.norm ?_
  refine St.ret ?_
  obtain rfl := sI hm
  exact St.doneR1 rfl rfl ⟨rfl, rfl⟩ (fun w hs => Among.of Among.none w hs)

theorem m_domain_isLimit_sp {F : PH} {g : Nat} {a0 : DProblem} {a1 : DLimit} {pA0_0 : Option Addr} {pc0_0 : Nat} {pA0_1 : Option Addr} {pc0_1 : Nat} {pA1_0 : Option Addr} {pc1_0 : Nat} {pA1_1 : Option Addr} {pc1_1 : Nat} {pA1_2 : Option Addr} {pc1_2 : Nat} (ph0_0 : Fsl 24 (Kind.sl 8 (Kind.int .i64)) F pA0_0 pc0_0 a0.Doms) (ph0_1 : Fsl 88 KDLimit F pA0_1 pc0_1 a0.Limits) (ph1_0 : Fsl 8 (Kind.int .i64) F pA1_0 pc1_0 a1.Vars) (ph1_1 : Fsl 8 (Kind.int .i64) F pA1_1 pc1_1 a1.A) (ph1_2 : Fsl 24 (Kind.sl 8 (Kind.int .i64)) F pA1_2 pc1_2 a1.Rows) {r : Bool} (hm : m_domain_isLimit g a0 a1 = some r) :
  CallSp Try.prog 23 #[.agg #[.slice pA0_0 a0.Doms.length pc0_0, .slice pA0_1 a0.Limits.length pc0_1], .agg #[.int .i64 a1.Kind, .slice pA1_0 a1.Vars.length pc1_0, .slice pA1_1 a1.A.length pc1_1, .int .i64 a1.B, .slice pA1_2 a1.Rows.length pc1_2]] F [] (fun u F' H' => u = (.bool r) ∧ H' = []) := by
 unfold m_domain_isLimit at hm
 refine CallSp.enter (args := [.agg #[.slice pA0_0 a0.Doms.length pc0_0, .slice pA0_1 a0.Limits.length pc0_1], .agg #[.int .i64 a1.Kind, .slice pA1_0 a1.Vars.length pc1_0, .slice pA1_1 a1.A.length pc1_1, .int .i64 a1.B, .slice pA1_2 a1.Rows.length pc1_2]]) Try.func23 rfl rfl ?_
 intro w0 m0 hm0
 refine St.seq ?_
 refine St.region ?_
 refine St.box rfl trivial rfl ?_
 intro b6
 refine St.box rfl trivial rfl ?_
 intro b7
 refine St.val (v := (.bool false)) (Yields.assign rfl) trivial rfl rfl ?_
 refine St.nil ?_
 refine St.norm ?_
 refine St.seq ?_
 obtain ⟨z8, hm, hk11⟩ := bS hm
 refine St.cutI (fun a w => ∃ (F9 : PH), PH.le F F9 ∧ Has Try.f23.ntmps a [(2, .pointer (some ⟨b6, 0, none⟩)), (3, .pointer (some ⟨b7, 0, none⟩)), (33, .bool z8)] ∧ Sat ⟨w0, fun b => m0 b ≠ none, F⟩ F9 [blk b6 (.cells #[.slice pA0_0 a0.Doms.length pc0_0, .slice pA0_1 a0.Limits.length pc0_1] 25 (0, 0)), blk b7 (.cells #[.int .i64 a1.Kind, .slice pA1_0 a1.Vars.length pc1_0, .slice pA1_1 a1.A.length pc1_1, .int .i64 a1.B, .slice pA1_2 a1.Rows.length pc1_2] 28 (0, 0))] w) ?_ ?_
 ·skip
  refine St.region ?_
  refine St.val (v := (.pointer (some ⟨b7, 1, none⟩))) (Yields.fieldAddr (v := (.pointer (some ⟨b7, 1, none⟩))) rfl (fun _ => by kernel_rfl)) trivial rfl rfl ?_
  refine St.val (v := (.slice pA1_0 a1.Vars.length pc1_0)) (Yields.load rfl (Loads.H1 0 rfl tc26 rfl)) trivial rfl rfl ?_
  obtain ⟨q12, e13, hm⟩ := bS hm
  refine St.call [blk b7 (.cells #[.int .i64 a1.Kind, .slice pA1_0 a1.Vars.length pc1_0, .slice pA1_1 a1.A.length pc1_1, .int .i64 a1.B, .slice pA1_2 a1.Rows.length pc1_2] 28 (0, 0)), blk b6 (.cells #[.slice pA0_0 a0.Doms.length pc0_0, .slice pA0_1 a0.Limits.length pc0_1] 25 (0, 0))] (m_domain_rising_sp ph1_0 e13) rfl (fun _ ha => ev1 ha rfl) rfl en22 rfl rfl trivial ?_
  rintro _ F14 _ ⟨rfl, rfl⟩ l15
  by_cases q16 : q12 = true
  ·replace hm := iT hm q16
   have hb17 : (q12) = true := q16
   try rw [hb17]
   refine St.val (v := (.bool false)) (Yields.not_t rfl) trivial rfl rfl ?_
   refine St.val (v := (.bool false)) (Yields.move rfl) trivial rfl rfl ?_
   refine St.val (v := (.pointer (some ⟨b7, 0, none⟩))) (Yields.fieldAddr (v := (.pointer (some ⟨b7, 0, none⟩))) rfl (fun _ => by kernel_rfl)) rfl rfl rfl ?_
   refine St.val (v := (.int .i64 a1.Kind)) (Yields.load rfl (Loads.H1 0 rfl tc3 rfl)) rfl rfl rfl ?_
   by_cases q18 : a1.Kind < 0
   ·replace hm := iT hm q18
    refine St.val (v := (.bool true)) (Yields.is q18 (Yields.lt rfl rfl)) rfl rfl rfl ?_
    refine St.val (v := (.bool true)) (Yields.pick_f rfl rfl) trivial rfl rfl ?_
    refine St.val (v := (.bool true)) (Yields.move rfl) trivial rfl rfl ?_
    refine St.unwanted rfl rfl rfl ?_
    refine St.unwanted rfl rfl rfl ?_
    refine St.unwanted rfl rfl rfl ?_
    refine St.val (v := (.bool true)) (Yields.pick_t rfl rfl) trivial rfl rfl ?_
    refine St.val (v := (.bool true)) (Yields.move rfl) trivial rfl rfl ?_
    refine St.unwanted rfl rfl rfl ?_
    refine St.unwanted rfl rfl rfl ?_
    refine St.unwanted rfl rfl rfl ?_
    refine St.unwanted rfl rfl rfl ?_
    refine St.val (v := (.bool true)) (Yields.pick_t rfl rfl) trivial rfl rfl ?_
    refine St.nil ?_
    obtain rfl := sI hm
    intro a w ha hs
    exact ⟨F14, l15, ha.covers ⟨rfl, rfl, rfl, trivial⟩, (Among.of (Among.take 1 rfl rfl (Among.take 0 rfl rfl Among.none)) _ hs)⟩
   ·replace hm := iF hm q18
    refine St.val (v := (.bool false)) (Yields.isnt q18 (Yields.lt rfl rfl)) rfl rfl rfl ?_
    refine St.val (v := (.bool false)) (Yields.pick_f rfl rfl) trivial rfl rfl ?_
    refine St.val (v := (.bool false)) (Yields.move rfl) trivial rfl rfl ?_
    refine St.val (v := (.pointer (some ⟨b7, 0, none⟩))) (Yields.fieldAddr (v := (.pointer (some ⟨b7, 0, none⟩))) rfl (fun _ => by kernel_rfl)) rfl rfl rfl ?_
    refine St.val (v := (.int .i64 a1.Kind)) (Yields.load rfl (Loads.H1 0 rfl tc3 rfl)) rfl rfl rfl ?_
    by_cases q19 : a1.Kind > 4
    ·replace hm := iT hm q19
     refine St.val (v := (.bool true)) (Yields.is q19 (Yields.gt rfl rfl)) rfl rfl rfl ?_
     refine St.val (v := (.bool true)) (Yields.pick_f rfl rfl) trivial rfl rfl ?_
     refine St.val (v := (.bool true)) (Yields.move rfl) trivial rfl rfl ?_
     refine St.unwanted rfl rfl rfl ?_
     refine St.unwanted rfl rfl rfl ?_
     refine St.unwanted rfl rfl rfl ?_
     refine St.unwanted rfl rfl rfl ?_
     refine St.val (v := (.bool true)) (Yields.pick_t rfl rfl) trivial rfl rfl ?_
     refine St.nil ?_
     obtain rfl := sI hm
     intro a w ha hs
     exact ⟨F14, l15, ha.covers ⟨rfl, rfl, rfl, trivial⟩, (Among.of (Among.take 1 rfl rfl (Among.take 0 rfl rfl Among.none)) _ hs)⟩
    ·replace hm := iF hm q19
     refine St.val (v := (.bool false)) (Yields.isnt q19 (Yields.gt rfl rfl)) rfl rfl rfl ?_
     refine St.val (v := (.bool false)) (Yields.pick_f rfl rfl) trivial rfl rfl ?_
     refine St.val (v := (.bool false)) (Yields.move rfl) trivial rfl rfl ?_
     refine St.val (v := (.pointer (some ⟨b7, 3, none⟩))) (Yields.fieldAddr (v := (.pointer (some ⟨b7, 3, none⟩))) rfl (fun _ => by kernel_rfl)) rfl rfl rfl ?_
     refine St.val (v := (.int .i64 a1.B)) (Yields.load rfl (Loads.H1 0 rfl tc3 rfl)) rfl rfl rfl ?_
     obtain ⟨q20, e21, hm⟩ := bS hm
     refine St.call [blk b7 (.cells #[.int .i64 a1.Kind, .slice pA1_0 a1.Vars.length pc1_0, .slice pA1_1 a1.A.length pc1_1, .int .i64 a1.B, .slice pA1_2 a1.Rows.length pc1_2] 28 (0, 0)), blk b6 (.cells #[.slice pA0_0 a0.Doms.length pc0_0, .slice pA0_1 a0.Limits.length pc0_1] 25 (0, 0))] (m_domain_isNumber_sp e21) rfl (fun _ ha => ev1 ha rfl) rfl en21 rfl rfl rfl ?_
     rintro _ F22 _ ⟨rfl, rfl⟩ l23
     refine St.val (v := (.bool (!q20))) (Yields.not rfl) rfl rfl rfl ?_
     refine St.val (v := (.bool (!q20))) (Yields.pick_f rfl rfl) trivial rfl rfl ?_
     refine St.nil ?_
     obtain rfl := sI hm
     intro a w ha hs
     exact ⟨F22, (PH.le_trans l15 l23), ha.covers ⟨rfl, rfl, rfl, trivial⟩, (Among.of (Among.take 1 rfl rfl (Among.take 0 rfl rfl Among.none)) _ hs)⟩
  ·replace hm := iF hm q16
   have hb24 : (q12) = false := eq_false_of_ne_true q16
   try rw [hb24]
   refine St.val (v := (.bool true)) (Yields.not_f rfl) trivial rfl rfl ?_
   refine St.val (v := (.bool true)) (Yields.move rfl) trivial rfl rfl ?_
   refine St.unwanted rfl rfl rfl ?_
   refine St.unwanted rfl rfl rfl ?_
   refine St.unwanted rfl rfl rfl ?_
   refine St.val (v := (.bool true)) (Yields.pick_t rfl rfl) trivial rfl rfl ?_
   refine St.val (v := (.bool true)) (Yields.move rfl) trivial rfl rfl ?_
   refine St.unwanted rfl rfl rfl ?_
   refine St.unwanted rfl rfl rfl ?_
   refine St.unwanted rfl rfl rfl ?_
   refine St.val (v := (.bool true)) (Yields.pick_t rfl rfl) trivial rfl rfl ?_
   refine St.val (v := (.bool true)) (Yields.move rfl) trivial rfl rfl ?_
   refine St.unwanted rfl rfl rfl ?_
   refine St.unwanted rfl rfl rfl ?_
   refine St.unwanted rfl rfl rfl ?_
   refine St.unwanted rfl rfl rfl ?_
   refine St.val (v := (.bool true)) (Yields.pick_t rfl rfl) trivial rfl rfl ?_
   refine St.nil ?_
   obtain rfl := sI hm
   intro a w ha hs
   exact ⟨F14, l15, ha.covers ⟨rfl, rfl, rfl, trivial⟩, (Among.of (Among.take 1 rfl rfl (Among.take 0 rfl rfl Among.none)) _ hs)⟩
 ·rintro a w ⟨F9, l10, ha, hs⟩
  replace hm := hk11
  refine St.use (?_ : St _ _ _ _ _ _) ha hs
  clear ha hs a w
  refine St.cond_b rfl ?_ ?_
  ·intro q25
   replace q25 : z8 = true := q25
   replace hm := iT hm q25
   refine St.seq ?_
   refine St.region ?_
   refine St.val (v := (.bool false)) (Yields.assign rfl) trivial rfl rfl ?_
   refine St.nil ?_
   refine St.norm ?_
   refine St.ret ?_
   refine St.thenret ?_
   obtain rfl := sI hm
   exact St.doneR1 rfl rfl ⟨rfl, rfl⟩ (fun w hs => Among.of Among.none w hs)
  ·intro q26
   replace q26 : ¬ (z8 = true) := bf q26
   replace hm := iF hm q26
   refine St.skip ?_
   refine St.norm ?_
   obtain ⟨o28, hm, ho29⟩ := jS hm
   refine St.cutI (fun a w => ∃ z27 : Unit, o28 = .inl z27 ∧ Has Try.f23.ntmps a [(3, .pointer (some ⟨b7, 0, none⟩))] ∧ Sat ⟨w0, fun b => m0 b ≠ none, F⟩ F9 [blk b7 (.cells #[.int .i64 a1.Kind, .slice pA1_0 a1.Vars.length pc1_0, .slice pA1_1 a1.A.length pc1_1, .int .i64 a1.B, .slice pA1_2 a1.Rows.length pc1_2] 28 (0, 0))] w) ?_ ?_
   ·skip
    refine St.seq ?_
    refine St.region ?_
    refine St.val (v := (.pointer (some ⟨b7, 1, none⟩))) (Yields.fieldAddr (v := (.pointer (some ⟨b7, 1, none⟩))) rfl (fun _ => by kernel_rfl)) trivial rfl rfl ?_
    refine St.val (v := (.slice pA1_0 a1.Vars.length pc1_0)) (Yields.load rfl (Loads.H1 1 rfl tc26 rfl)) trivial rfl rfl ?_
    refine St.val (v := (.int .i64 ((a1.Vars.length : Nat) : Int))) (Yields.lenSlice tu26 rfl) trivial rfl rfl ?_
    refine St.val (v := (.int .i64 0)) (Yields.move rfl) trivial rfl rfl ?_
    refine St.nil ?_
    refine St.norm ?_
    refine St.block ?_
    refine St.loopM hm (fun s31 a w => Has Try.f23.ntmps a [(2, .pointer (some ⟨b6, 0, none⟩)), (3, .pointer (some ⟨b7, 0, none⟩)), (35, .slice pA1_0 a1.Vars.length pc1_0), (36, .int .i64 ((a1.Vars.length : Nat) : Int)), (37, .int .i64 ((s31 : Nat) : Int))] ∧ Sat ⟨w0, fun b => m0 b ≠ none, F⟩ F9 [blk b6 (.cells #[.slice pA0_0 a0.Doms.length pc0_0, .slice pA0_1 a0.Limits.length pc0_1] 25 (0, 0)), blk b7 (.cells #[.int .i64 a1.Kind, .slice pA1_0 a1.Vars.length pc1_0, .slice pA1_1 a1.A.length pc1_1, .int .i64 a1.B, .slice pA1_2 a1.Rows.length pc1_2] 28 (0, 0))] w) ?_ ?_
    ·skip
     intro a w ha hs
     exact ⟨ha.covers ⟨rfl, rfl, rfl, rfl, rfl, trivial⟩, (Among.of (Among.take 0 rfl rfl (Among.take 0 rfl rfl Among.none)) _ hs)⟩
    ·rintro s31 o32 co33 hm ho34 a w ⟨ha, hs⟩
     refine St.use (?_ : St _ _ _ _ _ _) ha hs
     clear ha hs a w
     refine St.seq ?_
     refine St.region ?_
     refine St.val (v := (.bool (decide (((s31 : Nat) : Int) < ((a1.Vars.length : Nat) : Int))))) (Yields.lt rfl rfl) trivial rfl rfl ?_
     refine St.nil ?_
     refine St.norm ?_
     refine St.seq ?_
     refine St.cond_b rfl ?_ ?_
     ·intro q35
      replace q35 : ((s31 : Nat) : Int) < ((a1.Vars.length : Nat) : Int) := of_decide_eq_true q35
      replace hm := iT hm q35
      refine St.skip ?_
      refine St.norm ?_
      refine St.seq ?_
      refine St.block ?_
      refine St.seq ?_
      refine St.region ?_
      obtain ⟨x36, e37, hm⟩ := bS hm
      obtain ⟨p38, cs39, jx40, R41, k42⟩ := (Fsl.mono l10 ph1_0).nidx e37
      obtain rfl := R41
      refine St.val (v := (.pointer (some p38))) (Yields.idx jx40 ts26 rfl rfl) trivial rfl rfl ?_
      refine St.val (v := (.int .i64 x36)) (Yields.load rfl (Loads.Fat k42 tc3 rfl)) trivial rfl rfl ?_
      refine St.val (v := (.int .i64 x36)) (Yields.assign rfl) trivial rfl rfl ?_
      refine St.nil ?_
      refine St.norm ?_
      obtain ⟨z43, hm, hk44⟩ := bS hm
      refine St.cutI (fun a w => Has Try.f23.ntmps a [(2, .pointer (some ⟨b6, 0, none⟩)), (3, .pointer (some ⟨b7, 0, none⟩)), (35, .slice pA1_0 a1.Vars.length pc1_0), (36, .int .i64 ((a1.Vars.length : Nat) : Int)), (37, .int .i64 ((s31 : Nat) : Int)), (49, .bool z43)] ∧ Sat ⟨w0, fun b => m0 b ≠ none, F⟩ F9 [blk b6 (.cells #[.slice pA0_0 a0.Doms.length pc0_0, .slice pA0_1 a0.Limits.length pc0_1] 25 (0, 0)), blk b7 (.cells #[.int .i64 a1.Kind, .slice pA1_0 a1.Vars.length pc1_0, .slice pA1_1 a1.A.length pc1_1, .int .i64 a1.B, .slice pA1_2 a1.Rows.length pc1_2] 28 (0, 0))] w) ?_ ?_
      ·skip
       refine St.region ?_
       refine St.val (v := (.int .i64 x36)) (Yields.move rfl) trivial rfl rfl ?_
       by_cases q45 : x36 < 0
       ·replace hm := iT hm q45
        refine St.val (v := (.bool true)) (Yields.is q45 (Yields.lt rfl rfl)) trivial rfl rfl ?_
        refine St.val (v := (.bool true)) (Yields.move rfl) trivial rfl rfl ?_
        refine St.unwanted rfl rfl rfl ?_
        refine St.unwanted rfl rfl rfl ?_
        refine St.unwanted rfl rfl rfl ?_
        refine St.unwanted rfl rfl rfl ?_
        refine St.unwanted rfl rfl rfl ?_
        refine St.val (v := (.bool true)) (Yields.pick_t rfl rfl) trivial rfl rfl ?_
        refine St.nil ?_
        obtain rfl := sI hm
        intro a w ha hs
        exact ⟨ha.covers ⟨rfl, rfl, rfl, rfl, rfl, rfl, trivial⟩, (Among.of (Among.take 0 rfl rfl (Among.take 0 rfl rfl Among.none)) _ hs)⟩
       ·replace hm := iF hm q45
        refine St.val (v := (.bool false)) (Yields.isnt q45 (Yields.lt rfl rfl)) trivial rfl rfl ?_
        refine St.val (v := (.bool false)) (Yields.move rfl) trivial rfl rfl ?_
        refine St.val (v := (.int .i64 x36)) (Yields.move rfl) rfl rfl rfl ?_
        refine St.val (v := (.pointer (some ⟨b6, 0, none⟩))) (Yields.fieldAddr (v := (.pointer (some ⟨b6, 0, none⟩))) rfl (fun _ => by kernel_rfl)) rfl rfl rfl ?_
        refine St.val (v := (.slice pA0_0 a0.Doms.length pc0_0)) (Yields.load rfl (Loads.H1 0 rfl tc22 rfl)) rfl rfl rfl ?_
        refine St.val (v := (.int .i64 ((a0.Doms.length : Nat) : Int))) (Yields.lenSlice tu22 rfl) rfl rfl rfl ?_
        refine St.val (v := (.bool (decide (x36 ≥ ((a0.Doms.length : Nat) : Int))))) (Yields.ge rfl rfl) rfl rfl rfl ?_
        refine St.val (v := (.bool (decide (x36 ≥ ((a0.Doms.length : Nat) : Int))))) (Yields.pick_f rfl rfl) trivial rfl rfl ?_
        refine St.nil ?_
        obtain rfl := sI hm
        intro a w ha hs
        exact ⟨ha.covers ⟨rfl, rfl, rfl, rfl, rfl, rfl, trivial⟩, (Among.of (Among.take 0 rfl rfl (Among.take 0 rfl rfl Among.none)) _ hs)⟩
      ·rintro a w ⟨ha, hs⟩
       replace hm := hk44
       refine St.use (?_ : St _ _ _ _ _ _) ha hs
       clear ha hs a w
       refine St.cond_b rfl ?_ ?_
       ·intro q46
        replace q46 : z43 = true := q46
        replace hm := iT hm q46
        refine St.seq ?_
        refine St.region ?_
        refine St.val (v := (.bool false)) (Yields.assign rfl) trivial rfl rfl ?_
        refine St.nil ?_
        refine St.norm ?_
        refine St.ret ?_
        refine St.inret ?_
        refine St.thenret ?_
        refine St.thenret ?_
        refine St.inret ?_
        refine St.thenret ?_
        obtain rfl := sI hm
        obtain rfl := aR ho34
        obtain rfl := aR ho29
        exact St.doneR1 rfl rfl ⟨rfl, rfl⟩ (fun w hs => Among.of Among.none w hs)
       ·intro q47
        replace q47 : ¬ (z43 = true) := bf q47
        replace hm := iF hm q47
        refine St.skip ?_
        refine St.innorm ?_
        refine St.norm ?_
        refine St.region ?_
        refine St.val (v := (.int .i64 ((s31 + 1 : Nat) : Int))) (Yields.addn (j := 1) rfl rfl rfl (by have q_0 := q35; have q_1 := ph1_0.bnd.2; omega)) trivial rfl rfl ?_
        refine St.val (v := (.int .i64 ((s31 + 1 : Nat) : Int))) (Yields.move rfl) trivial rfl rfl ?_
        refine St.nil ?_
        refine St.norm ?_
        obtain rfl := sI hm
        intro a w ha hs
        exact ⟨s31 + 1, aL ho34, ha.covers ⟨rfl, rfl, rfl, rfl, rfl, trivial⟩, (Among.of (Among.take 0 rfl rfl (Among.take 0 rfl rfl Among.none)) _ hs)⟩
     ·intro q48
      replace q48 : ¬ (((s31 : Nat) : Int) < ((a1.Vars.length : Nat) : Int)) := of_decide_eq_false q48
      replace hm := iF hm q48
      refine St.exit ?_
      refine St.thenexit ?_
      refine St.thenexit ?_
      refine St.inexit ?_
      obtain rfl := sI hm
      obtain rfl := aR ho34
      intro a w ha hs
      exact ⟨(), rfl, ha.covers ⟨rfl, trivial⟩, (Among.of (Among.take 1 rfl rfl Among.none) _ hs)⟩
   ·rintro a w ⟨z27, rfl, ha, hs⟩
    replace hm := aL ho29
    refine St.use (?_ : St _ _ _ _ _ _) ha hs
    clear ha hs a w
    refine St.seq ?_
    refine St.region ?_
    refine St.val (v := (.pointer (some ⟨b7, 0, none⟩))) (Yields.fieldAddr (v := (.pointer (some ⟨b7, 0, none⟩))) rfl (fun _ => by kernel_rfl)) trivial rfl rfl ?_
    refine St.val (v := (.int .i64 a1.Kind)) (Yields.load rfl (Loads.H1 0 rfl tc3 rfl)) trivial rfl rfl ?_
    refine St.val (v := (.bool (decide (a1.Kind ≤ 2)))) (Yields.le rfl rfl) trivial rfl rfl ?_
    refine St.val (v := (.bool (decide (a1.Kind ≤ 2)))) (Yields.assign rfl) trivial rfl rfl ?_
    refine St.nil ?_
    refine St.norm ?_
    refine St.seq ?_
    obtain ⟨z49, hm, hk50⟩ := bS hm
    refine St.cutI (fun a w => Has Try.f23.ntmps a [(3, .pointer (some ⟨b7, 0, none⟩)), (89, .bool z49)] ∧ Sat ⟨w0, fun b => m0 b ≠ none, F⟩ F9 [blk b7 (.cells #[.int .i64 a1.Kind, .slice pA1_0 a1.Vars.length pc1_0, .slice pA1_1 a1.A.length pc1_1, .int .i64 a1.B, .slice pA1_2 a1.Rows.length pc1_2] 28 (0, 0))] w) ?_ ?_
    ·skip
     refine St.region ?_
     by_cases q51 : a1.Kind ≤ 2
     ·replace hm := iT hm q51
      have hb52 : (decide (a1.Kind ≤ 2)) = true := decide_eq_true q51
      try rw [hb52]
      refine St.val (v := (.bool true)) (Yields.move rfl) trivial rfl rfl ?_
      refine St.val (v := (.bool true)) (Yields.move rfl) trivial rfl rfl ?_
      refine St.val (v := (.pointer (some ⟨b7, 2, none⟩))) (Yields.fieldAddr (v := (.pointer (some ⟨b7, 2, none⟩))) rfl (fun _ => by kernel_rfl)) rfl rfl rfl ?_
      refine St.val (v := (.slice pA1_1 a1.A.length pc1_1)) (Yields.load rfl (Loads.H1 0 rfl tc26 rfl)) rfl rfl rfl ?_
      refine St.val (v := (.int .i64 ((a1.A.length : Nat) : Int))) (Yields.lenSlice tu26 rfl) rfl rfl rfl ?_
      refine St.val (v := (.pointer (some ⟨b7, 1, none⟩))) (Yields.fieldAddr (v := (.pointer (some ⟨b7, 1, none⟩))) rfl (fun _ => by kernel_rfl)) rfl rfl rfl ?_
      refine St.val (v := (.slice pA1_0 a1.Vars.length pc1_0)) (Yields.load rfl (Loads.H1 0 rfl tc26 rfl)) rfl rfl rfl ?_
      refine St.val (v := (.int .i64 ((a1.Vars.length : Nat) : Int))) (Yields.lenSlice tu26 rfl) rfl rfl rfl ?_
      by_cases q53 : ((a1.A.length : Nat) : Int) = ((a1.Vars.length : Nat) : Int)
      ·replace hm := iT hm q53
       refine St.val (v := (.bool false)) (Yields.nis q53 (Yields.ne rfl rfl)) rfl rfl rfl ?_
       refine St.val (v := (.bool false)) (Yields.pick_t rfl rfl) trivial rfl rfl ?_
       refine St.val (v := (.bool false)) (Yields.move rfl) trivial rfl rfl ?_
       refine St.val (v := (.bool true)) (Yields.move rfl) rfl rfl rfl ?_
       refine St.val (v := (.bool false)) (Yields.not_t rfl) rfl rfl rfl ?_
       refine St.val (v := (.bool false)) (Yields.move rfl) rfl rfl rfl ?_
       refine St.unwanted rfl rfl rfl ?_
       refine St.unwanted rfl rfl rfl ?_
       refine St.unwanted rfl rfl rfl ?_
       refine St.unwanted rfl rfl rfl ?_
       refine St.unwanted rfl rfl rfl ?_
       refine St.unwanted trivial rfl rfl ?_
       refine St.unwanted trivial rfl rfl ?_
       refine St.unwanted trivial rfl rfl ?_
       refine St.unwanted rfl rfl rfl ?_
       refine St.val (v := (.bool false)) (Yields.pick_f rfl rfl) rfl rfl rfl ?_
       refine St.val (v := (.bool false)) (Yields.pick_f rfl rfl) trivial rfl rfl ?_
       refine St.val (v := (.bool false)) (Yields.move rfl) trivial rfl rfl ?_
       refine St.val (v := (.pointer (some ⟨b7, 0, none⟩))) (Yields.fieldAddr (v := (.pointer (some ⟨b7, 0, none⟩))) rfl (fun _ => by kernel_rfl)) rfl rfl rfl ?_
       refine St.val (v := (.int .i64 a1.Kind)) (Yields.load rfl (Loads.H1 0 rfl tc3 rfl)) rfl rfl rfl ?_
       by_cases q54 : a1.Kind = 4
       ·replace hm := iT hm q54
        refine St.val (v := (.bool false)) (Yields.nis q54 (Yields.ne rfl rfl)) rfl rfl rfl ?_
        refine St.val (v := (.bool false)) (Yields.move rfl) rfl rfl rfl ?_
        refine St.unwanted rfl rfl rfl ?_
        refine St.unwanted rfl rfl rfl ?_
        refine St.unwanted rfl rfl rfl ?_
        refine St.unwanted rfl rfl rfl ?_
        refine St.val (v := (.bool false)) (Yields.pick_f rfl rfl) rfl rfl rfl ?_
        refine St.val (v := (.bool false)) (Yields.pick_f rfl rfl) trivial rfl rfl ?_
        refine St.nil ?_
        obtain rfl := sI hm
        intro a w ha hs
        exact ⟨ha.covers ⟨rfl, rfl, trivial⟩, (Among.of (Among.take 0 rfl rfl Among.none) _ hs)⟩
       ·replace hm := iF hm q54
        refine St.val (v := (.bool true)) (Yields.nisnt q54 (Yields.ne rfl rfl)) rfl rfl rfl ?_
        refine St.val (v := (.bool true)) (Yields.move rfl) rfl rfl rfl ?_
        refine St.val (v := (.pointer (some ⟨b7, 4, none⟩))) (Yields.fieldAddr (v := (.pointer (some ⟨b7, 4, none⟩))) rfl (fun _ => by kernel_rfl)) rfl rfl rfl ?_
        refine St.val (v := (.slice pA1_2 a1.Rows.length pc1_2)) (Yields.load rfl (Loads.H1 0 rfl tc22 rfl)) rfl rfl rfl ?_
        refine St.val (v := (.int .i64 ((a1.Rows.length : Nat) : Int))) (Yields.lenSlice tu22 rfl) rfl rfl rfl ?_
        refine St.val (v := (.bool (decide (((a1.Rows.length : Nat) : Int) > 0)))) (Yields.gt rfl rfl) rfl rfl rfl ?_
        refine St.val (v := (.bool (decide (((a1.Rows.length : Nat) : Int) > 0)))) (Yields.pick_t rfl rfl) rfl rfl rfl ?_
        refine St.val (v := (.bool (decide (((a1.Rows.length : Nat) : Int) > 0)))) (Yields.pick_f rfl rfl) trivial rfl rfl ?_
        refine St.nil ?_
        obtain rfl := sI hm
        intro a w ha hs
        exact ⟨ha.covers ⟨rfl, rfl, trivial⟩, (Among.of (Among.take 0 rfl rfl Among.none) _ hs)⟩
      ·replace hm := iF hm q53
       refine St.val (v := (.bool true)) (Yields.nisnt q53 (Yields.ne rfl rfl)) rfl rfl rfl ?_
       refine St.val (v := (.bool true)) (Yields.pick_t rfl rfl) trivial rfl rfl ?_
       refine St.val (v := (.bool true)) (Yields.move rfl) trivial rfl rfl ?_
       refine St.unwanted rfl rfl rfl ?_
       refine St.unwanted rfl rfl rfl ?_
       refine St.unwanted rfl rfl rfl ?_
       refine St.unwanted trivial rfl rfl ?_
       refine St.unwanted trivial rfl rfl ?_
       refine St.unwanted trivial rfl rfl ?_
       refine St.unwanted trivial rfl rfl ?_
       refine St.unwanted trivial rfl rfl ?_
       refine St.unwanted trivial rfl rfl ?_
       refine St.unwanted trivial rfl rfl ?_
       refine St.unwanted trivial rfl rfl ?_
       refine St.unwanted trivial rfl rfl ?_
       refine St.unwanted rfl rfl rfl ?_
       refine St.val (v := (.bool true)) (Yields.pick_t rfl rfl) trivial rfl rfl ?_
       refine St.val (v := (.bool true)) (Yields.move rfl) trivial rfl rfl ?_
       refine St.unwanted rfl rfl rfl ?_
       refine St.unwanted rfl rfl rfl ?_
       refine St.unwanted rfl rfl rfl ?_
       refine St.unwanted rfl rfl rfl ?_
       refine St.unwanted trivial rfl rfl ?_
       refine St.unwanted trivial rfl rfl ?_
       refine St.unwanted trivial rfl rfl ?_
       refine St.unwanted trivial rfl rfl ?_
       refine St.unwanted rfl rfl rfl ?_
       refine St.val (v := (.bool true)) (Yields.pick_t rfl rfl) trivial rfl rfl ?_
       refine St.nil ?_
       obtain rfl := sI hm
       intro a w ha hs
       exact ⟨ha.covers ⟨rfl, rfl, trivial⟩, (Among.of (Among.take 0 rfl rfl Among.none) _ hs)⟩
     ·replace hm := iF hm q51
      have hb55 : (decide (a1.Kind ≤ 2)) = false := decide_eq_false q51
      try rw [hb55]
      refine St.val (v := (.bool false)) (Yields.move rfl) trivial rfl rfl ?_
      refine St.val (v := (.bool false)) (Yields.move rfl) trivial rfl rfl ?_
      refine St.unwanted rfl rfl rfl ?_
      refine St.unwanted rfl rfl rfl ?_
      refine St.unwanted rfl rfl rfl ?_
      refine St.unwanted rfl rfl rfl ?_
      refine St.unwanted rfl rfl rfl ?_
      refine St.unwanted rfl rfl rfl ?_
      refine St.unwanted rfl rfl rfl ?_
      refine St.val (v := (.bool false)) (Yields.pick_f rfl rfl) trivial rfl rfl ?_
      refine St.val (v := (.bool false)) (Yields.move rfl) trivial rfl rfl ?_
      refine St.val (v := (.bool false)) (Yields.move rfl) rfl rfl rfl ?_
      refine St.val (v := (.bool true)) (Yields.not_f rfl) rfl rfl rfl ?_
      refine St.val (v := (.bool true)) (Yields.move rfl) rfl rfl rfl ?_
      refine St.val (v := (.pointer (some ⟨b7, 2, none⟩))) (Yields.fieldAddr (v := (.pointer (some ⟨b7, 2, none⟩))) rfl (fun _ => by kernel_rfl)) rfl rfl rfl ?_
      refine St.val (v := (.slice pA1_1 a1.A.length pc1_1)) (Yields.load rfl (Loads.H1 0 rfl tc26 rfl)) rfl rfl rfl ?_
      refine St.val (v := (.int .i64 ((a1.A.length : Nat) : Int))) (Yields.lenSlice tu26 rfl) rfl rfl rfl ?_
      by_cases q56 : ((a1.A.length : Nat) : Int) > 0
      ·replace hm := iT hm q56
       refine St.val (v := (.bool true)) (Yields.is q56 (Yields.gt rfl rfl)) rfl rfl rfl ?_
       refine St.val (v := (.bool true)) (Yields.move rfl) rfl rfl rfl ?_
       refine St.unwanted rfl rfl rfl ?_
       refine St.unwanted rfl rfl rfl ?_
       refine St.unwanted rfl rfl rfl ?_
       refine St.val (v := (.bool true)) (Yields.pick_t rfl rfl) rfl rfl rfl ?_
       refine St.val (v := (.bool true)) (Yields.pick_t rfl rfl) rfl rfl rfl ?_
       refine St.val (v := (.bool true)) (Yields.pick_f rfl rfl) trivial rfl rfl ?_
       refine St.val (v := (.bool true)) (Yields.move rfl) trivial rfl rfl ?_
       refine St.unwanted rfl rfl rfl ?_
       refine St.unwanted rfl rfl rfl ?_
       refine St.unwanted rfl rfl rfl ?_
       refine St.unwanted rfl rfl rfl ?_
       refine St.unwanted trivial rfl rfl ?_
       refine St.unwanted trivial rfl rfl ?_
       refine St.unwanted trivial rfl rfl ?_
       refine St.unwanted trivial rfl rfl ?_
       refine St.unwanted rfl rfl rfl ?_
       refine St.val (v := (.bool true)) (Yields.pick_t rfl rfl) trivial rfl rfl ?_
       refine St.nil ?_
       obtain rfl := sI hm
       intro a w ha hs
       exact ⟨ha.covers ⟨rfl, rfl, trivial⟩, (Among.of (Among.take 0 rfl rfl Among.none) _ hs)⟩
      ·replace hm := iF hm q56
       refine St.val (v := (.bool false)) (Yields.isnt q56 (Yields.gt rfl rfl)) rfl rfl rfl ?_
       refine St.val (v := (.bool false)) (Yields.move rfl) rfl rfl rfl ?_
       refine St.val (v := (.pointer (some ⟨b7, 3, none⟩))) (Yields.fieldAddr (v := (.pointer (some ⟨b7, 3, none⟩))) rfl (fun _ => by kernel_rfl)) rfl rfl rfl ?_
       refine St.val (v := (.int .i64 a1.B)) (Yields.load rfl (Loads.H1 0 rfl tc3 rfl)) rfl rfl rfl ?_
       by_cases q57 : a1.B = 0
       ·replace hm := iT hm q57
        refine St.val (v := (.bool false)) (Yields.nis q57 (Yields.ne rfl rfl)) rfl rfl rfl ?_
        refine St.val (v := (.bool false)) (Yields.pick_f rfl rfl) rfl rfl rfl ?_
        refine St.val (v := (.bool false)) (Yields.pick_t rfl rfl) rfl rfl rfl ?_
        refine St.val (v := (.bool false)) (Yields.pick_f rfl rfl) trivial rfl rfl ?_
        refine St.val (v := (.bool false)) (Yields.move rfl) trivial rfl rfl ?_
        refine St.val (v := (.pointer (some ⟨b7, 0, none⟩))) (Yields.fieldAddr (v := (.pointer (some ⟨b7, 0, none⟩))) rfl (fun _ => by kernel_rfl)) rfl rfl rfl ?_
        refine St.val (v := (.int .i64 a1.Kind)) (Yields.load rfl (Loads.H1 0 rfl tc3 rfl)) rfl rfl rfl ?_
        by_cases q58 : a1.Kind = 4
        ·replace hm := iT hm q58
         refine St.val (v := (.bool false)) (Yields.nis q58 (Yields.ne rfl rfl)) rfl rfl rfl ?_
         refine St.val (v := (.bool false)) (Yields.move rfl) rfl rfl rfl ?_
         refine St.unwanted rfl rfl rfl ?_
         refine St.unwanted rfl rfl rfl ?_
         refine St.unwanted rfl rfl rfl ?_
         refine St.unwanted rfl rfl rfl ?_
         refine St.val (v := (.bool false)) (Yields.pick_f rfl rfl) rfl rfl rfl ?_
         refine St.val (v := (.bool false)) (Yields.pick_f rfl rfl) trivial rfl rfl ?_
         refine St.nil ?_
         obtain rfl := sI hm
         intro a w ha hs
         exact ⟨ha.covers ⟨rfl, rfl, trivial⟩, (Among.of (Among.take 0 rfl rfl Among.none) _ hs)⟩
        ·replace hm := iF hm q58
         refine St.val (v := (.bool true)) (Yields.nisnt q58 (Yields.ne rfl rfl)) rfl rfl rfl ?_
         refine St.val (v := (.bool true)) (Yields.move rfl) rfl rfl rfl ?_
         refine St.val (v := (.pointer (some ⟨b7, 4, none⟩))) (Yields.fieldAddr (v := (.pointer (some ⟨b7, 4, none⟩))) rfl (fun _ => by kernel_rfl)) rfl rfl rfl ?_
         refine St.val (v := (.slice pA1_2 a1.Rows.length pc1_2)) (Yields.load rfl (Loads.H1 0 rfl tc22 rfl)) rfl rfl rfl ?_
         refine St.val (v := (.int .i64 ((a1.Rows.length : Nat) : Int))) (Yields.lenSlice tu22 rfl) rfl rfl rfl ?_
         refine St.val (v := (.bool (decide (((a1.Rows.length : Nat) : Int) > 0)))) (Yields.gt rfl rfl) rfl rfl rfl ?_
         refine St.val (v := (.bool (decide (((a1.Rows.length : Nat) : Int) > 0)))) (Yields.pick_t rfl rfl) rfl rfl rfl ?_
         refine St.val (v := (.bool (decide (((a1.Rows.length : Nat) : Int) > 0)))) (Yields.pick_f rfl rfl) trivial rfl rfl ?_
         refine St.nil ?_
         obtain rfl := sI hm
         intro a w ha hs
         exact ⟨ha.covers ⟨rfl, rfl, trivial⟩, (Among.of (Among.take 0 rfl rfl Among.none) _ hs)⟩
       ·replace hm := iF hm q57
        refine St.val (v := (.bool true)) (Yields.nisnt q57 (Yields.ne rfl rfl)) rfl rfl rfl ?_
        refine St.val (v := (.bool true)) (Yields.pick_f rfl rfl) rfl rfl rfl ?_
        refine St.val (v := (.bool true)) (Yields.pick_t rfl rfl) rfl rfl rfl ?_
        refine St.val (v := (.bool true)) (Yields.pick_f rfl rfl) trivial rfl rfl ?_
        refine St.val (v := (.bool true)) (Yields.move rfl) trivial rfl rfl ?_
        refine St.unwanted rfl rfl rfl ?_
        refine St.unwanted rfl rfl rfl ?_
        refine St.unwanted rfl rfl rfl ?_
        refine St.unwanted rfl rfl rfl ?_
        refine St.unwanted trivial rfl rfl ?_
        refine St.unwanted trivial rfl rfl ?_
        refine St.unwanted trivial rfl rfl ?_
        refine St.unwanted trivial rfl rfl ?_
        refine St.unwanted rfl rfl rfl ?_
        refine St.val (v := (.bool true)) (Yields.pick_t rfl rfl) trivial rfl rfl ?_
        refine St.nil ?_
        obtain rfl := sI hm
        intro a w ha hs
        exact ⟨ha.covers ⟨rfl, rfl, trivial⟩, (Among.of (Among.take 0 rfl rfl Among.none) _ hs)⟩
    ·rintro a w ⟨ha, hs⟩
     replace hm := hk50
     refine St.use (?_ : St _ _ _ _ _ _) ha hs
     clear ha hs a w
     refine St.cond_b rfl ?_ ?_
     ·intro q59
      replace q59 : z49 = true := q59
      replace hm := iT hm q59
      refine St.seq ?_
      refine St.region ?_
      refine St.val (v := (.bool false)) (Yields.assign rfl) trivial rfl rfl ?_
      refine St.nil ?_
      refine St.norm ?_
      refine St.ret ?_
      refine St.thenret ?_
      obtain rfl := sI hm
      exact St.doneR1 rfl rfl ⟨rfl, rfl⟩ (fun w hs => Among.of Among.none w hs)
     ·intro q60
      replace q60 : ¬ (z49 = true) := bf q60
      replace hm := iF hm q60
      refine St.skip ?_
      refine St.norm ?_
      obtain ⟨o64, hm, ho65⟩ := jS hm
      refine St.cutI (fun a w => ∃ z61 : Unit, o64 = .inl z61 ∧ ∃ (F62 : PH), PH.le F9 F62 ∧ Has Try.f23.ntmps a [(3, .pointer (some ⟨b7, 0, none⟩))] ∧ Sat ⟨w0, fun b => m0 b ≠ none, F⟩ F62 [blk b7 (.cells #[.int .i64 a1.Kind, .slice pA1_0 a1.Vars.length pc1_0, .slice pA1_1 a1.A.length pc1_1, .int .i64 a1.B, .slice pA1_2 a1.Rows.length pc1_2] 28 (0, 0))] w) ?_ ?_
      ·skip
       refine St.seq ?_
       refine St.region ?_
       refine St.val (v := (.pointer (some ⟨b7, 2, none⟩))) (Yields.fieldAddr (v := (.pointer (some ⟨b7, 2, none⟩))) rfl (fun _ => by kernel_rfl)) trivial rfl rfl ?_
       refine St.val (v := (.slice pA1_1 a1.A.length pc1_1)) (Yields.load rfl (Loads.H1 0 rfl tc26 rfl)) trivial rfl rfl ?_
       refine St.val (v := (.int .i64 ((a1.A.length : Nat) : Int))) (Yields.lenSlice tu26 rfl) trivial rfl rfl ?_
       refine St.val (v := (.int .i64 0)) (Yields.move rfl) trivial rfl rfl ?_
       refine St.nil ?_
       refine St.norm ?_
       refine St.block ?_
       refine St.loopM hm (fun s68 a w => ∃ (F72 : PH), PH.le F9 F72 ∧ Has Try.f23.ntmps a [(3, .pointer (some ⟨b7, 0, none⟩)), (91, .slice pA1_1 a1.A.length pc1_1), (92, .int .i64 ((a1.A.length : Nat) : Int)), (93, .int .i64 ((s68 : Nat) : Int))] ∧ Sat ⟨w0, fun b => m0 b ≠ none, F⟩ F72 [blk b7 (.cells #[.int .i64 a1.Kind, .slice pA1_0 a1.Vars.length pc1_0, .slice pA1_1 a1.A.length pc1_1, .int .i64 a1.B, .slice pA1_2 a1.Rows.length pc1_2] 28 (0, 0))] w) ?_ ?_
       ·skip
        intro a w ha hs
        exact ⟨F9, (PH.le_refl _), ha.covers ⟨rfl, rfl, rfl, rfl, trivial⟩, (Among.of (Among.take 0 rfl rfl Among.none) _ hs)⟩
       ·rintro s68 o69 co70 hm ho71 a w ⟨F72, l73, ha, hs⟩
        refine St.use (?_ : St _ _ _ _ _ _) ha hs
        clear ha hs a w
        refine St.seq ?_
        refine St.region ?_
        refine St.val (v := (.bool (decide (((s68 : Nat) : Int) < ((a1.A.length : Nat) : Int))))) (Yields.lt rfl rfl) trivial rfl rfl ?_
        refine St.nil ?_
        refine St.norm ?_
        refine St.seq ?_
        refine St.cond_b rfl ?_ ?_
        ·intro q74
         replace q74 : ((s68 : Nat) : Int) < ((a1.A.length : Nat) : Int) := of_decide_eq_true q74
         replace hm := iT hm q74
         refine St.skip ?_
         refine St.norm ?_
         refine St.seq ?_
         refine St.block ?_
         refine St.seq ?_
         refine St.region ?_
         obtain ⟨x75, e76, hm⟩ := bS hm
         obtain ⟨p77, cs78, jx79, R80, k81⟩ := (Fsl.mono (PH.le_trans l10 l73) ph1_1).nidx e76
         obtain rfl := R80
         refine St.val (v := (.pointer (some p77))) (Yields.idx jx79 ts26 rfl rfl) trivial rfl rfl ?_
         refine St.val (v := (.int .i64 x75)) (Yields.load rfl (Loads.Fat k81 tc3 rfl)) trivial rfl rfl ?_
         refine St.val (v := (.int .i64 x75)) (Yields.assign rfl) trivial rfl rfl ?_
         refine St.nil ?_
         refine St.norm ?_
         refine St.seq ?_
         refine St.region ?_
         refine St.val (v := (.int .i64 x75)) (Yields.move rfl) trivial rfl rfl ?_
         obtain ⟨q82, e83, hm⟩ := bS hm
         refine St.call [blk b7 (.cells #[.int .i64 a1.Kind, .slice pA1_0 a1.Vars.length pc1_0, .slice pA1_1 a1.A.length pc1_1, .int .i64 a1.B, .slice pA1_2 a1.Rows.length pc1_2] 28 (0, 0))] (m_domain_isNumber_sp e83) rfl (fun _ ha => ev1 ha rfl) rfl en21 rfl rfl trivial ?_
         rintro _ F84 _ ⟨rfl, rfl⟩ l85
         refine St.val (v := (.bool (!q82))) (Yields.not rfl) trivial rfl rfl ?_
         refine St.nil ?_
         refine St.norm ?_
         refine St.cond_b rfl ?_ ?_
         ·intro q86
          replace q86 : ¬ (q82 = true) := nb_t q86
          replace hm := iF hm q86
          refine St.seq ?_
          refine St.region ?_
          refine St.val (v := (.bool false)) (Yields.assign rfl) trivial rfl rfl ?_
          refine St.nil ?_
          refine St.norm ?_
          refine St.ret ?_
          refine St.inret ?_
          refine St.thenret ?_
          refine St.thenret ?_
          refine St.inret ?_
          refine St.thenret ?_
          obtain rfl := sI hm
          obtain rfl := aR ho71
          obtain rfl := aR ho65
          exact St.doneR1 rfl rfl ⟨rfl, rfl⟩ (fun w hs => Among.of Among.none w hs)
         ·intro q87
          replace q87 : q82 = true := nb_f q87
          replace hm := iT hm q87
          refine St.skip ?_
          refine St.innorm ?_
          refine St.norm ?_
          refine St.region ?_
          refine St.val (v := (.int .i64 ((s68 + 1 : Nat) : Int))) (Yields.addn (j := 1) rfl rfl rfl (by have q_0 := q74; have q_1 := ph1_1.bnd.2; omega)) trivial rfl rfl ?_
          refine St.val (v := (.int .i64 ((s68 + 1 : Nat) : Int))) (Yields.move rfl) trivial rfl rfl ?_
          refine St.nil ?_
          refine St.norm ?_
          obtain rfl := sI hm
          intro a w ha hs
          exact ⟨s68 + 1, aL ho71, F84, (PH.le_trans l73 l85), ha.covers ⟨rfl, rfl, rfl, rfl, trivial⟩, (Among.of (Among.take 0 rfl rfl Among.none) _ hs)⟩
        ·intro q88
         replace q88 : ¬ (((s68 : Nat) : Int) < ((a1.A.length : Nat) : Int)) := of_decide_eq_false q88
         replace hm := iF hm q88
         refine St.exit ?_
         refine St.thenexit ?_
         refine St.thenexit ?_
         refine St.inexit ?_
         obtain rfl := sI hm
         obtain rfl := aR ho71
         intro a w ha hs
         exact ⟨(), rfl, F72, l73, ha.covers ⟨rfl, trivial⟩, (Among.of (Among.take 0 rfl rfl Among.none) _ hs)⟩
      ·rintro a w ⟨z61, rfl, F62, l63, ha, hs⟩
       replace hm := aL ho65
       refine St.use (?_ : St _ _ _ _ _ _) ha hs
       clear ha hs a w
       obtain ⟨o92, hm, ho93⟩ := jS hm
       refine St.cutI (fun a w => ∃ z89 : Unit, o92 = .inl z89 ∧ ∃ (F90 : PH), PH.le F62 F90 ∧ Has Try.f23.ntmps a [] ∧ Sat ⟨w0, fun b => m0 b ≠ none, F⟩ F90 [] w) ?_ ?_
       ·skip
        refine St.seq ?_
        refine St.region ?_
        refine St.val (v := (.pointer (some ⟨b7, 4, none⟩))) (Yields.fieldAddr (v := (.pointer (some ⟨b7, 4, none⟩))) rfl (fun _ => by kernel_rfl)) trivial rfl rfl ?_
        refine St.val (v := (.slice pA1_2 a1.Rows.length pc1_2)) (Yields.load rfl (Loads.H1 0 rfl tc22 rfl)) trivial rfl rfl ?_
        refine St.val (v := (.int .i64 ((a1.Rows.length : Nat) : Int))) (Yields.lenSlice tu22 rfl) trivial rfl rfl ?_
        refine St.val (v := (.int .i64 0)) (Yields.move rfl) trivial rfl rfl ?_
        refine St.nil ?_
        refine St.norm ?_
        refine St.block ?_
        refine St.loopM hm (fun s96 a w => ∃ (F100 : PH), PH.le F62 F100 ∧ Has Try.f23.ntmps a [(3, .pointer (some ⟨b7, 0, none⟩)), (102, .slice pA1_2 a1.Rows.length pc1_2), (103, .int .i64 ((a1.Rows.length : Nat) : Int)), (104, .int .i64 ((s96 : Nat) : Int))] ∧ Sat ⟨w0, fun b => m0 b ≠ none, F⟩ F100 [blk b7 (.cells #[.int .i64 a1.Kind, .slice pA1_0 a1.Vars.length pc1_0, .slice pA1_1 a1.A.length pc1_1, .int .i64 a1.B, .slice pA1_2 a1.Rows.length pc1_2] 28 (0, 0))] w) ?_ ?_
        ·skip
         intro a w ha hs
         exact ⟨F62, (PH.le_refl _), ha.covers ⟨rfl, rfl, rfl, rfl, trivial⟩, (Among.of (Among.take 0 rfl rfl Among.none) _ hs)⟩
        ·rintro s96 o97 co98 hm ho99 a w ⟨F100, l101, ha, hs⟩
         refine St.use (?_ : St _ _ _ _ _ _) ha hs
         clear ha hs a w
         refine St.seq ?_
         refine St.region ?_
         refine St.val (v := (.bool (decide (((s96 : Nat) : Int) < ((a1.Rows.length : Nat) : Int))))) (Yields.lt rfl rfl) trivial rfl rfl ?_
         refine St.nil ?_
         refine St.norm ?_
         refine St.seq ?_
         refine St.cond_b rfl ?_ ?_
         ·intro q102
          replace q102 : ((s96 : Nat) : Int) < ((a1.Rows.length : Nat) : Int) := of_decide_eq_true q102
          replace hm := iT hm q102
          refine St.skip ?_
          refine St.norm ?_
          obtain ⟨o106, hm, ho107⟩ := jS hm
          refine St.cutI (fun a w => ∃ z103 : Unit, o106 = .inl z103 ∧ ∃ (F104 : PH), PH.le F100 F104 ∧ Has Try.f23.ntmps a [(3, .pointer (some ⟨b7, 0, none⟩)), (102, .slice pA1_2 a1.Rows.length pc1_2), (103, .int .i64 ((a1.Rows.length : Nat) : Int)), (104, .int .i64 ((s96 : Nat) : Int))] ∧ Sat ⟨w0, fun b => m0 b ≠ none, F⟩ F104 [blk b7 (.cells #[.int .i64 a1.Kind, .slice pA1_0 a1.Vars.length pc1_0, .slice pA1_1 a1.A.length pc1_1, .int .i64 a1.B, .slice pA1_2 a1.Rows.length pc1_2] 28 (0, 0))] w) ?_ ?_
          ·skip
           refine St.block ?_
           refine St.seq ?_
           refine St.region ?_
           obtain ⟨x108, e109, hm⟩ := bS hm
           obtain ⟨p110, cs111, jx112, R113, k114⟩ := (Fsl.mono (PH.le_trans l10 (PH.le_trans l63 l101)) ph1_2).nidx e109
           obtain ⟨A115, c116, rfl, h117⟩ := R113
           refine St.val (v := (.pointer (some p110))) (Yields.idx jx112 ts22 rfl rfl) trivial rfl rfl ?_
           refine St.val (v := (.slice A115 x108.length c116)) (Yields.load rfl (Loads.Fat k114 tc26 rfl)) trivial rfl rfl ?_
           refine St.val (v := (.slice A115 x108.length c116)) (Yields.assign rfl) trivial rfl rfl ?_
           refine St.nil ?_
           refine St.norm ?_
           refine St.seq ?_
           refine St.seq ?_
           refine St.region ?_
           refine St.val (v := (.slice A115 x108.length c116)) (Yields.move rfl) trivial rfl rfl ?_
           refine St.val (v := (.int .i64 ((x108.length : Nat) : Int))) (Yields.lenSlice tu26 rfl) trivial rfl rfl ?_
           refine St.val (v := (.pointer (some ⟨b7, 1, none⟩))) (Yields.fieldAddr (v := (.pointer (some ⟨b7, 1, none⟩))) rfl (fun _ => by kernel_rfl)) trivial rfl rfl ?_
           refine St.val (v := (.slice pA1_0 a1.Vars.length pc1_0)) (Yields.load rfl (Loads.H1 0 rfl tc26 rfl)) trivial rfl rfl ?_
           refine St.val (v := (.int .i64 ((a1.Vars.length : Nat) : Int))) (Yields.lenSlice tu26 rfl) trivial rfl rfl ?_
           refine St.val (v := (.bool (!decide (((x108.length : Nat) : Int) = ((a1.Vars.length : Nat) : Int))))) (Yields.ne rfl rfl) trivial rfl rfl ?_
           refine St.nil ?_
           refine St.norm ?_
           refine St.cond_b rfl ?_ ?_
           ·intro q119
            replace q119 : ¬ (((x108.length : Nat) : Int) = ((a1.Vars.length : Nat) : Int)) := nd_t q119
            replace hm := iF hm q119
            refine St.seq ?_
            refine St.region ?_
            refine St.val (v := (.bool false)) (Yields.assign rfl) trivial rfl rfl ?_
            refine St.nil ?_
            refine St.norm ?_
            refine St.ret ?_
            refine St.thenret ?_
            refine St.inret ?_
            refine St.thenret ?_
            refine St.thenret ?_
            refine St.inret ?_
            refine St.thenret ?_
            obtain rfl := sI hm
            obtain rfl := aR ho107
            obtain rfl := aR ho99
            obtain rfl := aR ho93
            exact St.doneR1 rfl rfl ⟨rfl, rfl⟩ (fun w hs => Among.of Among.none w hs)
           ·intro q120
            replace q120 : ((x108.length : Nat) : Int) = ((a1.Vars.length : Nat) : Int) := nd_f q120
            replace hm := iT hm q120
            refine St.skip ?_
            refine St.norm ?_
            refine St.seq ?_
            refine St.region ?_
            refine St.val (v := (.slice A115 x108.length c116)) (Yields.move rfl) trivial rfl rfl ?_
            refine St.val (v := (.int .i64 ((x108.length : Nat) : Int))) (Yields.lenSlice tu26 rfl) trivial rfl rfl ?_
            refine St.val (v := (.int .i64 0)) (Yields.move rfl) trivial rfl rfl ?_
            refine St.nil ?_
            refine St.norm ?_
            refine St.block ?_
            refine St.loopM hm (fun s123 a w => ∃ (F127 : PH), PH.le F100 F127 ∧ Has Try.f23.ntmps a [(3, .pointer (some ⟨b7, 0, none⟩)), (102, .slice pA1_2 a1.Rows.length pc1_2), (103, .int .i64 ((a1.Rows.length : Nat) : Int)), (104, .int .i64 ((s96 : Nat) : Int)), (114, .slice A115 x108.length c116), (115, .int .i64 ((x108.length : Nat) : Int)), (116, .int .i64 ((s123 : Nat) : Int))] ∧ Sat ⟨w0, fun b => m0 b ≠ none, F⟩ F127 [blk b7 (.cells #[.int .i64 a1.Kind, .slice pA1_0 a1.Vars.length pc1_0, .slice pA1_1 a1.A.length pc1_1, .int .i64 a1.B, .slice pA1_2 a1.Rows.length pc1_2] 28 (0, 0))] w) ?_ ?_
            ·skip
             intro a w ha hs
             exact ⟨F100, (PH.le_refl _), ha.covers ⟨rfl, rfl, rfl, rfl, rfl, rfl, rfl, trivial⟩, (Among.of (Among.take 0 rfl rfl Among.none) _ hs)⟩
            ·rintro s123 o124 co125 hm ho126 a w ⟨F127, l128, ha, hs⟩
             refine St.use (?_ : St _ _ _ _ _ _) ha hs
             clear ha hs a w
             refine St.seq ?_
             refine St.region ?_
             refine St.val (v := (.bool (decide (((s123 : Nat) : Int) < ((x108.length : Nat) : Int))))) (Yields.lt rfl rfl) trivial rfl rfl ?_
             refine St.nil ?_
             refine St.norm ?_
             refine St.seq ?_
             refine St.cond_b rfl ?_ ?_
             ·intro q129
              replace q129 : ((s123 : Nat) : Int) < ((x108.length : Nat) : Int) := of_decide_eq_true q129
              replace hm := iT hm q129
              refine St.skip ?_
              refine St.norm ?_
              refine St.seq ?_
              refine St.block ?_
              refine St.seq ?_
              refine St.region ?_
              obtain ⟨x130, e131, hm⟩ := bS hm
              obtain ⟨p132, cs133, jx134, R135, k136⟩ := (Fsl.mono l128 h117).nidx e131
              obtain rfl := R135
              refine St.val (v := (.pointer (some p132))) (Yields.idx jx134 ts26 rfl rfl) trivial rfl rfl ?_
              refine St.val (v := (.int .i64 x130)) (Yields.load rfl (Loads.Fat k136 tc3 rfl)) trivial rfl rfl ?_
              refine St.val (v := (.int .i64 x130)) (Yields.assign rfl) trivial rfl rfl ?_
              refine St.nil ?_
              refine St.norm ?_
              refine St.seq ?_
              refine St.region ?_
              refine St.val (v := (.int .i64 x130)) (Yields.move rfl) trivial rfl rfl ?_
              obtain ⟨q137, e138, hm⟩ := bS hm
              refine St.call [blk b7 (.cells #[.int .i64 a1.Kind, .slice pA1_0 a1.Vars.length pc1_0, .slice pA1_1 a1.A.length pc1_1, .int .i64 a1.B, .slice pA1_2 a1.Rows.length pc1_2] 28 (0, 0))] (m_domain_isNumber_sp e138) rfl (fun _ ha => ev1 ha rfl) rfl en21 rfl rfl trivial ?_
              rintro _ F139 _ ⟨rfl, rfl⟩ l140
              refine St.val (v := (.bool (!q137))) (Yields.not rfl) trivial rfl rfl ?_
              refine St.nil ?_
              refine St.norm ?_
              refine St.cond_b rfl ?_ ?_
              ·intro q141
               replace q141 : ¬ (q137 = true) := nb_t q141
               replace hm := iF hm q141
               refine St.seq ?_
               refine St.region ?_
               refine St.val (v := (.bool false)) (Yields.assign rfl) trivial rfl rfl ?_
               refine St.nil ?_
               refine St.norm ?_
               refine St.ret ?_
               refine St.inret ?_
               refine St.thenret ?_
               refine St.thenret ?_
               refine St.inret ?_
               refine St.inret ?_
               refine St.thenret ?_
               refine St.thenret ?_
               refine St.inret ?_
               refine St.thenret ?_
               obtain rfl := sI hm
               obtain rfl := aR ho126
               obtain rfl := aR ho107
               obtain rfl := aR ho99
               obtain rfl := aR ho93
               exact St.doneR1 rfl rfl ⟨rfl, rfl⟩ (fun w hs => Among.of Among.none w hs)
              ·intro q142
               replace q142 : q137 = true := nb_f q142
               replace hm := iT hm q142
               refine St.skip ?_
               refine St.innorm ?_
               refine St.norm ?_
               refine St.region ?_
               refine St.val (v := (.int .i64 ((s123 + 1 : Nat) : Int))) (Yields.addn (j := 1) rfl rfl rfl (by have q_0 := q129; have q_1 := h117.bnd.2; omega)) trivial rfl rfl ?_
               refine St.val (v := (.int .i64 ((s123 + 1 : Nat) : Int))) (Yields.move rfl) trivial rfl rfl ?_
               refine St.nil ?_
               refine St.norm ?_
               obtain rfl := sI hm
               intro a w ha hs
               exact ⟨s123 + 1, aL ho126, F139, (PH.le_trans l128 l140), ha.covers ⟨rfl, rfl, rfl, rfl, rfl, rfl, rfl, trivial⟩, (Among.of (Among.take 0 rfl rfl Among.none) _ hs)⟩
             ·intro q143
              replace q143 : ¬ (((s123 : Nat) : Int) < ((x108.length : Nat) : Int)) := of_decide_eq_false q143
              replace hm := iF hm q143
              refine St.exit ?_
              refine St.thenexit ?_
              refine St.thenexit ?_
              refine St.inexit ?_
              refine St.innorm ?_
              obtain rfl := sI hm
              obtain rfl := aR ho126
              intro a w ha hs
              exact ⟨(), rfl, F127, l128, ha.covers ⟨rfl, rfl, rfl, rfl, trivial⟩, (Among.of (Among.take 0 rfl rfl Among.none) _ hs)⟩
          ·rintro a w ⟨z103, rfl, F104, l105, ha, hs⟩
           replace hm := aL ho107
           refine St.use (?_ : St _ _ _ _ _ _) ha hs
           clear ha hs a w
           refine St.region ?_
           refine St.val (v := (.int .i64 ((s96 + 1 : Nat) : Int))) (Yields.addn (j := 1) rfl rfl rfl (by have q_0 := q102; have q_1 := ph1_2.bnd.2; omega)) trivial rfl rfl ?_
           refine St.val (v := (.int .i64 ((s96 + 1 : Nat) : Int))) (Yields.move rfl) trivial rfl rfl ?_
           refine St.nil ?_
           refine St.norm ?_
           obtain rfl := sI hm
           intro a w ha hs
           exact ⟨s96 + 1, aL ho99, F104, (PH.le_trans l101 l105), ha.covers ⟨rfl, rfl, rfl, rfl, trivial⟩, (Among.of (Among.take 0 rfl rfl Among.none) _ hs)⟩
         ·intro q144
          replace q144 : ¬ (((s96 : Nat) : Int) < ((a1.Rows.length : Nat) : Int)) := of_decide_eq_false q144
          replace hm := iF hm q144
          refine St.exit ?_
          refine St.thenexit ?_
          refine St.thenexit ?_
          refine St.inexit ?_
          obtain rfl := sI hm
          obtain rfl := aR ho99
          intro a w ha hs
          exact ⟨(), rfl, F100, l101, ha.covers trivial, (Among.of Among.none _ hs)⟩
       ·rintro a w ⟨z89, rfl, F90, l91, ha, hs⟩
        replace hm := aL ho93
        refine St.use (?_ : St _ _ _ _ _ _) ha hs
        clear ha hs a w
        refine St.seq ?_
        refine St.region ?_
        refine St.val (v := (.bool true)) (Yields.assign rfl) trivial rfl rfl ?_
        refine St.nil ?_
        refine St.norm ?_
        refine St.ret ?_
        obtain rfl := sI hm
        exact St.doneR1 rfl rfl ⟨rfl, rfl⟩ (fun w hs => Among.of Among.none w hs)

theorem m_domain_Validate_sp {F : PH} {g : Nat} {a0 : DProblem} {pA0_0 : Option Addr} {pc0_0 : Nat} {pA0_1 : Option Addr} {pc0_1 : Nat} (ph0_0 : Fsl 24 (Kind.sl 8 (Kind.int .i64)) F pA0_0 pc0_0 a0.Doms) (ph0_1 : Fsl 88 KDLimit F pA0_1 pc0_1 a0.Limits) {r : Int} (hm : m_domain_Validate g a0 = some r) :
  CallSp Try.prog 6 #[.agg #[.slice pA0_0 a0.Doms.length pc0_0, .slice pA0_1 a0.Limits.length pc0_1]] F [] (fun u F' H' => u = (.int .i64 r) ∧ H' = []) := by
 unfold m_domain_Validate at hm
 refine CallSp.enter (args := [.agg #[.slice pA0_0 a0.Doms.length pc0_0, .slice pA0_1 a0.Limits.length pc0_1]]) Try.func6 rfl rfl ?_
 intro w0 m0 hm0
 refine St.seq ?_
 refine St.region ?_
 refine St.box rfl trivial rfl ?_
 intro b3
 refine St.val (v := (.int .i64 0)) (Yields.assign rfl) trivial rfl rfl ?_
 refine St.nil ?_
 refine St.norm ?_
 refine St.seq ?_
 obtain ⟨z4, hm, hk5⟩ := bS hm
 refine St.cutI (fun a w => Has Try.f6.ntmps a [(1, .pointer (some ⟨b3, 0, none⟩)), (22, .bool z4)] ∧ Sat ⟨w0, fun b => m0 b ≠ none, F⟩ F [blk b3 (.cells #[.slice pA0_0 a0.Doms.length pc0_0, .slice pA0_1 a0.Limits.length pc0_1] 25 (0, 0))] w) ?_ ?_
 ·skip
  refine St.region ?_
  refine St.val (v := (.pointer (some ⟨b3, 0, none⟩))) (Yields.fieldAddr (v := (.pointer (some ⟨b3, 0, none⟩))) rfl (fun _ => by kernel_rfl)) trivial rfl rfl ?_
  refine St.val (v := (.slice pA0_0 a0.Doms.length pc0_0)) (Yields.load rfl (Loads.H1 0 rfl tc22 rfl)) trivial rfl rfl ?_
  refine St.val (v := (.int .i64 ((a0.Doms.length : Nat) : Int))) (Yields.lenSlice tu22 rfl) trivial rfl rfl ?_
  by_cases q6 : ((a0.Doms.length : Nat) : Int) > 12
  ·replace hm := iT hm q6
   refine St.val (v := (.bool true)) (Yields.is q6 (Yields.gt rfl rfl)) trivial rfl rfl ?_
   refine St.val (v := (.bool true)) (Yields.move rfl) trivial rfl rfl ?_
   refine St.unwanted rfl rfl rfl ?_
   refine St.unwanted rfl rfl rfl ?_
   refine St.unwanted rfl rfl rfl ?_
   refine St.unwanted rfl rfl rfl ?_
   refine St.val (v := (.bool true)) (Yields.pick_t rfl rfl) trivial rfl rfl ?_
   refine St.nil ?_
   obtain rfl := sI hm
   intro a w ha hs
   exact ⟨ha.covers ⟨rfl, rfl, trivial⟩, (Among.of (Among.take 0 rfl rfl Among.none) _ hs)⟩
  ·replace hm := iF hm q6
   refine St.val (v := (.bool false)) (Yields.isnt q6 (Yields.gt rfl rfl)) trivial rfl rfl ?_
   refine St.val (v := (.bool false)) (Yields.move rfl) trivial rfl rfl ?_
   refine St.val (v := (.pointer (some ⟨b3, 1, none⟩))) (Yields.fieldAddr (v := (.pointer (some ⟨b3, 1, none⟩))) rfl (fun _ => by kernel_rfl)) rfl rfl rfl ?_
   refine St.val (v := (.slice pA0_1 a0.Limits.length pc0_1)) (Yields.load rfl (Loads.H1 0 rfl tc23 rfl)) rfl rfl rfl ?_
   refine St.val (v := (.int .i64 ((a0.Limits.length : Nat) : Int))) (Yields.lenSlice tu23 rfl) rfl rfl rfl ?_
   refine St.val (v := (.bool (decide (((a0.Limits.length : Nat) : Int) > 24)))) (Yields.gt rfl rfl) rfl rfl rfl ?_
   refine St.val (v := (.bool (decide (((a0.Limits.length : Nat) : Int) > 24)))) (Yields.pick_f rfl rfl) trivial rfl rfl ?_
   refine St.nil ?_
   obtain rfl := sI hm
   intro a w ha hs
   exact ⟨ha.covers ⟨rfl, rfl, trivial⟩, (Among.of (Among.take 0 rfl rfl Among.none) _ hs)⟩
 ·rintro a w ⟨ha, hs⟩
  replace hm := hk5
  refine St.use (?_ : St _ _ _ _ _ _) ha hs
  clear ha hs a w
  refine St.cond_b rfl ?_ ?_
  ·intro q7
   replace q7 : z4 = true := q7
   replace hm := iT hm q7
   refine St.seq ?_
   refine St.region ?_
   refine St.val (v := (.int .i64 3)) (Yields.assign rfl) trivial rfl rfl ?_
   refine St.nil ?_
   refine St.norm ?_
   refine St.ret ?_
   refine St.thenret ?_
   obtain rfl := sI hm
   exact St.doneR1 rfl rfl ⟨rfl, rfl⟩ (fun w hs => Among.of Among.none w hs)
  ·intro q8
   replace q8 : ¬ (z4 = true) := bf q8
   replace hm := iF hm q8
   refine St.skip ?_
   refine St.norm ?_
   obtain ⟨o10, hm, ho11⟩ := jS hm
   refine St.cutI (fun a w => ∃ z9 : Unit, o10 = .inl z9 ∧ Has Try.f6.ntmps a [(1, .pointer (some ⟨b3, 0, none⟩))] ∧ Sat ⟨w0, fun b => m0 b ≠ none, F⟩ F [blk b3 (.cells #[.slice pA0_0 a0.Doms.length pc0_0, .slice pA0_1 a0.Limits.length pc0_1] 25 (0, 0))] w) ?_ ?_
   ·skip
    refine St.seq ?_
    refine St.region ?_
    refine St.val (v := (.pointer (some ⟨b3, 0, none⟩))) (Yields.fieldAddr (v := (.pointer (some ⟨b3, 0, none⟩))) rfl (fun _ => by kernel_rfl)) trivial rfl rfl ?_
    refine St.val (v := (.slice pA0_0 a0.Doms.length pc0_0)) (Yields.load rfl (Loads.H1 0 rfl tc22 rfl)) trivial rfl rfl ?_
    refine St.val (v := (.int .i64 ((a0.Doms.length : Nat) : Int))) (Yields.lenSlice tu22 rfl) trivial rfl rfl ?_
    refine St.val (v := (.int .i64 0)) (Yields.move rfl) trivial rfl rfl ?_
    refine St.nil ?_
    refine St.norm ?_
    refine St.block ?_
    refine St.loopM hm (fun s13 a w => Has Try.f6.ntmps a [(1, .pointer (some ⟨b3, 0, none⟩)), (24, .slice pA0_0 a0.Doms.length pc0_0), (25, .int .i64 ((a0.Doms.length : Nat) : Int)), (26, .int .i64 ((s13 : Nat) : Int))] ∧ Sat ⟨w0, fun b => m0 b ≠ none, F⟩ F [blk b3 (.cells #[.slice pA0_0 a0.Doms.length pc0_0, .slice pA0_1 a0.Limits.length pc0_1] 25 (0, 0))] w) ?_ ?_
    ·skip
     intro a w ha hs
     exact ⟨ha.covers ⟨rfl, rfl, rfl, rfl, trivial⟩, (Among.of (Among.take 0 rfl rfl Among.none) _ hs)⟩
    ·rintro s13 o14 co15 hm ho16 a w ⟨ha, hs⟩
     refine St.use (?_ : St _ _ _ _ _ _) ha hs
     clear ha hs a w
     refine St.seq ?_
     refine St.region ?_
     refine St.val (v := (.bool (decide (((s13 : Nat) : Int) < ((a0.Doms.length : Nat) : Int))))) (Yields.lt rfl rfl) trivial rfl rfl ?_
     refine St.nil ?_
     refine St.norm ?_
     refine St.seq ?_
     refine St.cond_b rfl ?_ ?_
     ·intro q17
      replace q17 : ((s13 : Nat) : Int) < ((a0.Doms.length : Nat) : Int) := of_decide_eq_true q17
      replace hm := iT hm q17
      refine St.skip ?_
      refine St.norm ?_
      refine St.seq ?_
      refine St.block ?_
      refine St.seq ?_
      refine St.region ?_
      obtain ⟨x18, e19, hm⟩ := bS hm
      obtain ⟨p20, cs21, jx22, R23, k24⟩ := ph0_0.nidx e19
      obtain ⟨A25, c26, rfl, h27⟩ := R23
      refine St.val (v := (.pointer (some p20))) (Yields.idx jx22 ts22 rfl rfl) trivial rfl rfl ?_
      refine St.val (v := (.slice A25 x18.length c26)) (Yields.load rfl (Loads.Fat k24 tc26 rfl)) trivial rfl rfl ?_
      refine St.val (v := (.slice A25 x18.length c26)) (Yields.assign rfl) trivial rfl rfl ?_
      refine St.nil ?_
      refine St.norm ?_
      refine St.seq ?_
      refine St.region ?_
      refine St.val (v := (.slice A25 x18.length c26)) (Yields.move rfl) trivial rfl rfl ?_
      refine St.val (v := (.int .i64 ((x18.length : Nat) : Int))) (Yields.lenSlice tu26 rfl) trivial rfl rfl ?_
      refine St.val (v := (.bool (decide (((x18.length : Nat) : Int) > 30)))) (Yields.gt rfl rfl) trivial rfl rfl ?_
      refine St.nil ?_
      refine St.norm ?_
      refine St.cond_b rfl ?_ ?_
      ·intro q29
       replace q29 : ((x18.length : Nat) : Int) > 30 := of_decide_eq_true q29
       replace hm := iT hm q29
       refine St.seq ?_
       refine St.region ?_
       refine St.val (v := (.int .i64 3)) (Yields.assign rfl) trivial rfl rfl ?_
       refine St.nil ?_
       refine St.norm ?_
       refine St.ret ?_
       refine St.inret ?_
       refine St.thenret ?_
       refine St.thenret ?_
       refine St.inret ?_
       refine St.thenret ?_
       obtain rfl := sI hm
       obtain rfl := aR ho16
       obtain rfl := aR ho11
       exact St.doneR1 rfl rfl ⟨rfl, rfl⟩ (fun w hs => Among.of Among.none w hs)
      ·intro q30
       replace q30 : ¬ (((x18.length : Nat) : Int) > 30) := of_decide_eq_false q30
       replace hm := iF hm q30
       refine St.skip ?_
       refine St.innorm ?_
       refine St.norm ?_
       refine St.region ?_
       refine St.val (v := (.int .i64 ((s13 + 1 : Nat) : Int))) (Yields.addn (j := 1) rfl rfl rfl (by have q_0 := q17; have q_1 := ph0_0.bnd.2; omega)) trivial rfl rfl ?_
       refine St.val (v := (.int .i64 ((s13 + 1 : Nat) : Int))) (Yields.move rfl) trivial rfl rfl ?_
       refine St.nil ?_
       refine St.norm ?_
       obtain rfl := sI hm
       intro a w ha hs
       exact ⟨s13 + 1, aL ho16, ha.covers ⟨rfl, rfl, rfl, rfl, trivial⟩, (Among.of (Among.take 0 rfl rfl Among.none) _ hs)⟩
     ·intro q31
      replace q31 : ¬ (((s13 : Nat) : Int) < ((a0.Doms.length : Nat) : Int)) := of_decide_eq_false q31
      replace hm := iF hm q31
      refine St.exit ?_
      refine St.thenexit ?_
      refine St.thenexit ?_
      refine St.inexit ?_
      obtain rfl := sI hm
      obtain rfl := aR ho16
      intro a w ha hs
      exact ⟨(), rfl, ha.covers ⟨rfl, trivial⟩, (Among.of (Among.take 0 rfl rfl Among.none) _ hs)⟩
   ·rintro a w ⟨z9, rfl, ha, hs⟩
    replace hm := aL ho11
    refine St.use (?_ : St _ _ _ _ _ _) ha hs
    clear ha hs a w
    obtain ⟨o33, hm, ho34⟩ := jS hm
    refine St.cutI (fun a w => ∃ z32 : Unit, o33 = .inl z32 ∧ Has Try.f6.ntmps a [(1, .pointer (some ⟨b3, 0, none⟩))] ∧ Sat ⟨w0, fun b => m0 b ≠ none, F⟩ F [blk b3 (.cells #[.slice pA0_0 a0.Doms.length pc0_0, .slice pA0_1 a0.Limits.length pc0_1] 25 (0, 0))] w) ?_ ?_
    ·skip
     refine St.seq ?_
     refine St.region ?_
     refine St.val (v := (.pointer (some ⟨b3, 1, none⟩))) (Yields.fieldAddr (v := (.pointer (some ⟨b3, 1, none⟩))) rfl (fun _ => by kernel_rfl)) trivial rfl rfl ?_
     refine St.val (v := (.slice pA0_1 a0.Limits.length pc0_1)) (Yields.load rfl (Loads.H1 0 rfl tc23 rfl)) trivial rfl rfl ?_
     refine St.val (v := (.int .i64 ((a0.Limits.length : Nat) : Int))) (Yields.lenSlice tu23 rfl) trivial rfl rfl ?_
     refine St.val (v := (.int .i64 0)) (Yields.move rfl) trivial rfl rfl ?_
     refine St.nil ?_
     refine St.norm ?_
     refine St.block ?_
     refine St.loopM hm (fun s36 a w => Has Try.f6.ntmps a [(1, .pointer (some ⟨b3, 0, none⟩)), (35, .slice pA0_1 a0.Limits.length pc0_1), (36, .int .i64 ((a0.Limits.length : Nat) : Int)), (37, .int .i64 ((s36 : Nat) : Int))] ∧ Sat ⟨w0, fun b => m0 b ≠ none, F⟩ F [blk b3 (.cells #[.slice pA0_0 a0.Doms.length pc0_0, .slice pA0_1 a0.Limits.length pc0_1] 25 (0, 0))] w) ?_ ?_
     ·skip
      intro a w ha hs
      exact ⟨ha.covers ⟨rfl, rfl, rfl, rfl, trivial⟩, (Among.of (Among.take 0 rfl rfl Among.none) _ hs)⟩
     ·rintro s36 o37 co38 hm ho39 a w ⟨ha, hs⟩
      refine St.use (?_ : St _ _ _ _ _ _) ha hs
      clear ha hs a w
      refine St.seq ?_
      refine St.region ?_
      refine St.val (v := (.bool (decide (((s36 : Nat) : Int) < ((a0.Limits.length : Nat) : Int))))) (Yields.lt rfl rfl) trivial rfl rfl ?_
      refine St.nil ?_
      refine St.norm ?_
      refine St.seq ?_
      refine St.cond_b rfl ?_ ?_
      ·intro q40
       replace q40 : ((s36 : Nat) : Int) < ((a0.Limits.length : Nat) : Int) := of_decide_eq_true q40
       replace hm := iT hm q40
       refine St.skip ?_
       refine St.norm ?_
       refine St.seq ?_
       refine St.block ?_
       refine St.seq ?_
       refine St.region ?_
       obtain ⟨x41, e42, hm⟩ := bS hm
       obtain ⟨p43, cs44, jx45, R46, k47⟩ := ph0_1.nidx e42
       obtain ⟨A48, c49, A51, c52, A54, c55, rfl, h50, h53, h56⟩ := DLimit.opn R46
       refine St.val (v := (.pointer (some p43))) (Yields.idx jx45 ts23 rfl rfl) trivial rfl rfl ?_
       refine St.val (v := (.agg #[.int .i64 x41.Kind, .slice A48 x41.Vars.length c49, .slice A51 x41.A.length c52, .int .i64 x41.B, .slice A54 x41.Rows.length c55])) (Yields.load rfl (Loads.Fatn0 k47 ta28)) trivial rfl rfl ?_
       refine St.alloc tz28 trivial rfl ?_
       intro b60
       refine St.storen (R := [blk b3 (.cells #[.slice pA0_0 a0.Doms.length pc0_0, .slice pA0_1 a0.Limits.length pc0_1] 25 (0, 0))]) rfl rfl 0 rfl rfl ta28 rfl rfl rfl trivial (cs' := #[.int .i64 x41.Kind, .slice A48 x41.Vars.length c49, .slice A51 x41.A.length c52, .int .i64 x41.B, .slice A54 x41.Rows.length c55]) rfl ?_
       refine St.nil ?_
       refine St.norm ?_
       obtain ⟨z61, hm, hk62⟩ := bS hm
       refine St.cutI (fun a w => Has Try.f6.ntmps a [(1, .pointer (some ⟨b3, 0, none⟩)), (35, .slice pA0_1 a0.Limits.length pc0_1), (36, .int .i64 ((a0.Limits.length : Nat) : Int)), (37, .int .i64 ((s36 : Nat) : Int)), (50, .bool z61)] ∧ Sat ⟨w0, fun b => m0 b ≠ none, F⟩ F [blk b3 (.cells #[.slice pA0_0 a0.Doms.length pc0_0, .slice pA0_1 a0.Limits.length pc0_1] 25 (0, 0))] w) ?_ ?_
       ·skip
        refine St.region ?_
        refine St.val (v := (.pointer (some ⟨b60, 1, none⟩))) (Yields.fieldAddr (v := (.pointer (some ⟨b60, 1, none⟩))) rfl (fun _ => by kernel_rfl)) trivial rfl rfl ?_
        refine St.val (v := (.slice A48 x41.Vars.length c49)) (Yields.load rfl (Loads.H1 0 rfl tc26 rfl)) trivial rfl rfl ?_
        refine St.val (v := (.int .i64 ((x41.Vars.length : Nat) : Int))) (Yields.lenSlice tu26 rfl) trivial rfl rfl ?_
        by_cases q63 : ((x41.Vars.length : Nat) : Int) > 12
        ·replace hm := iT hm q63
         refine St.val (v := (.bool true)) (Yields.is q63 (Yields.gt rfl rfl)) trivial rfl rfl ?_
         refine St.val (v := (.bool true)) (Yields.move rfl) trivial rfl rfl ?_
         refine St.unwanted rfl rfl rfl ?_
         refine St.unwanted rfl rfl rfl ?_
         refine St.unwanted rfl rfl rfl ?_
         refine St.unwanted rfl rfl rfl ?_
         refine St.val (v := (.bool true)) (Yields.pick_t rfl rfl) trivial rfl rfl ?_
         refine St.nil ?_
         obtain rfl := sI hm
         intro a w ha hs
         exact ⟨ha.covers ⟨rfl, rfl, rfl, rfl, rfl, trivial⟩, (Among.of (Among.take 1 rfl rfl Among.none) _ hs)⟩
        ·replace hm := iF hm q63
         refine St.val (v := (.bool false)) (Yields.isnt q63 (Yields.gt rfl rfl)) trivial rfl rfl ?_
         refine St.val (v := (.bool false)) (Yields.move rfl) trivial rfl rfl ?_
         refine St.val (v := (.pointer (some ⟨b60, 4, none⟩))) (Yields.fieldAddr (v := (.pointer (some ⟨b60, 4, none⟩))) rfl (fun _ => by kernel_rfl)) rfl rfl rfl ?_
         refine St.val (v := (.slice A54 x41.Rows.length c55)) (Yields.load rfl (Loads.H1 0 rfl tc22 rfl)) rfl rfl rfl ?_
         refine St.val (v := (.int .i64 ((x41.Rows.length : Nat) : Int))) (Yields.lenSlice tu22 rfl) rfl rfl rfl ?_
         refine St.val (v := (.bool (decide (((x41.Rows.length : Nat) : Int) > 64)))) (Yields.gt rfl rfl) rfl rfl rfl ?_
         refine St.val (v := (.bool (decide (((x41.Rows.length : Nat) : Int) > 64)))) (Yields.pick_f rfl rfl) trivial rfl rfl ?_
         refine St.nil ?_
         obtain rfl := sI hm
         intro a w ha hs
         exact ⟨ha.covers ⟨rfl, rfl, rfl, rfl, rfl, trivial⟩, (Among.of (Among.take 1 rfl rfl Among.none) _ hs)⟩
       ·rintro a w ⟨ha, hs⟩
        replace hm := hk62
        refine St.use (?_ : St _ _ _ _ _ _) ha hs
        clear ha hs a w
        refine St.cond_b rfl ?_ ?_
        ·intro q64
         replace q64 : z61 = true := q64
         replace hm := iT hm q64
         refine St.seq ?_
         refine St.region ?_
         refine St.val (v := (.int .i64 3)) (Yields.assign rfl) trivial rfl rfl ?_
         refine St.nil ?_
         refine St.norm ?_
         refine St.ret ?_
         refine St.inret ?_
         refine St.thenret ?_
         refine St.thenret ?_
         refine St.inret ?_
         refine St.thenret ?_
         obtain rfl := sI hm
         obtain rfl := aR ho39
         obtain rfl := aR ho34
         exact St.doneR1 rfl rfl ⟨rfl, rfl⟩ (fun w hs => Among.of Among.none w hs)
        ·intro q65
         replace q65 : ¬ (z61 = true) := bf q65
         replace hm := iF hm q65
         refine St.skip ?_
         refine St.innorm ?_
         refine St.norm ?_
         refine St.region ?_
         refine St.val (v := (.int .i64 ((s36 + 1 : Nat) : Int))) (Yields.addn (j := 1) rfl rfl rfl (by have q_0 := q40; have q_1 := ph0_1.bnd.2; omega)) trivial rfl rfl ?_
         refine St.val (v := (.int .i64 ((s36 + 1 : Nat) : Int))) (Yields.move rfl) trivial rfl rfl ?_
         refine St.nil ?_
         refine St.norm ?_
         obtain rfl := sI hm
         intro a w ha hs
         exact ⟨s36 + 1, aL ho39, ha.covers ⟨rfl, rfl, rfl, rfl, trivial⟩, (Among.of (Among.take 0 rfl rfl Among.none) _ hs)⟩
      ·intro q66
       replace q66 : ¬ (((s36 : Nat) : Int) < ((a0.Limits.length : Nat) : Int)) := of_decide_eq_false q66
       replace hm := iF hm q66
       refine St.exit ?_
       refine St.thenexit ?_
       refine St.thenexit ?_
       refine St.inexit ?_
       obtain rfl := sI hm
       obtain rfl := aR ho39
       intro a w ha hs
       exact ⟨(), rfl, ha.covers ⟨rfl, trivial⟩, (Among.of (Among.take 0 rfl rfl Among.none) _ hs)⟩
    ·rintro a w ⟨z32, rfl, ha, hs⟩
     replace hm := aL ho34
     refine St.use (?_ : St _ _ _ _ _ _) ha hs
     clear ha hs a w
     obtain ⟨o70, hm, ho71⟩ := jS hm
     refine St.cutI (fun a w => ∃ z67 : Unit, o70 = .inl z67 ∧ ∃ (F68 : PH), PH.le F F68 ∧ Has Try.f6.ntmps a [(1, .pointer (some ⟨b3, 0, none⟩))] ∧ Sat ⟨w0, fun b => m0 b ≠ none, F⟩ F68 [blk b3 (.cells #[.slice pA0_0 a0.Doms.length pc0_0, .slice pA0_1 a0.Limits.length pc0_1] 25 (0, 0))] w) ?_ ?_
     ·skip
      refine St.seq ?_
      refine St.region ?_
      refine St.val (v := (.pointer (some ⟨b3, 0, none⟩))) (Yields.fieldAddr (v := (.pointer (some ⟨b3, 0, none⟩))) rfl (fun _ => by kernel_rfl)) trivial rfl rfl ?_
      refine St.val (v := (.slice pA0_0 a0.Doms.length pc0_0)) (Yields.load rfl (Loads.H1 0 rfl tc22 rfl)) trivial rfl rfl ?_
      refine St.val (v := (.int .i64 ((a0.Doms.length : Nat) : Int))) (Yields.lenSlice tu22 rfl) trivial rfl rfl ?_
      refine St.val (v := (.int .i64 0)) (Yields.move rfl) trivial rfl rfl ?_
      refine St.nil ?_
      refine St.norm ?_
      refine St.block ?_
      refine St.loopM hm (fun s74 a w => ∃ (F78 : PH), PH.le F F78 ∧ Has Try.f6.ntmps a [(1, .pointer (some ⟨b3, 0, none⟩)), (53, .slice pA0_0 a0.Doms.length pc0_0), (54, .int .i64 ((a0.Doms.length : Nat) : Int)), (55, .int .i64 ((s74 : Nat) : Int))] ∧ Sat ⟨w0, fun b => m0 b ≠ none, F⟩ F78 [blk b3 (.cells #[.slice pA0_0 a0.Doms.length pc0_0, .slice pA0_1 a0.Limits.length pc0_1] 25 (0, 0))] w) ?_ ?_
      ·skip
       intro a w ha hs
       exact ⟨F, (PH.le_refl _), ha.covers ⟨rfl, rfl, rfl, rfl, trivial⟩, (Among.of (Among.take 0 rfl rfl Among.none) _ hs)⟩
      ·rintro s74 o75 co76 hm ho77 a w ⟨F78, l79, ha, hs⟩
       refine St.use (?_ : St _ _ _ _ _ _) ha hs
       clear ha hs a w
       refine St.seq ?_
       refine St.region ?_
       refine St.val (v := (.bool (decide (((s74 : Nat) : Int) < ((a0.Doms.length : Nat) : Int))))) (Yields.lt rfl rfl) trivial rfl rfl ?_
       refine St.nil ?_
       refine St.norm ?_
       refine St.seq ?_
       refine St.cond_b rfl ?_ ?_
       ·intro q80
        replace q80 : ((s74 : Nat) : Int) < ((a0.Doms.length : Nat) : Int) := of_decide_eq_true q80
        replace hm := iT hm q80
        refine St.skip ?_
        refine St.norm ?_
        refine St.seq ?_
        refine St.block ?_
        refine St.seq ?_
        refine St.region ?_
        obtain ⟨x81, e82, hm⟩ := bS hm
        obtain ⟨p83, cs84, jx85, R86, k87⟩ := (Fsl.mono l79 ph0_0).nidx e82
        obtain ⟨A88, c89, rfl, h90⟩ := R86
        refine St.val (v := (.pointer (some p83))) (Yields.idx jx85 ts22 rfl rfl) trivial rfl rfl ?_
        refine St.val (v := (.slice A88 x81.length c89)) (Yields.load rfl (Loads.Fat k87 tc26 rfl)) trivial rfl rfl ?_
        refine St.val (v := (.slice A88 x81.length c89)) (Yields.assign rfl) trivial rfl rfl ?_
        refine St.nil ?_
        refine St.norm ?_
        obtain ⟨o95, hm, ho96⟩ := jS hm
        refine St.cutI (fun a w => ∃ z92 : Unit, o95 = .inl z92 ∧ ∃ (F93 : PH), PH.le F78 F93 ∧ Has Try.f6.ntmps a [(1, .pointer (some ⟨b3, 0, none⟩)), (8, .slice A88 x81.length c89), (53, .slice pA0_0 a0.Doms.length pc0_0), (54, .int .i64 ((a0.Doms.length : Nat) : Int)), (55, .int .i64 ((s74 : Nat) : Int))] ∧ Sat ⟨w0, fun b => m0 b ≠ none, F⟩ F93 [blk b3 (.cells #[.slice pA0_0 a0.Doms.length pc0_0, .slice pA0_1 a0.Limits.length pc0_1] 25 (0, 0))] w) ?_ ?_
        ·skip
         refine St.seq ?_
         refine St.region ?_
         refine St.val (v := (.slice A88 x81.length c89)) (Yields.move rfl) trivial rfl rfl ?_
         refine St.val (v := (.int .i64 ((x81.length : Nat) : Int))) (Yields.lenSlice tu26 rfl) trivial rfl rfl ?_
         refine St.val (v := (.int .i64 0)) (Yields.move rfl) trivial rfl rfl ?_
         refine St.nil ?_
         refine St.norm ?_
         refine St.block ?_
         refine St.loopM hm (fun s99 a w => ∃ (F103 : PH), PH.le F78 F103 ∧ Has Try.f6.ntmps a [(1, .pointer (some ⟨b3, 0, none⟩)), (8, .slice A88 x81.length c89), (53, .slice pA0_0 a0.Doms.length pc0_0), (54, .int .i64 ((a0.Doms.length : Nat) : Int)), (55, .int .i64 ((s74 : Nat) : Int)), (59, .slice A88 x81.length c89), (60, .int .i64 ((x81.length : Nat) : Int)), (61, .int .i64 ((s99 : Nat) : Int))] ∧ Sat ⟨w0, fun b => m0 b ≠ none, F⟩ F103 [blk b3 (.cells #[.slice pA0_0 a0.Doms.length pc0_0, .slice pA0_1 a0.Limits.length pc0_1] 25 (0, 0))] w) ?_ ?_
         ·skip
          intro a w ha hs
          exact ⟨F78, (PH.le_refl _), ha.covers ⟨rfl, rfl, rfl, rfl, rfl, rfl, rfl, rfl, trivial⟩, (Among.of (Among.take 0 rfl rfl Among.none) _ hs)⟩
         ·rintro s99 o100 co101 hm ho102 a w ⟨F103, l104, ha, hs⟩
          refine St.use (?_ : St _ _ _ _ _ _) ha hs
          clear ha hs a w
          refine St.seq ?_
          refine St.region ?_
          refine St.val (v := (.bool (decide (((s99 : Nat) : Int) < ((x81.length : Nat) : Int))))) (Yields.lt rfl rfl) trivial rfl rfl ?_
          refine St.nil ?_
          refine St.norm ?_
          refine St.seq ?_
          refine St.cond_b rfl ?_ ?_
          ·intro q105
           replace q105 : ((s99 : Nat) : Int) < ((x81.length : Nat) : Int) := of_decide_eq_true q105
           replace hm := iT hm q105
           refine St.skip ?_
           refine St.norm ?_
           refine St.seq ?_
           refine St.block ?_
           refine St.seq ?_
           refine St.region ?_
           obtain ⟨x106, e107, hm⟩ := bS hm
           obtain ⟨p108, cs109, jx110, R111, k112⟩ := (Fsl.mono l104 h90).nidx e107
           obtain rfl := R111
           refine St.val (v := (.pointer (some p108))) (Yields.idx jx110 ts26 rfl rfl) trivial rfl rfl ?_
           refine St.val (v := (.int .i64 x106)) (Yields.load rfl (Loads.Fat k112 tc3 rfl)) trivial rfl rfl ?_
           refine St.val (v := (.int .i64 x106)) (Yields.assign rfl) trivial rfl rfl ?_
           refine St.nil ?_
           refine St.norm ?_
           refine St.seq ?_
           refine St.region ?_
           refine St.val (v := (.int .i64 x106)) (Yields.move rfl) trivial rfl rfl ?_
           obtain ⟨q113, e114, hm⟩ := bS hm
           refine St.call [blk b3 (.cells #[.slice pA0_0 a0.Doms.length pc0_0, .slice pA0_1 a0.Limits.length pc0_1] 25 (0, 0))] (m_domain_isNumber_sp e114) rfl (fun _ ha => ev1 ha rfl) rfl en21 rfl rfl trivial ?_
           rintro _ F115 _ ⟨rfl, rfl⟩ l116
           refine St.val (v := (.bool (!q113))) (Yields.not rfl) trivial rfl rfl ?_
           refine St.nil ?_
           refine St.norm ?_
           refine St.cond_b rfl ?_ ?_
           ·intro q117
            replace q117 : ¬ (q113 = true) := nb_t q117
            replace hm := iF hm q117
            refine St.seq ?_
            refine St.region ?_
            refine St.val (v := (.int .i64 1)) (Yields.assign rfl) trivial rfl rfl ?_
            refine St.nil ?_
            refine St.norm ?_
            refine St.ret ?_
            refine St.inret ?_
            refine St.thenret ?_
            refine St.thenret ?_
            refine St.inret ?_
            refine St.thenret ?_
            refine St.inret ?_
            refine St.thenret ?_
            refine St.thenret ?_
            refine St.inret ?_
            refine St.thenret ?_
            obtain rfl := sI hm
            obtain rfl := aR ho102
            obtain rfl := aR ho96
            obtain rfl := aR ho77
            obtain rfl := aR ho71
            exact St.doneR1 rfl rfl ⟨rfl, rfl⟩ (fun w hs => Among.of Among.none w hs)
           ·intro q118
            replace q118 : q113 = true := nb_f q118
            replace hm := iT hm q118
            refine St.skip ?_
            refine St.innorm ?_
            refine St.norm ?_
            refine St.region ?_
            refine St.val (v := (.int .i64 ((s99 + 1 : Nat) : Int))) (Yields.addn (j := 1) rfl rfl rfl (by have q_0 := q105; have q_1 := h90.bnd.2; omega)) trivial rfl rfl ?_
            refine St.val (v := (.int .i64 ((s99 + 1 : Nat) : Int))) (Yields.move rfl) trivial rfl rfl ?_
            refine St.nil ?_
            refine St.norm ?_
            obtain rfl := sI hm
            intro a w ha hs
            exact ⟨s99 + 1, aL ho102, F115, (PH.le_trans l104 l116), ha.covers ⟨rfl, rfl, rfl, rfl, rfl, rfl, rfl, rfl, trivial⟩, (Among.of (Among.take 0 rfl rfl Among.none) _ hs)⟩
          ·intro q119
           replace q119 : ¬ (((s99 : Nat) : Int) < ((x81.length : Nat) : Int)) := of_decide_eq_false q119
           replace hm := iF hm q119
           refine St.exit ?_
           refine St.thenexit ?_
           refine St.thenexit ?_
           refine St.inexit ?_
           obtain rfl := sI hm
           obtain rfl := aR ho102
           intro a w ha hs
           exact ⟨(), rfl, F103, l104, ha.covers ⟨rfl, rfl, rfl, rfl, rfl, trivial⟩, (Among.of (Among.take 0 rfl rfl Among.none) _ hs)⟩
        ·rintro a w ⟨z92, rfl, F93, l94, ha, hs⟩
         replace hm := aL ho96
         refine St.use (?_ : St _ _ _ _ _ _) ha hs
         clear ha hs a w
         refine St.seq ?_
         refine St.region ?_
         refine St.val (v := (.slice A88 x81.length c89)) (Yields.move rfl) trivial rfl rfl ?_
         obtain ⟨q120, e121, hm⟩ := bS hm
         refine St.call [blk b3 (.cells #[.slice pA0_0 a0.Doms.length pc0_0, .slice pA0_1 a0.Limits.length pc0_1] 25 (0, 0))] (m_domain_rising_sp (Fsl.mono l94 h90) e121) rfl (fun _ ha => ev1 ha rfl) rfl en22 rfl rfl trivial ?_
         rintro _ F122 _ ⟨rfl, rfl⟩ l123
         refine St.val (v := (.bool (!q120))) (Yields.not rfl) trivial rfl rfl ?_
         refine St.nil ?_
         refine St.norm ?_
         refine St.cond_b rfl ?_ ?_
         ·intro q124
          replace q124 : ¬ (q120 = true) := nb_t q124
          replace hm := iF hm q124
          refine St.seq ?_
          refine St.region ?_
          refine St.val (v := (.int .i64 1)) (Yields.assign rfl) trivial rfl rfl ?_
          refine St.nil ?_
          refine St.norm ?_
          refine St.ret ?_
          refine St.inret ?_
          refine St.thenret ?_
          refine St.thenret ?_
          refine St.inret ?_
          refine St.thenret ?_
          obtain rfl := sI hm
          obtain rfl := aR ho77
          obtain rfl := aR ho71
          exact St.doneR1 rfl rfl ⟨rfl, rfl⟩ (fun w hs => Among.of Among.none w hs)
         ·intro q125
          replace q125 : q120 = true := nb_f q125
          replace hm := iT hm q125
          refine St.skip ?_
          refine St.innorm ?_
          refine St.norm ?_
          refine St.region ?_
          refine St.val (v := (.int .i64 ((s74 + 1 : Nat) : Int))) (Yields.addn (j := 1) rfl rfl rfl (by have q_0 := q80; have q_1 := ph0_0.bnd.2; omega)) trivial rfl rfl ?_
          refine St.val (v := (.int .i64 ((s74 + 1 : Nat) : Int))) (Yields.move rfl) trivial rfl rfl ?_
          refine St.nil ?_
          refine St.norm ?_
          obtain rfl := sI hm
          intro a w ha hs
          exact ⟨s74 + 1, aL ho77, F122, (PH.le_trans l79 (PH.le_trans l94 l123)), ha.covers ⟨rfl, rfl, rfl, rfl, trivial⟩, (Among.of (Among.take 0 rfl rfl Among.none) _ hs)⟩
       ·intro q126
        replace q126 : ¬ (((s74 : Nat) : Int) < ((a0.Doms.length : Nat) : Int)) := of_decide_eq_false q126
        replace hm := iF hm q126
        refine St.exit ?_
        refine St.thenexit ?_
        refine St.thenexit ?_
        refine St.inexit ?_
        obtain rfl := sI hm
        obtain rfl := aR ho77
        intro a w ha hs
        exact ⟨(), rfl, F78, l79, ha.covers ⟨rfl, trivial⟩, (Among.of (Among.take 0 rfl rfl Among.none) _ hs)⟩
     ·rintro a w ⟨z67, rfl, F68, l69, ha, hs⟩
      replace hm := aL ho71
      refine St.use (?_ : St _ _ _ _ _ _) ha hs
      clear ha hs a w
      obtain ⟨o130, hm, ho131⟩ := jS hm
      refine St.cutI (fun a w => ∃ z127 : Unit, o130 = .inl z127 ∧ ∃ (F128 : PH), PH.le F68 F128 ∧ Has Try.f6.ntmps a [] ∧ Sat ⟨w0, fun b => m0 b ≠ none, F⟩ F128 [] w) ?_ ?_
      ·skip
       refine St.seq ?_
       refine St.region ?_
       refine St.val (v := (.pointer (some ⟨b3, 1, none⟩))) (Yields.fieldAddr (v := (.pointer (some ⟨b3, 1, none⟩))) rfl (fun _ => by kernel_rfl)) trivial rfl rfl ?_
       refine St.val (v := (.slice pA0_1 a0.Limits.length pc0_1)) (Yields.load rfl (Loads.H1 0 rfl tc23 rfl)) trivial rfl rfl ?_
       refine St.val (v := (.int .i64 ((a0.Limits.length : Nat) : Int))) (Yields.lenSlice tu23 rfl) trivial rfl rfl ?_
       refine St.val (v := (.int .i64 0)) (Yields.move rfl) trivial rfl rfl ?_
       refine St.nil ?_
       refine St.norm ?_
       refine St.block ?_
       refine St.loopM hm (fun s134 a w => ∃ (F138 : PH), PH.le F68 F138 ∧ Has Try.f6.ntmps a [(1, .pointer (some ⟨b3, 0, none⟩)), (74, .slice pA0_1 a0.Limits.length pc0_1), (75, .int .i64 ((a0.Limits.length : Nat) : Int)), (76, .int .i64 ((s134 : Nat) : Int))] ∧ Sat ⟨w0, fun b => m0 b ≠ none, F⟩ F138 [blk b3 (.cells #[.slice pA0_0 a0.Doms.length pc0_0, .slice pA0_1 a0.Limits.length pc0_1] 25 (0, 0))] w) ?_ ?_
       ·skip
        intro a w ha hs
        exact ⟨F68, (PH.le_refl _), ha.covers ⟨rfl, rfl, rfl, rfl, trivial⟩, (Among.of (Among.take 0 rfl rfl Among.none) _ hs)⟩
       ·rintro s134 o135 co136 hm ho137 a w ⟨F138, l139, ha, hs⟩
        refine St.use (?_ : St _ _ _ _ _ _) ha hs
        clear ha hs a w
        refine St.seq ?_
        refine St.region ?_
        refine St.val (v := (.bool (decide (((s134 : Nat) : Int) < ((a0.Limits.length : Nat) : Int))))) (Yields.lt rfl rfl) trivial rfl rfl ?_
        refine St.nil ?_
        refine St.norm ?_
        refine St.seq ?_
        refine St.cond_b rfl ?_ ?_
        ·intro q140
         replace q140 : ((s134 : Nat) : Int) < ((a0.Limits.length : Nat) : Int) := of_decide_eq_true q140
         replace hm := iT hm q140
         refine St.skip ?_
         refine St.norm ?_
         refine St.seq ?_
         refine St.block ?_
         refine St.seq ?_
         refine St.region ?_
         obtain ⟨x141, e142, hm⟩ := bS hm
         obtain ⟨p143, cs144, jx145, R146, k147⟩ := (Fsl.mono (PH.le_trans l69 l139) ph0_1).nidx e142
         obtain ⟨A148, c149, A151, c152, A154, c155, rfl, h150, h153, h156⟩ := DLimit.opn R146
         refine St.val (v := (.pointer (some p143))) (Yields.idx jx145 ts23 rfl rfl) trivial rfl rfl ?_
         refine St.val (v := (.agg #[.int .i64 x141.Kind, .slice A148 x141.Vars.length c149, .slice A151 x141.A.length c152, .int .i64 x141.B, .slice A154 x141.Rows.length c155])) (Yields.load rfl (Loads.Fatn0 k147 ta28)) trivial rfl rfl ?_
         refine St.alloc tz28 trivial rfl ?_
         intro b160
         refine St.storen (R := [blk b3 (.cells #[.slice pA0_0 a0.Doms.length pc0_0, .slice pA0_1 a0.Limits.length pc0_1] 25 (0, 0))]) rfl rfl 0 rfl rfl ta28 rfl rfl rfl trivial (cs' := #[.int .i64 x141.Kind, .slice A148 x141.Vars.length c149, .slice A151 x141.A.length c152, .int .i64 x141.B, .slice A154 x141.Rows.length c155]) rfl ?_
         refine St.nil ?_
         refine St.norm ?_
         refine St.seq ?_
         refine St.region ?_
         refine St.val (v := (.agg #[.slice pA0_0 a0.Doms.length pc0_0, .slice pA0_1 a0.Limits.length pc0_1])) (Yields.load rfl (Loads.Hk (vs := [.slice pA0_0 a0.Doms.length pc0_0, .slice pA0_1 a0.Limits.length pc0_1]) 1 rfl ta25 rfl rfl)) trivial rfl rfl ?_
         refine St.val (v := (.agg #[.int .i64 x141.Kind, .slice A148 x141.Vars.length c149, .slice A151 x141.A.length c152, .int .i64 x141.B, .slice A154 x141.Rows.length c155])) (Yields.load rfl (Loads.Hk (vs := [.int .i64 x141.Kind, .slice A148 x141.Vars.length c149, .slice A151 x141.A.length c152, .int .i64 x141.B, .slice A154 x141.Rows.length c155]) 0 rfl ta28 rfl rfl)) trivial rfl rfl ?_
         obtain ⟨q161, e162, hm⟩ := bS hm
         refine St.call [blk b160 (.cells #[.int .i64 x141.Kind, .slice A148 x141.Vars.length c149, .slice A151 x141.A.length c152, .int .i64 x141.B, .slice A154 x141.Rows.length c155] 28 (0, 0)), blk b3 (.cells #[.slice pA0_0 a0.Doms.length pc0_0, .slice pA0_1 a0.Limits.length pc0_1] 25 (0, 0))] (m_domain_isLimit_sp (a0 := a0) (a1 := x141) (Fsl.mono (PH.le_trans l69 l139) ph0_0) (Fsl.mono (PH.le_trans l69 l139) ph0_1) h150 h153 h156 e162) rfl (fun _ ha => ev2 ha rfl rfl) rfl en23 rfl rfl trivial ?_
         rintro _ F163 _ ⟨rfl, rfl⟩ l164
         refine St.val (v := (.bool (!q161))) (Yields.not rfl) trivial rfl rfl ?_
         refine St.nil ?_
         refine St.norm ?_
         refine St.cond_b rfl ?_ ?_
         ·intro q165
          replace q165 : ¬ (q161 = true) := nb_t q165
          replace hm := iF hm q165
          refine St.seq ?_
          refine St.region ?_
          refine St.val (v := (.int .i64 1)) (Yields.assign rfl) trivial rfl rfl ?_
          refine St.nil ?_
          refine St.norm ?_
          refine St.ret ?_
          refine St.inret ?_
          refine St.thenret ?_
          refine St.thenret ?_
          refine St.inret ?_
          refine St.thenret ?_
          obtain rfl := sI hm
          obtain rfl := aR ho137
          obtain rfl := aR ho131
          exact St.doneR1 rfl rfl ⟨rfl, rfl⟩ (fun w hs => Among.of Among.none w hs)
         ·intro q166
          replace q166 : q161 = true := nb_f q166
          replace hm := iT hm q166
          refine St.skip ?_
          refine St.innorm ?_
          refine St.norm ?_
          refine St.region ?_
          refine St.val (v := (.int .i64 ((s134 + 1 : Nat) : Int))) (Yields.addn (j := 1) rfl rfl rfl (by have q_0 := q140; have q_1 := ph0_1.bnd.2; omega)) trivial rfl rfl ?_
          refine St.val (v := (.int .i64 ((s134 + 1 : Nat) : Int))) (Yields.move rfl) trivial rfl rfl ?_
          refine St.nil ?_
          refine St.norm ?_
          obtain rfl := sI hm
          intro a w ha hs
          exact ⟨s134 + 1, aL ho137, F163, (PH.le_trans l139 l164), ha.covers ⟨rfl, rfl, rfl, rfl, trivial⟩, (Among.of (Among.take 1 rfl rfl Among.none) _ hs)⟩
        ·intro q167
         replace q167 : ¬ (((s134 : Nat) : Int) < ((a0.Limits.length : Nat) : Int)) := of_decide_eq_false q167
         replace hm := iF hm q167
         refine St.exit ?_
         refine St.thenexit ?_
         refine St.thenexit ?_
         refine St.inexit ?_
         obtain rfl := sI hm
         obtain rfl := aR ho137
         intro a w ha hs
         exact ⟨(), rfl, F138, l139, ha.covers trivial, (Among.of Among.none _ hs)⟩
      ·rintro a w ⟨z127, rfl, F128, l129, ha, hs⟩
       replace hm := aL ho131
       refine St.use (?_ : St _ _ _ _ _ _) ha hs
       clear ha hs a w
       refine St.seq ?_
       refine St.region ?_
       refine St.val (v := (.int .i64 0)) (Yields.assign rfl) trivial rfl rfl ?_
       refine St.nil ?_
       refine St.norm ?_
       refine St.ret ?_
       obtain rfl := sI hm
       exact St.doneR1 rfl rfl ⟨rfl, rfl⟩ (fun w hs => Among.of Among.none w hs)

theorem m_ref11_isLarge_sp {F : PH} {g : Nat} {a0 : DProblem} {pA0_0 : Option Addr} {pc0_0 : Nat} {pA0_1 : Option Addr} {pc0_1 : Nat} (ph0_0 : Fsl 24 (Kind.sl 8 (Kind.int .i64)) F pA0_0 pc0_0 a0.Doms) (ph0_1 : Fsl 88 KDLimit F pA0_1 pc0_1 a0.Limits) {r : Bool} (hm : m_ref11_isLarge g a0 = some r) :
  CallSp Try.prog 46 #[.agg #[.slice pA0_0 a0.Doms.length pc0_0, .slice pA0_1 a0.Limits.length pc0_1]] F [] (fun u F' H' => u = (.bool r) ∧ H' = []) := by
 unfold m_ref11_isLarge at hm
 refine CallSp.enter (args := [.agg #[.slice pA0_0 a0.Doms.length pc0_0, .slice pA0_1 a0.Limits.length pc0_1]]) Try.func46 rfl rfl ?_
 intro w0 m0 hm0
 refine St.seq ?_
 refine St.region ?_
 refine St.box rfl trivial rfl ?_
 intro b3
 refine St.val (v := (.bool false)) (Yields.assign rfl) trivial rfl rfl ?_
 refine St.nil ?_
 refine St.norm ?_
 refine St.seq ?_
 obtain ⟨z4, hm, hk5⟩ := bS hm
 refine St.cutI (fun a w => Has Try.f46.ntmps a [(1, .pointer (some ⟨b3, 0, none⟩)), (14, .bool z4)] ∧ Sat ⟨w0, fun b => m0 b ≠ none, F⟩ F [blk b3 (.cells #[.slice pA0_0 a0.Doms.length pc0_0, .slice pA0_1 a0.Limits.length pc0_1] 25 (0, 0))] w) ?_ ?_
 ·skip
  refine St.region ?_
  refine St.val (v := (.pointer (some ⟨b3, 0, none⟩))) (Yields.fieldAddr (v := (.pointer (some ⟨b3, 0, none⟩))) rfl (fun _ => by kernel_rfl)) trivial rfl rfl ?_
  refine St.val (v := (.slice pA0_0 a0.Doms.length pc0_0)) (Yields.load rfl (Loads.H1 0 rfl tc22 rfl)) trivial rfl rfl ?_
  refine St.val (v := (.int .i64 ((a0.Doms.length : Nat) : Int))) (Yields.lenSlice tu22 rfl) trivial rfl rfl ?_
  by_cases q6 : ((a0.Doms.length : Nat) : Int) > 12
  ·replace hm := iT hm q6
   refine St.val (v := (.bool true)) (Yields.is q6 (Yields.gt rfl rfl)) trivial rfl rfl ?_
   refine St.val (v := (.bool true)) (Yields.move rfl) trivial rfl rfl ?_
   refine St.unwanted rfl rfl rfl ?_
   refine St.unwanted rfl rfl rfl ?_
   refine St.unwanted rfl rfl rfl ?_
   refine St.unwanted rfl rfl rfl ?_
   refine St.val (v := (.bool true)) (Yields.pick_t rfl rfl) trivial rfl rfl ?_
   refine St.nil ?_
   obtain rfl := sI hm
   intro a w ha hs
   exact ⟨ha.covers ⟨rfl, rfl, trivial⟩, (Among.of (Among.take 0 rfl rfl Among.none) _ hs)⟩
  ·replace hm := iF hm q6
   refine St.val (v := (.bool false)) (Yields.isnt q6 (Yields.gt rfl rfl)) trivial rfl rfl ?_
   refine St.val (v := (.bool false)) (Yields.move rfl) trivial rfl rfl ?_
   refine St.val (v := (.pointer (some ⟨b3, 1, none⟩))) (Yields.fieldAddr (v := (.pointer (some ⟨b3, 1, none⟩))) rfl (fun _ => by kernel_rfl)) rfl rfl rfl ?_
   refine St.val (v := (.slice pA0_1 a0.Limits.length pc0_1)) (Yields.load rfl (Loads.H1 0 rfl tc23 rfl)) rfl rfl rfl ?_
   refine St.val (v := (.int .i64 ((a0.Limits.length : Nat) : Int))) (Yields.lenSlice tu23 rfl) rfl rfl rfl ?_
   refine St.val (v := (.bool (decide (((a0.Limits.length : Nat) : Int) > 24)))) (Yields.gt rfl rfl) rfl rfl rfl ?_
   refine St.val (v := (.bool (decide (((a0.Limits.length : Nat) : Int) > 24)))) (Yields.pick_f rfl rfl) trivial rfl rfl ?_
   refine St.nil ?_
   obtain rfl := sI hm
   intro a w ha hs
   exact ⟨ha.covers ⟨rfl, rfl, trivial⟩, (Among.of (Among.take 0 rfl rfl Among.none) _ hs)⟩
 ·rintro a w ⟨ha, hs⟩
  replace hm := hk5
  refine St.use (?_ : St _ _ _ _ _ _) ha hs
  clear ha hs a w
  refine St.cond_b rfl ?_ ?_
  ·intro q7
   replace q7 : z4 = true := q7
   replace hm := iT hm q7
   refine St.seq ?_
   refine St.region ?_
   refine St.val (v := (.bool true)) (Yields.assign rfl) trivial rfl rfl ?_
   refine St.nil ?_
   refine St.norm ?_
   refine St.ret ?_
   refine St.thenret ?_
   obtain rfl := sI hm
   exact St.doneR1 rfl rfl ⟨rfl, rfl⟩ (fun w hs => Among.of Among.none w hs)
  ·intro q8
   replace q8 : ¬ (z4 = true) := bf q8
   replace hm := iF hm q8
   refine St.skip ?_
   refine St.norm ?_
   obtain ⟨o10, hm, ho11⟩ := jS hm
   refine St.cutI (fun a w => ∃ z9 : Unit, o10 = .inl z9 ∧ Has Try.f46.ntmps a [(1, .pointer (some ⟨b3, 0, none⟩))] ∧ Sat ⟨w0, fun b => m0 b ≠ none, F⟩ F [blk b3 (.cells #[.slice pA0_0 a0.Doms.length pc0_0, .slice pA0_1 a0.Limits.length pc0_1] 25 (0, 0))] w) ?_ ?_
   ·skip
    refine St.seq ?_
    refine St.region ?_
    refine St.val (v := (.int .i64 0)) (Yields.assign rfl) trivial rfl rfl ?_
    refine St.nil ?_
    refine St.norm ?_
    refine St.block ?_
    refine St.loopM hm (fun s13 a w => Has Try.f46.ntmps a [(1, .pointer (some ⟨b3, 0, none⟩)), (3, .int .i64 ((s13 : Nat) : Int))] ∧ Sat ⟨w0, fun b => m0 b ≠ none, F⟩ F [blk b3 (.cells #[.slice pA0_0 a0.Doms.length pc0_0, .slice pA0_1 a0.Limits.length pc0_1] 25 (0, 0))] w) ?_ ?_
    ·skip
     intro a w ha hs
     exact ⟨ha.covers ⟨rfl, rfl, trivial⟩, (Among.of (Among.take 0 rfl rfl Among.none) _ hs)⟩
    ·rintro s13 o14 co15 hm ho16 a w ⟨ha, hs⟩
     refine St.use (?_ : St _ _ _ _ _ _) ha hs
     clear ha hs a w
     refine St.seq ?_
     refine St.seq ?_
     refine St.region ?_
     refine St.val (v := (.int .i64 ((s13 : Nat) : Int))) (Yields.move rfl) trivial rfl rfl ?_
     refine St.val (v := (.pointer (some ⟨b3, 0, none⟩))) (Yields.fieldAddr (v := (.pointer (some ⟨b3, 0, none⟩))) rfl (fun _ => by kernel_rfl)) trivial rfl rfl ?_
     refine St.val (v := (.slice pA0_0 a0.Doms.length pc0_0)) (Yields.load rfl (Loads.H1 0 rfl tc22 rfl)) trivial rfl rfl ?_
     refine St.val (v := (.int .i64 ((a0.Doms.length : Nat) : Int))) (Yields.lenSlice tu22 rfl) trivial rfl rfl ?_
     refine St.val (v := (.bool (decide (((s13 : Nat) : Int) < ((a0.Doms.length : Nat) : Int))))) (Yields.lt rfl rfl) trivial rfl rfl ?_
     refine St.nil ?_
     refine St.norm ?_
     refine St.cond_b rfl ?_ ?_
     ·intro q17
      replace q17 : ((s13 : Nat) : Int) < ((a0.Doms.length : Nat) : Int) := of_decide_eq_true q17
      replace hm := iT hm q17
      refine St.skip ?_
      refine St.norm ?_
      refine St.seq ?_
      refine St.block ?_
      refine St.seq ?_
      refine St.region ?_
      refine St.val (v := (.pointer (some ⟨b3, 0, none⟩))) (Yields.fieldAddr (v := (.pointer (some ⟨b3, 0, none⟩))) rfl (fun _ => by kernel_rfl)) trivial rfl rfl ?_
      refine St.val (v := (.slice pA0_0 a0.Doms.length pc0_0)) (Yields.load rfl (Loads.H1 0 rfl tc22 rfl)) trivial rfl rfl ?_
      refine St.val (v := (.int .i64 ((s13 : Nat) : Int))) (Yields.move rfl) trivial rfl rfl ?_
      obtain ⟨x18, e19, hm⟩ := bS hm
      obtain ⟨p20, cs21, jx22, R23, k24⟩ := ph0_0.nidx e19
      obtain ⟨A25, c26, rfl, h27⟩ := R23
      refine St.val (v := (.pointer (some p20))) (Yields.idx jx22 ts22 rfl rfl) trivial rfl rfl ?_
      refine St.val (v := (.slice A25 x18.length c26)) (Yields.load rfl (Loads.Fat k24 tc26 rfl)) trivial rfl rfl ?_
      refine St.val (v := (.int .i64 ((x18.length : Nat) : Int))) (Yields.lenSlice tu26 rfl) trivial rfl rfl ?_
      refine St.val (v := (.bool (decide (((x18.length : Nat) : Int) > 30)))) (Yields.gt rfl rfl) trivial rfl rfl ?_
      refine St.nil ?_
      refine St.norm ?_
      refine St.cond_b rfl ?_ ?_
      ·intro q29
       replace q29 : ((x18.length : Nat) : Int) > 30 := of_decide_eq_true q29
       replace hm := iT hm q29
       refine St.seq ?_
       refine St.region ?_
       refine St.val (v := (.bool true)) (Yields.assign rfl) trivial rfl rfl ?_
       refine St.nil ?_
       refine St.norm ?_
       refine St.ret ?_
       refine St.inret ?_
       refine St.thenret ?_
       refine St.thenret ?_
       refine St.inret ?_
       refine St.thenret ?_
       obtain rfl := sI hm
       obtain rfl := aR ho16
       obtain rfl := aR ho11
       exact St.doneR1 rfl rfl ⟨rfl, rfl⟩ (fun w hs => Among.of Among.none w hs)
      ·intro q30
       replace q30 : ¬ (((x18.length : Nat) : Int) > 30) := of_decide_eq_false q30
       replace hm := iF hm q30
       refine St.skip ?_
       refine St.innorm ?_
       refine St.norm ?_
       refine St.region ?_
       refine St.val (v := (.int .i64 ((s13 : Nat) : Int))) (Yields.move rfl) trivial rfl rfl ?_
       refine St.val (v := (.int .i64 ((s13 + 1 : Nat) : Int))) (Yields.addn (j := 1) rfl rfl rfl (by have q_0 := q17; have q_1 := ph0_0.bnd.2; omega)) trivial rfl rfl ?_
       refine St.val (v := (.int .i64 ((s13 + 1 : Nat) : Int))) (Yields.assign rfl) trivial rfl rfl ?_
       refine St.nil ?_
       refine St.norm ?_
       obtain rfl := sI hm
       intro a w ha hs
       exact ⟨s13 + 1, aL ho16, ha.covers ⟨rfl, rfl, trivial⟩, (Among.of (Among.take 0 rfl rfl Among.none) _ hs)⟩
     ·intro q31
      replace q31 : ¬ (((s13 : Nat) : Int) < ((a0.Doms.length : Nat) : Int)) := of_decide_eq_false q31
      replace hm := iF hm q31
      refine St.exit ?_
      refine St.thenexit ?_
      refine St.thenexit ?_
      refine St.inexit ?_
      obtain rfl := sI hm
      obtain rfl := aR ho16
      intro a w ha hs
      exact ⟨(), rfl, ha.covers ⟨rfl, trivial⟩, (Among.of (Among.take 0 rfl rfl Among.none) _ hs)⟩
   ·rintro a w ⟨z9, rfl, ha, hs⟩
    replace hm := aL ho11
    refine St.use (?_ : St _ _ _ _ _ _) ha hs
    clear ha hs a w
    obtain ⟨o33, hm, ho34⟩ := jS hm
    refine St.cutI (fun a w => ∃ z32 : Unit, o33 = .inl z32 ∧ Has Try.f46.ntmps a [] ∧ Sat ⟨w0, fun b => m0 b ≠ none, F⟩ F [] w) ?_ ?_
    ·skip
     refine St.seq ?_
     refine St.region ?_
     refine St.val (v := (.int .i64 0)) (Yields.assign rfl) trivial rfl rfl ?_
     refine St.nil ?_
     refine St.norm ?_
     refine St.block ?_
     refine St.loopM hm (fun s36 a w => Has Try.f46.ntmps a [(1, .pointer (some ⟨b3, 0, none⟩)), (4, .int .i64 ((s36 : Nat) : Int))] ∧ Sat ⟨w0, fun b => m0 b ≠ none, F⟩ F [blk b3 (.cells #[.slice pA0_0 a0.Doms.length pc0_0, .slice pA0_1 a0.Limits.length pc0_1] 25 (0, 0))] w) ?_ ?_
     ·skip
      intro a w ha hs
      exact ⟨ha.covers ⟨rfl, rfl, trivial⟩, (Among.of (Among.take 0 rfl rfl Among.none) _ hs)⟩
     ·rintro s36 o37 co38 hm ho39 a w ⟨ha, hs⟩
      refine St.use (?_ : St _ _ _ _ _ _) ha hs
      clear ha hs a w
      refine St.seq ?_
      refine St.seq ?_
      refine St.region ?_
      refine St.val (v := (.int .i64 ((s36 : Nat) : Int))) (Yields.move rfl) trivial rfl rfl ?_
      refine St.val (v := (.pointer (some ⟨b3, 1, none⟩))) (Yields.fieldAddr (v := (.pointer (some ⟨b3, 1, none⟩))) rfl (fun _ => by kernel_rfl)) trivial rfl rfl ?_
      refine St.val (v := (.slice pA0_1 a0.Limits.length pc0_1)) (Yields.load rfl (Loads.H1 0 rfl tc23 rfl)) trivial rfl rfl ?_
      refine St.val (v := (.int .i64 ((a0.Limits.length : Nat) : Int))) (Yields.lenSlice tu23 rfl) trivial rfl rfl ?_
      refine St.val (v := (.bool (decide (((s36 : Nat) : Int) < ((a0.Limits.length : Nat) : Int))))) (Yields.lt rfl rfl) trivial rfl rfl ?_
      refine St.nil ?_
      refine St.norm ?_
      refine St.cond_b rfl ?_ ?_
      ·intro q40
       replace q40 : ((s36 : Nat) : Int) < ((a0.Limits.length : Nat) : Int) := of_decide_eq_true q40
       replace hm := iT hm q40
       refine St.skip ?_
       refine St.norm ?_
       refine St.seq ?_
       refine St.block ?_
       obtain ⟨z41, hm, hk42⟩ := bS hm
       refine St.cutI (fun a w => Has Try.f46.ntmps a [(1, .pointer (some ⟨b3, 0, none⟩)), (4, .int .i64 ((s36 : Nat) : Int)), (53, .bool z41)] ∧ Sat ⟨w0, fun b => m0 b ≠ none, F⟩ F [blk b3 (.cells #[.slice pA0_0 a0.Doms.length pc0_0, .slice pA0_1 a0.Limits.length pc0_1] 25 (0, 0))] w) ?_ ?_
       ·skip
        refine St.region ?_
        refine St.val (v := (.pointer (some ⟨b3, 1, none⟩))) (Yields.fieldAddr (v := (.pointer (some ⟨b3, 1, none⟩))) rfl (fun _ => by kernel_rfl)) trivial rfl rfl ?_
        refine St.val (v := (.slice pA0_1 a0.Limits.length pc0_1)) (Yields.load rfl (Loads.H1 0 rfl tc23 rfl)) trivial rfl rfl ?_
        refine St.val (v := (.int .i64 ((s36 : Nat) : Int))) (Yields.move rfl) trivial rfl rfl ?_
        obtain ⟨x43, e44, hm⟩ := bS hm
        obtain ⟨p45, cs46, jx47, R48, k49⟩ := ph0_1.nidx e44
        obtain ⟨A50, c51, A53, c54, A56, c57, rfl, h52, h55, h58⟩ := DLimit.opn R48
        refine St.val (v := (.pointer (some p45))) (Yields.idx jx47 ts23 rfl rfl) trivial rfl rfl ?_
        refine St.val (v := (.pointer (some (p45.add 1)))) (Yields.fieldAddr (v := (.pointer (some (p45.add 1)))) rfl (fun _ => by kernel_rfl)) trivial rfl rfl ?_
        refine St.val (v := (.slice A50 x43.Vars.length c51)) (Yields.load rfl (Loads.Fatk 1 k49 tc26 rfl)) trivial rfl rfl ?_
        refine St.val (v := (.int .i64 ((x43.Vars.length : Nat) : Int))) (Yields.lenSlice tu26 rfl) trivial rfl rfl ?_
        by_cases q62 : ((x43.Vars.length : Nat) : Int) > 12
        ·replace hm := iT hm q62
         refine St.val (v := (.bool true)) (Yields.is q62 (Yields.gt rfl rfl)) trivial rfl rfl ?_
         refine St.val (v := (.bool true)) (Yields.move rfl) trivial rfl rfl ?_
         refine St.unwanted rfl rfl rfl ?_
         refine St.unwanted rfl rfl rfl ?_
         refine St.unwanted rfl rfl rfl ?_
         refine St.unwanted rfl rfl rfl ?_
         refine St.unwanted rfl rfl rfl ?_
         refine St.unwanted rfl rfl rfl ?_
         refine St.unwanted rfl rfl rfl ?_
         refine St.unwanted rfl rfl rfl ?_
         refine St.val (v := (.bool true)) (Yields.pick_t rfl rfl) trivial rfl rfl ?_
         refine St.nil ?_
         obtain rfl := sI hm
         intro a w ha hs
         exact ⟨ha.covers ⟨rfl, rfl, rfl, trivial⟩, (Among.of (Among.take 0 rfl rfl Among.none) _ hs)⟩
        ·replace hm := iF hm q62
         refine St.val (v := (.bool false)) (Yields.isnt q62 (Yields.gt rfl rfl)) trivial rfl rfl ?_
         refine St.val (v := (.bool false)) (Yields.move rfl) trivial rfl rfl ?_
         refine St.val (v := (.pointer (some ⟨b3, 1, none⟩))) (Yields.fieldAddr (v := (.pointer (some ⟨b3, 1, none⟩))) rfl (fun _ => by kernel_rfl)) rfl rfl rfl ?_
         refine St.val (v := (.slice pA0_1 a0.Limits.length pc0_1)) (Yields.load rfl (Loads.H1 0 rfl tc23 rfl)) rfl rfl rfl ?_
         refine St.val (v := (.int .i64 ((s36 : Nat) : Int))) (Yields.move rfl) rfl rfl rfl ?_
         obtain ⟨x63, e64, hm⟩ := bS hm
         obtain ⟨p65, cs66, jx67, R68, k69⟩ := ph0_1.nidx e64
         obtain ⟨A70, c71, A73, c74, A76, c77, rfl, h72, h75, h78⟩ := DLimit.opn R68
         refine St.val (v := (.pointer (some p65))) (Yields.idx jx67 ts23 rfl rfl) rfl rfl rfl ?_
         refine St.val (v := (.pointer (some (p65.add 4)))) (Yields.fieldAddr (v := (.pointer (some (p65.add 4)))) rfl (fun _ => by kernel_rfl)) rfl rfl rfl ?_
         refine St.val (v := (.slice A76 x63.Rows.length c77)) (Yields.load rfl (Loads.Fatk 4 k69 tc22 rfl)) rfl rfl rfl ?_
         refine St.val (v := (.int .i64 ((x63.Rows.length : Nat) : Int))) (Yields.lenSlice tu22 rfl) rfl rfl rfl ?_
         refine St.val (v := (.bool (decide (((x63.Rows.length : Nat) : Int) > 64)))) (Yields.gt rfl rfl) rfl rfl rfl ?_
         refine St.val (v := (.bool (decide (((x63.Rows.length : Nat) : Int) > 64)))) (Yields.pick_f rfl rfl) trivial rfl rfl ?_
         refine St.nil ?_
         obtain rfl := sI hm
         intro a w ha hs
         exact ⟨ha.covers ⟨rfl, rfl, rfl, trivial⟩, (Among.of (Among.take 0 rfl rfl Among.none) _ hs)⟩
       ·rintro a w ⟨ha, hs⟩
        replace hm := hk42
        refine St.use (?_ : St _ _ _ _ _ _) ha hs
        clear ha hs a w
        refine St.cond_b rfl ?_ ?_
        ·intro q82
         replace q82 : z41 = true := q82
         replace hm := iT hm q82
         refine St.seq ?_
         refine St.region ?_
         refine St.val (v := (.bool true)) (Yields.assign rfl) trivial rfl rfl ?_
         refine St.nil ?_
         refine St.norm ?_
         refine St.ret ?_
         refine St.inret ?_
         refine St.thenret ?_
         refine St.thenret ?_
         refine St.inret ?_
         refine St.thenret ?_
         obtain rfl := sI hm
         obtain rfl := aR ho39
         obtain rfl := aR ho34
         exact St.doneR1 rfl rfl ⟨rfl, rfl⟩ (fun w hs => Among.of Among.none w hs)
        ·intro q83
         replace q83 : ¬ (z41 = true) := bf q83
         replace hm := iF hm q83
         refine St.skip ?_
         refine St.innorm ?_
         refine St.norm ?_
         refine St.region ?_
         refine St.val (v := (.int .i64 ((s36 : Nat) : Int))) (Yields.move rfl) trivial rfl rfl ?_
         refine St.val (v := (.int .i64 ((s36 + 1 : Nat) : Int))) (Yields.addn (j := 1) rfl rfl rfl (by have q_0 := q40; have q_1 := ph0_1.bnd.2; omega)) trivial rfl rfl ?_
         refine St.val (v := (.int .i64 ((s36 + 1 : Nat) : Int))) (Yields.assign rfl) trivial rfl rfl ?_
         refine St.nil ?_
         refine St.norm ?_
         obtain rfl := sI hm
         intro a w ha hs
         exact ⟨s36 + 1, aL ho39, ha.covers ⟨rfl, rfl, trivial⟩, (Among.of (Among.take 0 rfl rfl Among.none) _ hs)⟩
      ·intro q84
       replace q84 : ¬ (((s36 : Nat) : Int) < ((a0.Limits.length : Nat) : Int)) := of_decide_eq_false q84
       replace hm := iF hm q84
       refine St.exit ?_
       refine St.thenexit ?_
       refine St.thenexit ?_
       refine St.inexit ?_
       obtain rfl := sI hm
       obtain rfl := aR ho39
       intro a w ha hs
       exact ⟨(), rfl, ha.covers trivial, (Among.of Among.none _ hs)⟩
    ·rintro a w ⟨z32, rfl, ha, hs⟩
     replace hm := aL ho34
     refine St.use (?_ : St _ _ _ _ _ _) ha hs
     clear ha hs a w
     refine St.seq ?_
     refine St.region ?_
     refine St.val (v := (.bool false)) (Yields.assign rfl) trivial rfl rfl ?_
     refine St.nil ?_
     refine St.norm ?_
     refine St.ret ?_
     obtain rfl := sI hm
     exact St.doneR1 rfl rfl ⟨rfl, rfl⟩ (fun w hs => Among.of Among.none w hs)

theorem m_ref11_isRow_sp {F : PH} {g : Nat} {a0 : List Int} {pA0 : Option Addr} {pc0 : Nat} (ph0 : Fsl 8 (Kind.int .i64) F pA0 pc0 a0) {r : Bool} (hm : m_ref11_isRow g a0 = some r) :
  CallSp Try.prog 47 #[.slice pA0 a0.length pc0] F [] (fun u F' H' => u = (.bool r) ∧ H' = []) := by
 unfold m_ref11_isRow at hm
 refine CallSp.enter (args := [.slice pA0 a0.length pc0]) Try.func47 rfl rfl ?_
 intro w0 m0 hm0
 refine St.seq ?_
 refine St.region ?_
 refine St.val (v := (.bool false)) (Yields.assign rfl) trivial rfl rfl ?_
 refine St.nil ?_
 refine St.norm ?_
 obtain ⟨o3, hm, ho4⟩ := jS hm
 refine St.cutI (fun a w => ∃ z2 : Unit, o3 = .inl z2 ∧ Has Try.f47.ntmps a [] ∧ Sat ⟨w0, fun b => m0 b ≠ none, F⟩ F [] w) ?_ ?_
 ·skip
  refine St.seq ?_
  refine St.region ?_
  refine St.val (v := (.int .i64 1)) (Yields.assign rfl) trivial rfl rfl ?_
  refine St.nil ?_
  refine St.norm ?_
  refine St.block ?_
  refine St.loopM hm (fun s6 a w => Has Try.f47.ntmps a [(0, .slice pA0 a0.length pc0), (3, .int .i64 ((s6 : Nat) : Int))] ∧ Sat ⟨w0, fun b => m0 b ≠ none, F⟩ F [] w) ?_ ?_
  ·skip
   intro a w ha hs
   exact ⟨ha.covers ⟨rfl, rfl, trivial⟩, (Among.of Among.none _ hs)⟩
  ·rintro s6 o7 co8 hm ho9 a w ⟨ha, hs⟩
   refine St.use (?_ : St _ _ _ _ _ _) ha hs
   clear ha hs a w
   refine St.seq ?_
   refine St.seq ?_
   refine St.region ?_
   refine St.val (v := (.int .i64 ((s6 : Nat) : Int))) (Yields.move rfl) trivial rfl rfl ?_
   refine St.val (v := (.slice pA0 a0.length pc0)) (Yields.move rfl) trivial rfl rfl ?_
   refine St.val (v := (.int .i64 ((a0.length : Nat) : Int))) (Yields.lenSlice tu26 rfl) trivial rfl rfl ?_
   refine St.val (v := (.bool (decide (((s6 : Nat) : Int) < ((a0.length : Nat) : Int))))) (Yields.lt rfl rfl) trivial rfl rfl ?_
   refine St.nil ?_
   refine St.norm ?_
   refine St.cond_b rfl ?_ ?_
   ·intro q10
    replace q10 : ((s6 : Nat) : Int) < ((a0.length : Nat) : Int) := of_decide_eq_true q10
    replace hm := iT hm q10
    refine St.skip ?_
    refine St.norm ?_
    refine St.seq ?_
    refine St.block ?_
    refine St.seq ?_
    refine StD.start [] [] hmix ?_
    refine StD.takeP (i := 0) (v := (.slice pA0 a0.length pc0)) rfl (fun _ => Yields.move rfl) rfl rfl trivial (by rintro _ _ _ ⟨_, _, _, _, h, _⟩; cases h) (by kernel_rfl) (listed' := #[true, false, false, false, false, false, false, false, false, false]) rfl ?_
    refine StD.takeP (i := 1) (v := (.int .i64 ((s6 : Nat) : Int))) rfl (fun _ => Yields.move rfl) rfl rfl trivial (by rintro _ _ _ ⟨_, _, _, _, h, _⟩; cases h) (by kernel_rfl) (listed' := #[true, true, false, false, false, false, false, false, false, false]) rfl ?_
    refine StD.takeP (i := 2) (v := (.int .i64 (((s6 : Nat) : Int) - 1))) rfl (fun _ => Yields.sub rfl rfl (by have q_0 := q10; have q_1 := ph0.bnd.2; omega) (by have q_0 := q10; have q_1 := ph0.bnd.2; omega)) rfl rfl trivial (by rintro _ _ _ ⟨_, _, _, _, h, _⟩; cases h) (by kernel_rfl) (listed' := #[true, true, true, false, false, false, false, false, false, false]) rfl ?_
    obtain ⟨x11, e12, hm⟩ := bS hm
    obtain ⟨p13, cs14, jx15, R16, k17⟩ := ph0.idx e12
    obtain rfl := R16
    refine StD.takeP (i := 3) (v := (.pointer (some p13))) rfl (fun _ => Yields.idx jx15 ts26 rfl rfl) rfl rfl trivial (by rintro _ _ _ ⟨_, _, _, _, h, _⟩; cases h) (by kernel_rfl) (listed' := #[true, true, true, true, false, false, false, false, false, false]) rfl ?_
    refine StD.take [0, 1, 2, 3, 5, 6, 7, 9] (i := 4) (v := (.int .i64 x11)) rfl (Yields.load rfl (Loads.Fat k17 tc3 rfl)) rfl rfl trivial Among.refl (by rintro _ _ _ ⟨_, _, _, _, h, _⟩; cases h) (by kernel_rfl) (listed' := #[true, true, true, true, true, false, false, false, false, false]) rfl ?_
    refine StD.takeP (i := 5) (v := (.slice pA0 a0.length pc0)) rfl (fun _ => Yields.move rfl) rfl rfl trivial (by rintro _ _ _ ⟨_, _, _, _, h, _⟩; cases h) (by kernel_rfl) (listed' := #[true, true, true, true, true, true, false, false, false, false]) rfl ?_
    refine StD.takeP (i := 6) (v := (.int .i64 ((s6 : Nat) : Int))) rfl (fun _ => Yields.move rfl) rfl rfl trivial (by rintro _ _ _ ⟨_, _, _, _, h, _⟩; cases h) (by kernel_rfl) (listed' := #[true, true, true, true, true, true, true, false, false, false]) rfl ?_
    obtain ⟨x18, e19, hm⟩ := bS hm
    obtain ⟨p20, cs21, jx22, R23, k24⟩ := ph0.nidx e19
    obtain rfl := R23
    refine StD.takeP (i := 7) (v := (.pointer (some p20))) rfl (fun _ => Yields.idx jx22 ts26 rfl rfl) rfl rfl trivial (by rintro _ _ _ ⟨_, _, _, _, h, _⟩; cases h) (by kernel_rfl) (listed' := #[true, true, true, true, true, true, true, true, false, false]) rfl ?_
    refine StD.take [0, 1, 2, 3, 5, 6, 7, 9] (i := 8) (v := (.int .i64 x18)) rfl (Yields.load rfl (Loads.Fat k24 tc3 rfl)) rfl rfl trivial Among.refl (by rintro _ _ _ ⟨_, _, _, _, h, _⟩; cases h) (by kernel_rfl) (listed' := #[true, true, true, true, true, true, true, true, true, false]) rfl ?_
    refine StD.takeP (i := 9) (v := (.bool (decide (x11 ≥ x18)))) rfl (fun _ => Yields.ge rfl rfl) rfl rfl trivial (by rintro _ _ _ ⟨_, _, _, _, h, _⟩; cases h) (by kernel_rfl) (listed' := #[true, true, true, true, true, true, true, true, true, true]) rfl ?_
    refine StD.done (by kernel_rfl) ?_
    refine St.norm ?_
    refine St.cond_b rfl ?_ ?_
    ·intro q25
     replace q25 : x11 ≥ x18 := of_decide_eq_true q25
     replace hm := iT hm q25
     refine St.seq ?_
     refine St.region ?_
     refine St.val (v := (.bool false)) (Yields.assign rfl) trivial rfl rfl ?_
     refine St.nil ?_
     refine St.norm ?_
     refine St.ret ?_
     refine St.inret ?_
     refine St.thenret ?_
     refine St.thenret ?_
     refine St.inret ?_
     refine St.thenret ?_
     obtain rfl := sI hm
     obtain rfl := aR ho9
     obtain rfl := aR ho4
     exact St.doneR1 rfl rfl ⟨rfl, rfl⟩ (fun w hs => Among.of Among.none w hs)
    ·intro q26
     replace q26 : ¬ (x11 ≥ x18) := of_decide_eq_false q26
     replace hm := iF hm q26
     refine St.skip ?_
     refine St.innorm ?_
     refine St.norm ?_
     refine St.region ?_
     refine St.val (v := (.int .i64 ((s6 : Nat) : Int))) (Yields.move rfl) trivial rfl rfl ?_
     refine St.val (v := (.int .i64 ((s6 + 1 : Nat) : Int))) (Yields.addn (j := 1) rfl rfl rfl (by have q_0 := q10; have q_1 := ph0.bnd.2; omega)) trivial rfl rfl ?_
     refine St.val (v := (.int .i64 ((s6 + 1 : Nat) : Int))) (Yields.assign rfl) trivial rfl rfl ?_
     refine St.nil ?_
     refine St.norm ?_
     obtain rfl := sI hm
     intro a w ha hs
     exact ⟨s6 + 1, aL ho9, ha.covers ⟨rfl, rfl, trivial⟩, (Among.of Among.none _ hs)⟩
   ·intro q27
    replace q27 : ¬ (((s6 : Nat) : Int) < ((a0.length : Nat) : Int)) := of_decide_eq_false q27
    replace hm := iF hm q27
    refine St.exit ?_
    refine St.thenexit ?_
    refine St.thenexit ?_
    refine St.inexit ?_
    obtain rfl := sI hm
    obtain rfl := aR ho9
    intro a w ha hs
    exact ⟨(), rfl, ha.covers trivial, (Among.of Among.none _ hs)⟩
 ·rintro a w ⟨z2, rfl, ha, hs⟩
  replace hm := aL ho4
  refine St.use (?_ : St _ _ _ _ _ _) ha hs
  clear ha hs a w
  refine St.seq ?_
  refine St.region ?_
  refine St.val (v := (.bool true)) (Yields.assign rfl) trivial rfl rfl ?_
  refine St.nil ?_
  refine St.norm ?_
  refine St.ret ?_
  obtain rfl := sI hm
  exact St.doneR1 rfl rfl ⟨rfl, rfl⟩ (fun w hs => Among.of Among.none w hs)

theorem m_ref11_areNumbers_sp {F : PH} {g : Nat} {a0 : List Int} {pA0 : Option Addr} {pc0 : Nat} (ph0 : Fsl 8 (Kind.int .i64) F pA0 pc0 a0) {r : Bool} (hm : m_ref11_areNumbers g a0 = some r) :
  CallSp Try.prog 48 #[.slice pA0 a0.length pc0] F [] (fun u F' H' => u = (.bool r) ∧ H' = []) := by
 unfold m_ref11_areNumbers at hm
 refine CallSp.enter (args := [.slice pA0 a0.length pc0]) Try.func48 rfl rfl ?_
 intro w0 m0 hm0
 refine St.seq ?_
 refine St.region ?_
 refine St.val (v := (.bool false)) (Yields.assign rfl) trivial rfl rfl ?_
 refine St.nil ?_
 refine St.norm ?_
 obtain ⟨o3, hm, ho4⟩ := jS hm
 refine St.cutI (fun a w => ∃ z2 : Unit, o3 = .inl z2 ∧ Has Try.f48.ntmps a [] ∧ Sat ⟨w0, fun b => m0 b ≠ none, F⟩ F [] w) ?_ ?_
 ·skip
  refine St.seq ?_
  refine St.region ?_
  refine St.val (v := (.int .i64 0)) (Yields.assign rfl) trivial rfl rfl ?_
  refine St.nil ?_
  refine St.norm ?_
  refine St.block ?_
  refine St.loopM hm (fun s6 a w => Has Try.f48.ntmps a [(0, .slice pA0 a0.length pc0), (3, .int .i64 ((s6 : Nat) : Int))] ∧ Sat ⟨w0, fun b => m0 b ≠ none, F⟩ F [] w) ?_ ?_
  ·skip
   intro a w ha hs
   exact ⟨ha.covers ⟨rfl, rfl, trivial⟩, (Among.of Among.none _ hs)⟩
  ·rintro s6 o7 co8 hm ho9 a w ⟨ha, hs⟩
   refine St.use (?_ : St _ _ _ _ _ _) ha hs
   clear ha hs a w
   refine St.seq ?_
   refine St.seq ?_
   refine St.region ?_
   refine St.val (v := (.int .i64 ((s6 : Nat) : Int))) (Yields.move rfl) trivial rfl rfl ?_
   refine St.val (v := (.slice pA0 a0.length pc0)) (Yields.move rfl) trivial rfl rfl ?_
   refine St.val (v := (.int .i64 ((a0.length : Nat) : Int))) (Yields.lenSlice tu26 rfl) trivial rfl rfl ?_
   refine St.val (v := (.bool (decide (((s6 : Nat) : Int) < ((a0.length : Nat) : Int))))) (Yields.lt rfl rfl) trivial rfl rfl ?_
   refine St.nil ?_
   refine St.norm ?_
   refine St.cond_b rfl ?_ ?_
   ·intro q10
    replace q10 : ((s6 : Nat) : Int) < ((a0.length : Nat) : Int) := of_decide_eq_true q10
    replace hm := iT hm q10
    refine St.skip ?_
    refine St.norm ?_
    refine St.seq ?_
    refine St.block ?_
    obtain ⟨z11, hm, hk12⟩ := bS hm
    refine St.cutI (fun a w => Has Try.f48.ntmps a [(0, .slice pA0 a0.length pc0), (3, .int .i64 ((s6 : Nat) : Int)), (21, .bool z11)] ∧ Sat ⟨w0, fun b => m0 b ≠ none, F⟩ F [] w) ?_ ?_
    ·skip
     refine St.region ?_
     refine St.val (v := (.slice pA0 a0.length pc0)) (Yields.move rfl) trivial rfl rfl ?_
     refine St.val (v := (.int .i64 ((s6 : Nat) : Int))) (Yields.move rfl) trivial rfl rfl ?_
     obtain ⟨x13, e14, hm⟩ := bS hm
     obtain ⟨p15, cs16, jx17, R18, k19⟩ := ph0.nidx e14
     obtain rfl := R18
     refine St.val (v := (.pointer (some p15))) (Yields.idx jx17 ts26 rfl rfl) trivial rfl rfl ?_
     refine St.val (v := (.int .i64 x13)) (Yields.load rfl (Loads.Fat k19 tc3 rfl)) trivial rfl rfl ?_
     by_cases q20 : x13 < (-1000000)
     ·replace hm := iT hm q20
      refine St.val (v := (.bool true)) (Yields.is q20 (Yields.lt rfl rfl)) trivial rfl rfl ?_
      refine St.val (v := (.bool true)) (Yields.move rfl) trivial rfl rfl ?_
      refine St.unwanted rfl rfl rfl ?_
      refine St.unwanted rfl rfl rfl ?_
      refine St.unwanted rfl rfl rfl ?_
      refine St.unwanted rfl rfl rfl ?_
      refine St.unwanted rfl rfl rfl ?_
      refine St.val (v := (.bool true)) (Yields.pick_t rfl rfl) trivial rfl rfl ?_
      refine St.nil ?_
      obtain rfl := sI hm
      intro a w ha hs
      exact ⟨ha.covers ⟨rfl, rfl, rfl, trivial⟩, (Among.of Among.none _ hs)⟩
     ·replace hm := iF hm q20
      refine St.val (v := (.bool false)) (Yields.isnt q20 (Yields.lt rfl rfl)) trivial rfl rfl ?_
      refine St.val (v := (.bool false)) (Yields.move rfl) trivial rfl rfl ?_
      refine St.val (v := (.slice pA0 a0.length pc0)) (Yields.move rfl) rfl rfl rfl ?_
      refine St.val (v := (.int .i64 ((s6 : Nat) : Int))) (Yields.move rfl) rfl rfl rfl ?_
      obtain ⟨x21, e22, hm⟩ := bS hm
      obtain ⟨p23, cs24, jx25, R26, k27⟩ := ph0.nidx e22
      obtain rfl := R26
      refine St.val (v := (.pointer (some p23))) (Yields.idx jx25 ts26 rfl rfl) rfl rfl rfl ?_
      refine St.val (v := (.int .i64 x21)) (Yields.load rfl (Loads.Fat k27 tc3 rfl)) rfl rfl rfl ?_
      refine St.val (v := (.bool (decide (x21 > 1000000)))) (Yields.gt rfl rfl) rfl rfl rfl ?_
      refine St.val (v := (.bool (decide (x21 > 1000000)))) (Yields.pick_f rfl rfl) trivial rfl rfl ?_
      refine St.nil ?_
      obtain rfl := sI hm
      intro a w ha hs
      exact ⟨ha.covers ⟨rfl, rfl, rfl, trivial⟩, (Among.of Among.none _ hs)⟩
    ·rintro a w ⟨ha, hs⟩
     replace hm := hk12
     refine St.use (?_ : St _ _ _ _ _ _) ha hs
     clear ha hs a w
     refine St.cond_b rfl ?_ ?_
     ·intro q28
      replace q28 : z11 = true := q28
      replace hm := iT hm q28
      refine St.seq ?_
      refine St.region ?_
      refine St.val (v := (.bool false)) (Yields.assign rfl) trivial rfl rfl ?_
      refine St.nil ?_
      refine St.norm ?_
      refine St.ret ?_
      refine St.inret ?_
      refine St.thenret ?_
      refine St.thenret ?_
      refine St.inret ?_
      refine St.thenret ?_
      obtain rfl := sI hm
      obtain rfl := aR ho9
      obtain rfl := aR ho4
      exact St.doneR1 rfl rfl ⟨rfl, rfl⟩ (fun w hs => Among.of Among.none w hs)
     ·intro q29
      replace q29 : ¬ (z11 = true) := bf q29
      replace hm := iF hm q29
      refine St.skip ?_
      refine St.innorm ?_
      refine St.norm ?_
      refine St.region ?_
      refine St.val (v := (.int .i64 ((s6 : Nat) : Int))) (Yields.move rfl) trivial rfl rfl ?_
      refine St.val (v := (.int .i64 ((s6 + 1 : Nat) : Int))) (Yields.addn (j := 1) rfl rfl rfl (by have q_0 := q10; have q_1 := ph0.bnd.2; omega)) trivial rfl rfl ?_
      refine St.val (v := (.int .i64 ((s6 + 1 : Nat) : Int))) (Yields.assign rfl) trivial rfl rfl ?_
      refine St.nil ?_
      refine St.norm ?_
      obtain rfl := sI hm
      intro a w ha hs
      exact ⟨s6 + 1, aL ho9, ha.covers ⟨rfl, rfl, trivial⟩, (Among.of Among.none _ hs)⟩
   ·intro q30
    replace q30 : ¬ (((s6 : Nat) : Int) < ((a0.length : Nat) : Int)) := of_decide_eq_false q30
    replace hm := iF hm q30
    refine St.exit ?_
    refine St.thenexit ?_
    refine St.thenexit ?_
    refine St.inexit ?_
    obtain rfl := sI hm
    obtain rfl := aR ho9
    intro a w ha hs
    exact ⟨(), rfl, ha.covers trivial, (Among.of Among.none _ hs)⟩
 ·rintro a w ⟨z2, rfl, ha, hs⟩
  replace hm := aL ho4
  refine St.use (?_ : St _ _ _ _ _ _) ha hs
  clear ha hs a w
  refine St.seq ?_
  refine St.region ?_
  refine St.val (v := (.bool true)) (Yields.assign rfl) trivial rfl rfl ?_
  refine St.nil ?_
  refine St.norm ?_
  refine St.ret ?_
  obtain rfl := sI hm
  exact St.doneR1 rfl rfl ⟨rfl, rfl⟩ (fun w hs => Among.of Among.none w hs)

theorem m_ref11_isLimit_sp {F : PH} {g : Nat} {a0 : DLimit} {a1 : Int} {pA0_0 : Option Addr} {pc0_0 : Nat} {pA0_1 : Option Addr} {pc0_1 : Nat} {pA0_2 : Option Addr} {pc0_2 : Nat} (ph0_0 : Fsl 8 (Kind.int .i64) F pA0_0 pc0_0 a0.Vars) (ph0_1 : Fsl 8 (Kind.int .i64) F pA0_1 pc0_1 a0.A) (ph0_2 : Fsl 24 (Kind.sl 8 (Kind.int .i64)) F pA0_2 pc0_2 a0.Rows) {r : Bool} (hm : m_ref11_isLimit g a0 a1 = some r) :
  CallSp Try.prog 49 #[.agg #[.int .i64 a0.Kind, .slice pA0_0 a0.Vars.length pc0_0, .slice pA0_1 a0.A.length pc0_1, .int .i64 a0.B, .slice pA0_2 a0.Rows.length pc0_2], .int .i64 a1] F [] (fun u F' H' => u = (.bool r) ∧ H' = []) := by
 unfold m_ref11_isLimit at hm
 refine CallSp.enter (args := [.agg #[.int .i64 a0.Kind, .slice pA0_0 a0.Vars.length pc0_0, .slice pA0_1 a0.A.length pc0_1, .int .i64 a0.B, .slice pA0_2 a0.Rows.length pc0_2], .int .i64 a1]) Try.func49 rfl rfl ?_
 intro w0 m0 hm0
 refine St.seq ?_
 refine St.region ?_
 refine St.box rfl trivial rfl ?_
 intro b4
 refine St.val (v := (.bool false)) (Yields.assign rfl) trivial rfl rfl ?_
 refine St.nil ?_
 refine St.norm ?_
 refine St.seq ?_
 obtain ⟨z5, hm, hk8⟩ := bS hm
 refine St.cutI (fun a w => ∃ (F6 : PH), PH.le F F6 ∧ Has Try.f49.ntmps a [(1, .int .i64 a1), (2, .pointer (some ⟨b4, 0, none⟩)), (33, .bool z5)] ∧ Sat ⟨w0, fun b => m0 b ≠ none, F⟩ F6 [blk b4 (.cells #[.int .i64 a0.Kind, .slice pA0_0 a0.Vars.length pc0_0, .slice pA0_1 a0.A.length pc0_1, .int .i64 a0.B, .slice pA0_2 a0.Rows.length pc0_2] 28 (0, 0))] w) ?_ ?_
 ·skip
  refine St.region ?_
  refine St.val (v := (.pointer (some ⟨b4, 1, none⟩))) (Yields.fieldAddr (v := (.pointer (some ⟨b4, 1, none⟩))) rfl (fun _ => by kernel_rfl)) trivial rfl rfl ?_
  refine St.val (v := (.slice pA0_0 a0.Vars.length pc0_0)) (Yields.load rfl (Loads.H1 0 rfl tc26 rfl)) trivial rfl rfl ?_
  obtain ⟨q9, e10, hm⟩ := bS hm
  refine St.call [blk b4 (.cells #[.int .i64 a0.Kind, .slice pA0_0 a0.Vars.length pc0_0, .slice pA0_1 a0.A.length pc0_1, .int .i64 a0.B, .slice pA0_2 a0.Rows.length pc0_2] 28 (0, 0))] (m_ref11_isRow_sp ph0_0 e10) rfl (fun _ ha => ev1 ha rfl) rfl en47 rfl rfl trivial ?_
  rintro _ F11 _ ⟨rfl, rfl⟩ l12
  by_cases q13 : q9 = true
  ·replace hm := iT hm q13
   have hb14 : (q9) = true := q13
   try rw [hb14]
   refine St.val (v := (.bool false)) (Yields.not_t rfl) trivial rfl rfl ?_
   refine St.val (v := (.bool false)) (Yields.move rfl) trivial rfl rfl ?_
   refine St.val (v := (.pointer (some ⟨b4, 0, none⟩))) (Yields.fieldAddr (v := (.pointer (some ⟨b4, 0, none⟩))) rfl (fun _ => by kernel_rfl)) rfl rfl rfl ?_
   refine St.val (v := (.int .i64 a0.Kind)) (Yields.load rfl (Loads.H1 0 rfl tc3 rfl)) rfl rfl rfl ?_
   by_cases q15 : a0.Kind < 0
   ·replace hm := iT hm q15
    refine St.val (v := (.bool true)) (Yields.is q15 (Yields.lt rfl rfl)) rfl rfl rfl ?_
    refine St.val (v := (.bool true)) (Yields.pick_f rfl rfl) trivial rfl rfl ?_
    refine St.val (v := (.bool true)) (Yields.move rfl) trivial rfl rfl ?_
    refine St.unwanted rfl rfl rfl ?_
    refine St.unwanted rfl rfl rfl ?_
    refine St.unwanted rfl rfl rfl ?_
    refine St.val (v := (.bool true)) (Yields.pick_t rfl rfl) trivial rfl rfl ?_
    refine St.val (v := (.bool true)) (Yields.move rfl) trivial rfl rfl ?_
    refine St.unwanted rfl rfl rfl ?_
    refine St.unwanted rfl rfl rfl ?_
    refine St.unwanted rfl rfl rfl ?_
    refine St.unwanted rfl rfl rfl ?_
    refine St.val (v := (.bool true)) (Yields.pick_t rfl rfl) trivial rfl rfl ?_
    refine St.val (v := (.bool true)) (Yields.move rfl) trivial rfl rfl ?_
    refine St.unwanted rfl rfl rfl ?_
    refine St.unwanted rfl rfl rfl ?_
    refine St.unwanted rfl rfl rfl ?_
    refine St.unwanted rfl rfl rfl ?_
    refine St.unwanted rfl rfl rfl ?_
    refine St.val (v := (.bool true)) (Yields.pick_t rfl rfl) trivial rfl rfl ?_
    refine St.nil ?_
    obtain rfl := sI hm
    intro a w ha hs
    exact ⟨F11, l12, ha.covers ⟨rfl, rfl, rfl, trivial⟩, (Among.of (Among.take 0 rfl rfl Among.none) _ hs)⟩
   ·replace hm := iF hm q15
    refine St.val (v := (.bool false)) (Yields.isnt q15 (Yields.lt rfl rfl)) rfl rfl rfl ?_
    refine St.val (v := (.bool false)) (Yields.pick_f rfl rfl) trivial rfl rfl ?_
    refine St.val (v := (.bool false)) (Yields.move rfl) trivial rfl rfl ?_
    refine St.val (v := (.pointer (some ⟨b4, 0, none⟩))) (Yields.fieldAddr (v := (.pointer (some ⟨b4, 0, none⟩))) rfl (fun _ => by kernel_rfl)) rfl rfl rfl ?_
    refine St.val (v := (.int .i64 a0.Kind)) (Yields.load rfl (Loads.H1 0 rfl tc3 rfl)) rfl rfl rfl ?_
    by_cases q16 : a0.Kind > 4
    ·replace hm := iT hm q16
     refine St.val (v := (.bool true)) (Yields.is q16 (Yields.gt rfl rfl)) rfl rfl rfl ?_
     refine St.val (v := (.bool true)) (Yields.pick_f rfl rfl) trivial rfl rfl ?_
     refine St.val (v := (.bool true)) (Yields.move rfl) trivial rfl rfl ?_
     refine St.unwanted rfl rfl rfl ?_
     refine St.unwanted rfl rfl rfl ?_
     refine St.unwanted rfl rfl rfl ?_
     refine St.unwanted rfl rfl rfl ?_
     refine St.val (v := (.bool true)) (Yields.pick_t rfl rfl) trivial rfl rfl ?_
     refine St.val (v := (.bool true)) (Yields.move rfl) trivial rfl rfl ?_
     refine St.unwanted rfl rfl rfl ?_
     refine St.unwanted rfl rfl rfl ?_
     refine St.unwanted rfl rfl rfl ?_
     refine St.unwanted rfl rfl rfl ?_
     refine St.unwanted rfl rfl rfl ?_
     refine St.val (v := (.bool true)) (Yields.pick_t rfl rfl) trivial rfl rfl ?_
     refine St.nil ?_
     obtain rfl := sI hm
     intro a w ha hs
     exact ⟨F11, l12, ha.covers ⟨rfl, rfl, rfl, trivial⟩, (Among.of (Among.take 0 rfl rfl Among.none) _ hs)⟩
    ·replace hm := iF hm q16
     refine St.val (v := (.bool false)) (Yields.isnt q16 (Yields.gt rfl rfl)) rfl rfl rfl ?_
     refine St.val (v := (.bool false)) (Yields.pick_f rfl rfl) trivial rfl rfl ?_
     refine St.val (v := (.bool false)) (Yields.move rfl) trivial rfl rfl ?_
     refine St.val (v := (.pointer (some ⟨b4, 2, none⟩))) (Yields.fieldAddr (v := (.pointer (some ⟨b4, 2, none⟩))) rfl (fun _ => by kernel_rfl)) rfl rfl rfl ?_
     refine St.val (v := (.slice pA0_1 a0.A.length pc0_1)) (Yields.load rfl (Loads.H1 0 rfl tc26 rfl)) rfl rfl rfl ?_
     obtain ⟨q17, e18, hm⟩ := bS hm
     refine St.call [blk b4 (.cells #[.int .i64 a0.Kind, .slice pA0_0 a0.Vars.length pc0_0, .slice pA0_1 a0.A.length pc0_1, .int .i64 a0.B, .slice pA0_2 a0.Rows.length pc0_2] 28 (0, 0))] (m_ref11_areNumbers_sp (Fsl.mono l12 ph0_1) e18) rfl (fun _ ha => ev1 ha rfl) rfl en48 rfl rfl rfl ?_
     rintro _ F19 _ ⟨rfl, rfl⟩ l20
     by_cases q21 : q17 = true
     ·replace hm := iT hm q21
      have hb22 : (q17) = true := q21
      try rw [hb22]
      refine St.val (v := (.bool false)) (Yields.not_t rfl) rfl rfl rfl ?_
      refine St.val (v := (.bool false)) (Yields.pick_f rfl rfl) trivial rfl rfl ?_
      refine St.val (v := (.bool false)) (Yields.move rfl) trivial rfl rfl ?_
      refine St.val (v := (.pointer (some ⟨b4, 3, none⟩))) (Yields.fieldAddr (v := (.pointer (some ⟨b4, 3, none⟩))) rfl (fun _ => by kernel_rfl)) rfl rfl rfl ?_
      refine St.val (v := (.int .i64 a0.B)) (Yields.load rfl (Loads.H1 0 rfl tc3 rfl)) rfl rfl rfl ?_
      refine St.buildSlice (e := 3) (cells := #[.int .i64 a0.B]) (vs := #[(0, .int .i64 a0.B)]) (fun _ ha => evp1 ha rfl) (fun _ => by kernel_rfl) rfl rfl ?_
      intro b23
      refine St.weak (R := [blk b4 (.cells #[.int .i64 a0.Kind, .slice pA0_0 a0.Vars.length pc0_0, .slice pA0_1 a0.A.length pc0_1, .int .i64 a0.B, .slice pA0_2 a0.Rows.length pc0_2] 28 (0, 0))]) (c' := rowo (some ⟨b23, 0, none⟩) ([a0.B] : List Int).length 1 3 1 [.int .i64 a0.B]) 0 rfl rfl (fun m hm => rowo_of_row (row_of_blk (k := 1) rfl (by decide) hm)) ?_
      refine St.pick (R := [blk b4 (.cells #[.int .i64 a0.Kind, .slice pA0_0 a0.Vars.length pc0_0, .slice pA0_1 a0.A.length pc0_1, .int .i64 a0.B, .slice pA0_2 a0.Rows.length pc0_2] 28 (0, 0))]) 0 rfl rfl ?_
      obtain ⟨q25, e26, hm⟩ := bS hm
      refine St.call [blk b4 (.cells #[.int .i64 a0.Kind, .slice pA0_0 a0.Vars.length pc0_0, .slice pA0_1 a0.A.length pc0_1, .int .i64 a0.B, .slice pA0_2 a0.Rows.length pc0_2] 28 (0, 0))] (CallSp.lend (Hl := [rowo (some ⟨b23, 0, none⟩) ([a0.B] : List Int).length 1 3 1 [.int .i64 a0.B]]) (fun m_ hm_ hd_ h1_ h2_ => (m_ref11_areNumbers_sp (lentR hm_ 0 rfl rfl (show Cat (Kind.int .i64) F19 [.int .i64 a0.B] ([a0.B] : List Int) from ⟨[.int .i64 a0.B], _, rfl, rfl, rfl⟩) (show Bnd 8 ([a0.B] : List Int) from ⟨by simp, by simp⟩) h1_ h2_) e26).mono (fun _ _ _ h_ _ _ => h_))) rfl (fun _ ha => ev1 ha rfl) rfl en48 rfl rfl rfl ?_
      rintro _ F27 _ ⟨_, rfl, rfl, rfl⟩ l28
      refine St.val (v := (.bool (!q25))) (Yields.not rfl) rfl rfl rfl ?_
      refine St.val (v := (.bool (!q25))) (Yields.pick_f rfl rfl) trivial rfl rfl ?_
      refine St.nil ?_
      obtain rfl := sI hm
      intro a w ha hs
      exact ⟨F27, (PH.le_trans l12 (PH.le_trans l20 l28)), ha.covers ⟨rfl, rfl, rfl, trivial⟩, (Among.of (Among.take 1 rfl rfl Among.none) _ hs)⟩
     ·replace hm := iF hm q21
      have hb29 : (q17) = false := eq_false_of_ne_true q21
      try rw [hb29]
      refine St.val (v := (.bool true)) (Yields.not_f rfl) rfl rfl rfl ?_
      refine St.val (v := (.bool true)) (Yields.pick_f rfl rfl) trivial rfl rfl ?_
      refine St.val (v := (.bool true)) (Yields.move rfl) trivial rfl rfl ?_
      refine St.unwanted rfl rfl rfl ?_
      refine St.unwanted rfl rfl rfl ?_
      refine St.unwanted rfl rfl rfl ?_
      refine St.unwanted rfl rfl rfl ?_
      refine St.unwanted rfl rfl rfl ?_
      refine St.val (v := (.bool true)) (Yields.pick_t rfl rfl) trivial rfl rfl ?_
      refine St.nil ?_
      obtain rfl := sI hm
      intro a w ha hs
      exact ⟨F19, (PH.le_trans l12 l20), ha.covers ⟨rfl, rfl, rfl, trivial⟩, (Among.of (Among.take 0 rfl rfl Among.none) _ hs)⟩
  ·replace hm := iF hm q13
   have hb30 : (q9) = false := eq_false_of_ne_true q13
   try rw [hb30]
   refine St.val (v := (.bool true)) (Yields.not_f rfl) trivial rfl rfl ?_
   refine St.val (v := (.bool true)) (Yields.move rfl) trivial rfl rfl ?_
   refine St.unwanted rfl rfl rfl ?_
   refine St.unwanted rfl rfl rfl ?_
   refine St.unwanted rfl rfl rfl ?_
   refine St.val (v := (.bool true)) (Yields.pick_t rfl rfl) trivial rfl rfl ?_
   refine St.val (v := (.bool true)) (Yields.move rfl) trivial rfl rfl ?_
   refine St.unwanted rfl rfl rfl ?_
   refine St.unwanted rfl rfl rfl ?_
   refine St.unwanted rfl rfl rfl ?_
   refine St.val (v := (.bool true)) (Yields.pick_t rfl rfl) trivial rfl rfl ?_
   refine St.val (v := (.bool true)) (Yields.move rfl) trivial rfl rfl ?_
   refine St.unwanted rfl rfl rfl ?_
   refine St.unwanted rfl rfl rfl ?_
   refine St.unwanted rfl rfl rfl ?_
   refine St.unwanted rfl rfl rfl ?_
   refine St.val (v := (.bool true)) (Yields.pick_t rfl rfl) trivial rfl rfl ?_
   refine St.val (v := (.bool true)) (Yields.move rfl) trivial rfl rfl ?_
   refine St.unwanted rfl rfl rfl ?_
   refine St.unwanted rfl rfl rfl ?_
   refine St.unwanted rfl rfl rfl ?_
   refine St.unwanted rfl rfl rfl ?_
   refine St.unwanted rfl rfl rfl ?_
   refine St.val (v := (.bool true)) (Yields.pick_t rfl rfl) trivial rfl rfl ?_
   refine St.nil ?_
   obtain rfl := sI hm
   intro a w ha hs
   exact ⟨F11, l12, ha.covers ⟨rfl, rfl, rfl, trivial⟩, (Among.of (Among.take 0 rfl rfl Among.none) _ hs)⟩
 ·rintro a w ⟨F6, l7, ha, hs⟩
  replace hm := hk8
  refine St.use (?_ : St _ _ _ _ _ _) ha hs
  clear ha hs a w
  refine St.cond_b rfl ?_ ?_
  ·intro q31
   replace q31 : z5 = true := q31
   replace hm := iT hm q31
   refine St.seq ?_
   refine St.region ?_
   refine St.val (v := (.bool false)) (Yields.assign rfl) trivial rfl rfl ?_
   refine St.nil ?_
   refine St.norm ?_
   refine St.ret ?_
   refine St.thenret ?_
   obtain rfl := sI hm
   exact St.doneR1 rfl rfl ⟨rfl, rfl⟩ (fun w hs => Among.of Among.none w hs)
  ·intro q32
   replace q32 : ¬ (z5 = true) := bf q32
   replace hm := iF hm q32
   refine St.skip ?_
   refine St.norm ?_
   obtain ⟨o34, hm, ho35⟩ := jS hm
   refine St.cutI (fun a w => ∃ z33 : Unit, o34 = .inl z33 ∧ Has Try.f49.ntmps a [(2, .pointer (some ⟨b4, 0, none⟩))] ∧ Sat ⟨w0, fun b => m0 b ≠ none, F⟩ F6 [blk b4 (.cells #[.int .i64 a0.Kind, .slice pA0_0 a0.Vars.length pc0_0, .slice pA0_1 a0.A.length pc0_1, .int .i64 a0.B, .slice pA0_2 a0.Rows.length pc0_2] 28 (0, 0))] w) ?_ ?_
   ·skip
    refine St.seq ?_
    refine St.region ?_
    refine St.val (v := (.int .i64 0)) (Yields.assign rfl) trivial rfl rfl ?_
    refine St.nil ?_
    refine St.norm ?_
    refine St.block ?_
    refine St.loopM hm (fun s37 a w => Has Try.f49.ntmps a [(1, .int .i64 a1), (2, .pointer (some ⟨b4, 0, none⟩)), (5, .int .i64 ((s37 : Nat) : Int))] ∧ Sat ⟨w0, fun b => m0 b ≠ none, F⟩ F6 [blk b4 (.cells #[.int .i64 a0.Kind, .slice pA0_0 a0.Vars.length pc0_0, .slice pA0_1 a0.A.length pc0_1, .int .i64 a0.B, .slice pA0_2 a0.Rows.length pc0_2] 28 (0, 0))] w) ?_ ?_
    ·skip
     intro a w ha hs
     exact ⟨ha.covers ⟨rfl, rfl, rfl, trivial⟩, (Among.of (Among.take 0 rfl rfl Among.none) _ hs)⟩
    ·rintro s37 o38 co39 hm ho40 a w ⟨ha, hs⟩
     refine St.use (?_ : St _ _ _ _ _ _) ha hs
     clear ha hs a w
     refine St.seq ?_
     refine St.seq ?_
     refine St.region ?_
     refine St.val (v := (.int .i64 ((s37 : Nat) : Int))) (Yields.move rfl) trivial rfl rfl ?_
     refine St.val (v := (.pointer (some ⟨b4, 1, none⟩))) (Yields.fieldAddr (v := (.pointer (some ⟨b4, 1, none⟩))) rfl (fun _ => by kernel_rfl)) trivial rfl rfl ?_
     refine St.val (v := (.slice pA0_0 a0.Vars.length pc0_0)) (Yields.load rfl (Loads.H1 0 rfl tc26 rfl)) trivial rfl rfl ?_
     refine St.val (v := (.int .i64 ((a0.Vars.length : Nat) : Int))) (Yields.lenSlice tu26 rfl) trivial rfl rfl ?_
     refine St.val (v := (.bool (decide (((s37 : Nat) : Int) < ((a0.Vars.length : Nat) : Int))))) (Yields.lt rfl rfl) trivial rfl rfl ?_
     refine St.nil ?_
     refine St.norm ?_
     refine St.cond_b rfl ?_ ?_
     ·intro q41
      replace q41 : ((s37 : Nat) : Int) < ((a0.Vars.length : Nat) : Int) := of_decide_eq_true q41
      replace hm := iT hm q41
      refine St.skip ?_
      refine St.norm ?_
      refine St.seq ?_
      refine St.block ?_
      obtain ⟨z42, hm, hk43⟩ := bS hm
      refine St.cutI (fun a w => Has Try.f49.ntmps a [(1, .int .i64 a1), (2, .pointer (some ⟨b4, 0, none⟩)), (5, .int .i64 ((s37 : Nat) : Int)), (55, .bool z42)] ∧ Sat ⟨w0, fun b => m0 b ≠ none, F⟩ F6 [blk b4 (.cells #[.int .i64 a0.Kind, .slice pA0_0 a0.Vars.length pc0_0, .slice pA0_1 a0.A.length pc0_1, .int .i64 a0.B, .slice pA0_2 a0.Rows.length pc0_2] 28 (0, 0))] w) ?_ ?_
      ·skip
       refine St.region ?_
       refine St.val (v := (.pointer (some ⟨b4, 1, none⟩))) (Yields.fieldAddr (v := (.pointer (some ⟨b4, 1, none⟩))) rfl (fun _ => by kernel_rfl)) trivial rfl rfl ?_
       refine St.val (v := (.slice pA0_0 a0.Vars.length pc0_0)) (Yields.load rfl (Loads.H1 0 rfl tc26 rfl)) trivial rfl rfl ?_
       refine St.val (v := (.int .i64 ((s37 : Nat) : Int))) (Yields.move rfl) trivial rfl rfl ?_
       obtain ⟨x44, e45, hm⟩ := bS hm
       obtain ⟨p46, cs47, jx48, R49, k50⟩ := (Fsl.mono l7 ph0_0).nidx e45
       obtain rfl := R49
       refine St.val (v := (.pointer (some p46))) (Yields.idx jx48 ts26 rfl rfl) trivial rfl rfl ?_
       refine St.val (v := (.int .i64 x44)) (Yields.load rfl (Loads.Fat k50 tc3 rfl)) trivial rfl rfl ?_
       by_cases q51 : x44 < 0
       ·replace hm := iT hm q51
        refine St.val (v := (.bool true)) (Yields.is q51 (Yields.lt rfl rfl)) trivial rfl rfl ?_
        refine St.val (v := (.bool true)) (Yields.move rfl) trivial rfl rfl ?_
        refine St.unwanted rfl rfl rfl ?_
        refine St.unwanted rfl rfl rfl ?_
        refine St.unwanted rfl rfl rfl ?_
        refine St.unwanted rfl rfl rfl ?_
        refine St.unwanted rfl rfl rfl ?_
        refine St.unwanted rfl rfl rfl ?_
        refine St.unwanted rfl rfl rfl ?_
        refine St.val (v := (.bool true)) (Yields.pick_t rfl rfl) trivial rfl rfl ?_
        refine St.nil ?_
        obtain rfl := sI hm
        intro a w ha hs
        exact ⟨ha.covers ⟨rfl, rfl, rfl, rfl, trivial⟩, (Among.of (Among.take 0 rfl rfl Among.none) _ hs)⟩
       ·replace hm := iF hm q51
        refine St.val (v := (.bool false)) (Yields.isnt q51 (Yields.lt rfl rfl)) trivial rfl rfl ?_
        refine St.val (v := (.bool false)) (Yields.move rfl) trivial rfl rfl ?_
        refine St.val (v := (.pointer (some ⟨b4, 1, none⟩))) (Yields.fieldAddr (v := (.pointer (some ⟨b4, 1, none⟩))) rfl (fun _ => by kernel_rfl)) rfl rfl rfl ?_
        refine St.val (v := (.slice pA0_0 a0.Vars.length pc0_0)) (Yields.load rfl (Loads.H1 0 rfl tc26 rfl)) rfl rfl rfl ?_
        refine St.val (v := (.int .i64 ((s37 : Nat) : Int))) (Yields.move rfl) rfl rfl rfl ?_
        obtain ⟨x52, e53, hm⟩ := bS hm
        obtain ⟨p54, cs55, jx56, R57, k58⟩ := (Fsl.mono l7 ph0_0).nidx e53
        obtain rfl := R57
        refine St.val (v := (.pointer (some p54))) (Yields.idx jx56 ts26 rfl rfl) rfl rfl rfl ?_
        refine St.val (v := (.int .i64 x52)) (Yields.load rfl (Loads.Fat k58 tc3 rfl)) rfl rfl rfl ?_
        refine St.val (v := (.int .i64 a1)) (Yields.move rfl) rfl rfl rfl ?_
        refine St.val (v := (.bool (decide (x52 ≥ a1)))) (Yields.ge rfl rfl) rfl rfl rfl ?_
        refine St.val (v := (.bool (decide (x52 ≥ a1)))) (Yields.pick_f rfl rfl) trivial rfl rfl ?_
        refine St.nil ?_
        obtain rfl := sI hm
        intro a w ha hs
        exact ⟨ha.covers ⟨rfl, rfl, rfl, rfl, trivial⟩, (Among.of (Among.take 0 rfl rfl Among.none) _ hs)⟩
      ·rintro a w ⟨ha, hs⟩
       replace hm := hk43
       refine St.use (?_ : St _ _ _ _ _ _) ha hs
       clear ha hs a w
       refine St.cond_b rfl ?_ ?_
       ·intro q59
        replace q59 : z42 = true := q59
        replace hm := iT hm q59
        refine St.seq ?_
        refine St.region ?_
        refine St.val (v := (.bool false)) (Yields.assign rfl) trivial rfl rfl ?_
        refine St.nil ?_
        refine St.norm ?_
        refine St.ret ?_
        refine St.inret ?_
        refine St.thenret ?_
        refine St.thenret ?_
        refine St.inret ?_
        refine St.thenret ?_
        obtain rfl := sI hm
        obtain rfl := aR ho40
        obtain rfl := aR ho35
        exact St.doneR1 rfl rfl ⟨rfl, rfl⟩ (fun w hs => Among.of Among.none w hs)
       ·intro q60
        replace q60 : ¬ (z42 = true) := bf q60
        replace hm := iF hm q60
        refine St.skip ?_
        refine St.innorm ?_
        refine St.norm ?_
        refine St.region ?_
        refine St.val (v := (.int .i64 ((s37 : Nat) : Int))) (Yields.move rfl) trivial rfl rfl ?_
        refine St.val (v := (.int .i64 ((s37 + 1 : Nat) : Int))) (Yields.addn (j := 1) rfl rfl rfl (by have q_0 := q41; have q_1 := ph0_0.bnd.2; omega)) trivial rfl rfl ?_
        refine St.val (v := (.int .i64 ((s37 + 1 : Nat) : Int))) (Yields.assign rfl) trivial rfl rfl ?_
        refine St.nil ?_
        refine St.norm ?_
        obtain rfl := sI hm
        intro a w ha hs
        exact ⟨s37 + 1, aL ho40, ha.covers ⟨rfl, rfl, rfl, trivial⟩, (Among.of (Among.take 0 rfl rfl Among.none) _ hs)⟩
     ·intro q61
      replace q61 : ¬ (((s37 : Nat) : Int) < ((a0.Vars.length : Nat) : Int)) := of_decide_eq_false q61
      replace hm := iF hm q61
      refine St.exit ?_
      refine St.thenexit ?_
      refine St.thenexit ?_
      refine St.inexit ?_
      obtain rfl := sI hm
      obtain rfl := aR ho40
      intro a w ha hs
      exact ⟨(), rfl, ha.covers ⟨rfl, trivial⟩, (Among.of (Among.take 0 rfl rfl Among.none) _ hs)⟩
   ·rintro a w ⟨z33, rfl, ha, hs⟩
    replace hm := aL ho35
    refine St.use (?_ : St _ _ _ _ _ _) ha hs
    clear ha hs a w
    obtain ⟨o65, hm, ho66⟩ := jS hm
    refine St.cutI (fun a w => ∃ z62 : Unit, o65 = .inl z62 ∧ ∃ (F63 : PH), PH.le F6 F63 ∧ Has Try.f49.ntmps a [(2, .pointer (some ⟨b4, 0, none⟩))] ∧ Sat ⟨w0, fun b => m0 b ≠ none, F⟩ F63 [blk b4 (.cells #[.int .i64 a0.Kind, .slice pA0_0 a0.Vars.length pc0_0, .slice pA0_1 a0.A.length pc0_1, .int .i64 a0.B, .slice pA0_2 a0.Rows.length pc0_2] 28 (0, 0))] w) ?_ ?_
    ·skip
     refine St.seq ?_
     refine St.region ?_
     refine St.val (v := (.int .i64 0)) (Yields.assign rfl) trivial rfl rfl ?_
     refine St.nil ?_
     refine St.norm ?_
     refine St.block ?_
     refine St.loopM hm (fun s69 a w => ∃ (F73 : PH), PH.le F6 F73 ∧ Has Try.f49.ntmps a [(2, .pointer (some ⟨b4, 0, none⟩)), (6, .int .i64 ((s69 : Nat) : Int))] ∧ Sat ⟨w0, fun b => m0 b ≠ none, F⟩ F73 [blk b4 (.cells #[.int .i64 a0.Kind, .slice pA0_0 a0.Vars.length pc0_0, .slice pA0_1 a0.A.length pc0_1, .int .i64 a0.B, .slice pA0_2 a0.Rows.length pc0_2] 28 (0, 0))] w) ?_ ?_
     ·skip
      intro a w ha hs
      exact ⟨F6, (PH.le_refl _), ha.covers ⟨rfl, rfl, trivial⟩, (Among.of (Among.take 0 rfl rfl Among.none) _ hs)⟩
     ·rintro s69 o70 co71 hm ho72 a w ⟨F73, l74, ha, hs⟩
      refine St.use (?_ : St _ _ _ _ _ _) ha hs
      clear ha hs a w
      refine St.seq ?_
      refine St.seq ?_
      refine St.region ?_
      refine St.val (v := (.int .i64 ((s69 : Nat) : Int))) (Yields.move rfl) trivial rfl rfl ?_
      refine St.val (v := (.pointer (some ⟨b4, 4, none⟩))) (Yields.fieldAddr (v := (.pointer (some ⟨b4, 4, none⟩))) rfl (fun _ => by kernel_rfl)) trivial rfl rfl ?_
      refine St.val (v := (.slice pA0_2 a0.Rows.length pc0_2)) (Yields.load rfl (Loads.H1 0 rfl tc22 rfl)) trivial rfl rfl ?_
      refine St.val (v := (.int .i64 ((a0.Rows.length : Nat) : Int))) (Yields.lenSlice tu22 rfl) trivial rfl rfl ?_
      refine St.val (v := (.bool (decide (((s69 : Nat) : Int) < ((a0.Rows.length : Nat) : Int))))) (Yields.lt rfl rfl) trivial rfl rfl ?_
      refine St.nil ?_
      refine St.norm ?_
      refine St.cond_b rfl ?_ ?_
      ·intro q75
       replace q75 : ((s69 : Nat) : Int) < ((a0.Rows.length : Nat) : Int) := of_decide_eq_true q75
       replace hm := iT hm q75
       refine St.skip ?_
       refine St.norm ?_
       refine St.seq ?_
       refine St.block ?_
       obtain ⟨z76, hm, hk79⟩ := bS hm
       refine St.cutI (fun a w => ∃ (F77 : PH), PH.le F73 F77 ∧ Has Try.f49.ntmps a [(2, .pointer (some ⟨b4, 0, none⟩)), (6, .int .i64 ((s69 : Nat) : Int)), (81, .bool z76)] ∧ Sat ⟨w0, fun b => m0 b ≠ none, F⟩ F77 [blk b4 (.cells #[.int .i64 a0.Kind, .slice pA0_0 a0.Vars.length pc0_0, .slice pA0_1 a0.A.length pc0_1, .int .i64 a0.B, .slice pA0_2 a0.Rows.length pc0_2] 28 (0, 0))] w) ?_ ?_
       ·skip
        refine StD.start [16] [blk b4 (.cells #[.int .i64 a0.Kind, .slice pA0_0 a0.Vars.length pc0_0, .slice pA0_1 a0.A.length pc0_1, .int .i64 a0.B, .slice pA0_2 a0.Rows.length pc0_2] 28 (0, 0))] hmix ?_
        refine StD.takeP (i := 0) (v := (.pointer (some ⟨b4, 4, none⟩))) rfl (fun _ => Yields.fieldAddr (v := (.pointer (some ⟨b4, 4, none⟩))) rfl (fun _ => by kernel_rfl)) rfl rfl trivial (by rintro _ _ _ ⟨_, _, _, _, h, _⟩; cases h) (by kernel_rfl) (listed' := #[true, false, false, false, false, false, false, false, false, false, false, false, false, false, false, false, false, false, false]) rfl ?_
        refine StD.take [0, 2, 3, 5, 6, 8, 9, 10, 11, 13, 14, 17, 18] (i := 1) (v := (.slice pA0_2 a0.Rows.length pc0_2)) rfl (Yields.load rfl (Loads.H1 0 rfl tc22 rfl)) rfl rfl trivial Among.refl (by rintro _ _ _ ⟨_, _, _, _, h, _⟩; cases h) (by kernel_rfl) (listed' := #[true, true, false, false, false, false, false, false, false, false, false, false, false, false, false, false, false, false, false]) rfl ?_
        refine StD.takeP (i := 2) (v := (.int .i64 ((s69 : Nat) : Int))) rfl (fun _ => Yields.move rfl) rfl rfl trivial (by rintro _ _ _ ⟨_, _, _, _, h, _⟩; cases h) (by kernel_rfl) (listed' := #[true, true, true, false, false, false, false, false, false, false, false, false, false, false, false, false, false, false, false]) rfl ?_
        obtain ⟨x80, e81, hm⟩ := bS hm
        obtain ⟨p82, cs83, jx84, R85, k86⟩ := (Fsl.mono (PH.le_trans l7 l74) ph0_2).nidx e81
        obtain ⟨A87, c88, rfl, h89⟩ := R85
        refine StD.takeP (i := 3) (v := (.pointer (some p82))) rfl (fun _ => Yields.idx jx84 ts22 rfl rfl) rfl rfl trivial (by rintro _ _ _ ⟨_, _, _, _, h, _⟩; cases h) (by kernel_rfl) (listed' := #[true, true, true, true, false, false, false, false, false, false, false, false, false, false, false, false, false, false, false]) rfl ?_
        refine StD.take [0, 2, 3, 5, 6, 8, 9, 10, 11, 13, 14, 17, 18] (i := 4) (v := (.slice A87 x80.length c88)) rfl (Yields.load rfl (Loads.Fat k86 tc26 rfl)) rfl rfl trivial Among.refl (by rintro _ _ _ ⟨_, _, _, _, h, _⟩; cases h) (by kernel_rfl) (listed' := #[true, true, true, true, true, false, false, false, false, false, false, false, false, false, false, false, false, false, false]) rfl ?_
        refine StD.takeP (i := 5) (v := (.int .i64 ((x80.length : Nat) : Int))) rfl (fun _ => Yields.lenSlice tu26 rfl) rfl rfl trivial (by rintro _ _ _ ⟨_, _, _, _, h, _⟩; cases h) (by kernel_rfl) (listed' := #[true, true, true, true, true, true, false, false, false, false, false, false, false, false, false, false, false, false, false]) rfl ?_
        refine StD.takeP (i := 6) (v := (.pointer (some ⟨b4, 1, none⟩))) rfl (fun _ => Yields.fieldAddr (v := (.pointer (some ⟨b4, 1, none⟩))) rfl (fun _ => by kernel_rfl)) rfl rfl trivial (by rintro _ _ _ ⟨_, _, _, _, h, _⟩; cases h) (by kernel_rfl) (listed' := #[true, true, true, true, true, true, true, false, false, false, false, false, false, false, false, false, false, false, false]) rfl ?_
        refine StD.take [0, 2, 3, 5, 6, 8, 9, 10, 11, 13, 14, 17, 18] (i := 7) (v := (.slice pA0_0 a0.Vars.length pc0_0)) rfl (Yields.load rfl (Loads.H1 0 rfl tc26 rfl)) rfl rfl trivial Among.refl (by rintro _ _ _ ⟨_, _, _, _, h, _⟩; cases h) (by kernel_rfl) (listed' := #[true, true, true, true, true, true, true, true, false, false, false, false, false, false, false, false, false, false, false]) rfl ?_
        refine StD.takeP (i := 8) (v := (.int .i64 ((a0.Vars.length : Nat) : Int))) rfl (fun _ => Yields.lenSlice tu26 rfl) rfl rfl trivial (by rintro _ _ _ ⟨_, _, _, _, h, _⟩; cases h) (by kernel_rfl) (listed' := #[true, true, true, true, true, true, true, true, true, false, false, false, false, false, false, false, false, false, false]) rfl ?_
        by_cases q91 : ((x80.length : Nat) : Int) = ((a0.Vars.length : Nat) : Int)
        ·replace hm := iT hm q91
         refine StD.takeP (i := 9) (v := (.bool false)) rfl (fun _ => Yields.nis q91 (Yields.ne rfl rfl)) rfl rfl trivial (by rintro _ _ _ ⟨_, _, _, _, h, _⟩; cases h) (by kernel_rfl) (listed' := #[true, true, true, true, true, true, true, true, true, true, false, false, false, false, false, false, false, false, false]) rfl ?_
         refine StD.takeP (i := 10) (v := (.bool false)) rfl (fun _ => Yields.move rfl) rfl rfl trivial (by rintro _ _ _ ⟨_, _, _, _, h, _⟩; cases h) (by kernel_rfl) (listed' := #[true, true, true, true, true, true, true, true, true, true, true, false, false, false, false, false, false, false, false]) rfl ?_
         refine StD.takeP (i := 11) (v := (.pointer (some ⟨b4, 4, none⟩))) rfl (fun _ => Yields.fieldAddr (v := (.pointer (some ⟨b4, 4, none⟩))) rfl (fun _ => by kernel_rfl)) rfl rfl rfl (by rintro _ _ _ ⟨_, _, _, _, h, _⟩; cases h) (by kernel_rfl) (listed' := #[true, true, true, true, true, true, true, true, true, true, true, true, false, false, false, false, false, false, false]) rfl ?_
         refine StD.take [0, 2, 3, 5, 6, 8, 9, 10, 11, 13, 14, 17, 18] (i := 12) (v := (.slice pA0_2 a0.Rows.length pc0_2)) rfl (Yields.load rfl (Loads.H1 0 rfl tc22 rfl)) rfl rfl rfl Among.refl (by rintro _ _ _ ⟨_, _, _, _, h, _⟩; cases h) (by kernel_rfl) (listed' := #[true, true, true, true, true, true, true, true, true, true, true, true, true, false, false, false, false, false, false]) rfl ?_
         refine StD.takeP (i := 13) (v := (.int .i64 ((s69 : Nat) : Int))) rfl (fun _ => Yields.move rfl) rfl rfl rfl (by rintro _ _ _ ⟨_, _, _, _, h, _⟩; cases h) (by kernel_rfl) (listed' := #[true, true, true, true, true, true, true, true, true, true, true, true, true, true, false, false, false, false, false]) rfl ?_
         obtain ⟨x92, e93, hm⟩ := bS hm
         obtain ⟨p94, cs95, jx96, R97, k98⟩ := (Fsl.mono (PH.le_trans l7 l74) ph0_2).nidx e93
         obtain ⟨A99, c100, rfl, h101⟩ := R97
         refine StD.takeP (i := 14) (v := (.pointer (some p94))) rfl (fun _ => Yields.idx jx96 ts22 rfl rfl) rfl rfl rfl (by rintro _ _ _ ⟨_, _, _, _, h, _⟩; cases h) (by kernel_rfl) (listed' := #[true, true, true, true, true, true, true, true, true, true, true, true, true, true, true, false, false, false, false]) rfl ?_
         refine StD.take [0, 2, 3, 5, 6, 8, 9, 10, 11, 13, 14, 17, 18] (i := 15) (v := (.slice A99 x92.length c100)) rfl (Yields.load rfl (Loads.Fat k98 tc26 rfl)) rfl rfl rfl Among.refl (by rintro _ _ _ ⟨_, _, _, _, h, _⟩; cases h) (by kernel_rfl) (listed' := #[true, true, true, true, true, true, true, true, true, true, true, true, true, true, true, true, false, false, false]) rfl ?_
         refine StD.only (i := 16) rfl (by kernel_rfl) (listed' := #[true, true, true, true, true, true, true, true, true, true, true, true, true, true, true, true, true, false, false]) rfl ?_
         intro hcl103
         obtain ⟨q104, e105, hm⟩ := bS hm
         refine St.call [blk b4 (.cells #[.int .i64 a0.Kind, .slice pA0_0 a0.Vars.length pc0_0, .slice pA0_1 a0.A.length pc0_1, .int .i64 a0.B, .slice pA0_2 a0.Rows.length pc0_2] 28 (0, 0))] (m_ref11_areNumbers_sp h101 e105) rfl (fun _ ha => ev1 ha rfl) rfl en48 rfl rfl rfl ?_
         rintro _ F106 _ ⟨rfl, rfl⟩ l107
         refine StD.next hcl103 (fun h => by cases h) ?_
         refine StD.takeP (i := 17) (v := (.bool (!q104))) rfl (fun _ => Yields.not rfl) rfl rfl rfl (by rintro _ _ _ ⟨_, _, _, _, h, _⟩; cases h) (by kernel_rfl) (listed' := #[true, true, true, true, true, true, true, true, true, true, true, true, true, true, true, true, true, true, false]) rfl ?_
         refine StD.takeP (i := 18) (v := (.bool (!q104))) rfl (fun _ => Yields.pick_f rfl rfl) rfl rfl trivial (by rintro _ _ _ ⟨_, _, _, _, h, _⟩; cases h) (by kernel_rfl) (listed' := #[true, true, true, true, true, true, true, true, true, true, true, true, true, true, true, true, true, true, true]) rfl ?_
         refine StD.done (by kernel_rfl) ?_
         obtain rfl := sI hm
         intro a w ha hs
         exact ⟨F106, l107, ha.covers ⟨rfl, rfl, rfl, trivial⟩, (Among.of (Among.take 0 rfl rfl Among.none) _ hs)⟩
        ·replace hm := iF hm q91
         refine StD.takeP (i := 9) (v := (.bool true)) rfl (fun _ => Yields.nisnt q91 (Yields.ne rfl rfl)) rfl rfl trivial (by rintro _ _ _ ⟨_, _, _, _, h, _⟩; cases h) (by kernel_rfl) (listed' := #[true, true, true, true, true, true, true, true, true, true, false, false, false, false, false, false, false, false, false]) rfl ?_
         refine StD.takeP (i := 10) (v := (.bool true)) rfl (fun _ => Yields.move rfl) rfl rfl trivial (by rintro _ _ _ ⟨_, _, _, _, h, _⟩; cases h) (by kernel_rfl) (listed' := #[true, true, true, true, true, true, true, true, true, true, true, false, false, false, false, false, false, false, false]) rfl ?_
         refine StD.takeNot (i := 11) rfl rfl rfl rfl (by rintro _ _ _ ⟨_, _, _, _, h, _⟩; cases h) (by kernel_rfl) (listed' := #[true, true, true, true, true, true, true, true, true, true, true, true, false, false, false, false, false, false, false]) rfl ?_
         refine StD.takeNot (i := 12) rfl rfl rfl rfl (by rintro _ _ _ ⟨_, _, _, _, h, _⟩; cases h) (by kernel_rfl) (listed' := #[true, true, true, true, true, true, true, true, true, true, true, true, true, false, false, false, false, false, false]) rfl ?_
         refine StD.takeNot (i := 13) rfl rfl rfl rfl (by rintro _ _ _ ⟨_, _, _, _, h, _⟩; cases h) (by kernel_rfl) (listed' := #[true, true, true, true, true, true, true, true, true, true, true, true, true, true, false, false, false, false, false]) rfl ?_
         refine StD.takeNot (i := 14) rfl rfl rfl rfl (by rintro _ _ _ ⟨_, _, _, _, h, _⟩; cases h) (by kernel_rfl) (listed' := #[true, true, true, true, true, true, true, true, true, true, true, true, true, true, true, false, false, false, false]) rfl ?_
         refine StD.takeNot (i := 15) rfl rfl rfl rfl (by rintro _ _ _ ⟨_, _, _, _, h, _⟩; cases h) (by kernel_rfl) (listed' := #[true, true, true, true, true, true, true, true, true, true, true, true, true, true, true, true, false, false, false]) rfl ?_
         refine StD.only (i := 16) rfl (by kernel_rfl) (listed' := #[true, true, true, true, true, true, true, true, true, true, true, true, true, true, true, true, true, false, false]) rfl ?_
         intro hcl108
         refine St.unwanted rfl rfl rfl ?_
         refine StD.next hcl108 (fun h => by cases h) ?_
         refine StD.takeNot (i := 17) rfl rfl rfl rfl (by rintro _ _ _ ⟨_, _, _, _, h, _⟩; cases h) (by kernel_rfl) (listed' := #[true, true, true, true, true, true, true, true, true, true, true, true, true, true, true, true, true, true, false]) rfl ?_
         refine StD.takeP (i := 18) (v := (.bool true)) rfl (fun _ => Yields.pick_t rfl rfl) rfl rfl trivial (by rintro _ _ _ ⟨_, _, _, _, h, _⟩; cases h) (by kernel_rfl) (listed' := #[true, true, true, true, true, true, true, true, true, true, true, true, true, true, true, true, true, true, true]) rfl ?_
         refine StD.done (by kernel_rfl) ?_
         obtain rfl := sI hm
         intro a w ha hs
         exact ⟨F73, (PH.le_refl _), ha.covers ⟨rfl, rfl, rfl, trivial⟩, (Among.of (Among.take 0 rfl rfl Among.none) _ hs)⟩
       ·rintro a w ⟨F77, l78, ha, hs⟩
        replace hm := hk79
        refine St.use (?_ : St _ _ _ _ _ _) ha hs
        clear ha hs a w
        refine St.cond_b rfl ?_ ?_
        ·intro q109
         replace q109 : z76 = true := q109
         replace hm := iT hm q109
         refine St.seq ?_
         refine St.region ?_
         refine St.val (v := (.bool false)) (Yields.assign rfl) trivial rfl rfl ?_
         refine St.nil ?_
         refine St.norm ?_
         refine St.ret ?_
         refine St.inret ?_
         refine St.thenret ?_
         refine St.thenret ?_
         refine St.inret ?_
         refine St.thenret ?_
         obtain rfl := sI hm
         obtain rfl := aR ho72
         obtain rfl := aR ho66
         exact St.doneR1 rfl rfl ⟨rfl, rfl⟩ (fun w hs => Among.of Among.none w hs)
        ·intro q110
         replace q110 : ¬ (z76 = true) := bf q110
         replace hm := iF hm q110
         refine St.skip ?_
         refine St.innorm ?_
         refine St.norm ?_
         refine St.region ?_
         refine St.val (v := (.int .i64 ((s69 : Nat) : Int))) (Yields.move rfl) trivial rfl rfl ?_
         refine St.val (v := (.int .i64 ((s69 + 1 : Nat) : Int))) (Yields.addn (j := 1) rfl rfl rfl (by have q_0 := q75; have q_1 := ph0_2.bnd.2; omega)) trivial rfl rfl ?_
         refine St.val (v := (.int .i64 ((s69 + 1 : Nat) : Int))) (Yields.assign rfl) trivial rfl rfl ?_
         refine St.nil ?_
         refine St.norm ?_
         obtain rfl := sI hm
         intro a w ha hs
         exact ⟨s69 + 1, aL ho72, F77, (PH.le_trans l74 l78), ha.covers ⟨rfl, rfl, trivial⟩, (Among.of (Among.take 0 rfl rfl Among.none) _ hs)⟩
      ·intro q111
       replace q111 : ¬ (((s69 : Nat) : Int) < ((a0.Rows.length : Nat) : Int)) := of_decide_eq_false q111
       replace hm := iF hm q111
       refine St.exit ?_
       refine St.thenexit ?_
       refine St.thenexit ?_
       refine St.inexit ?_
       obtain rfl := sI hm
       obtain rfl := aR ho72
       intro a w ha hs
       exact ⟨(), rfl, F73, l74, ha.covers ⟨rfl, trivial⟩, (Among.of (Among.take 0 rfl rfl Among.none) _ hs)⟩
    ·rintro a w ⟨z62, rfl, F63, l64, ha, hs⟩
     replace hm := aL ho66
     refine St.use (?_ : St _ _ _ _ _ _) ha hs
     clear ha hs a w
     refine St.seq ?_
     refine St.seq ?_
     refine St.region ?_
     refine St.val (v := (.pointer (some ⟨b4, 0, none⟩))) (Yields.fieldAddr (v := (.pointer (some ⟨b4, 0, none⟩))) rfl (fun _ => by kernel_rfl)) trivial rfl rfl ?_
     refine St.val (v := (.int .i64 a0.Kind)) (Yields.load rfl (Loads.H1 0 rfl tc3 rfl)) trivial rfl rfl ?_
     refine St.val (v := (.bool (decide (a0.Kind ≤ 2)))) (Yields.le rfl rfl) trivial rfl rfl ?_
     refine St.nil ?_
     refine St.norm ?_
     refine St.cond_b rfl ?_ ?_
     ·intro q112
      replace q112 : a0.Kind ≤ 2 := of_decide_eq_true q112
      replace hm := iT hm q112
      obtain ⟨z113, hm, hk114⟩ := bS hm
      refine St.cutI (fun a w => Has Try.f49.ntmps a [(4, .bool z113)] ∧ Sat ⟨w0, fun b => m0 b ≠ none, F⟩ F63 [] w) ?_ ?_
      ·skip
       refine St.region ?_
       refine St.val (v := (.pointer (some ⟨b4, 2, none⟩))) (Yields.fieldAddr (v := (.pointer (some ⟨b4, 2, none⟩))) rfl (fun _ => by kernel_rfl)) trivial rfl rfl ?_
       refine St.val (v := (.slice pA0_1 a0.A.length pc0_1)) (Yields.load rfl (Loads.H1 0 rfl tc26 rfl)) trivial rfl rfl ?_
       refine St.val (v := (.int .i64 ((a0.A.length : Nat) : Int))) (Yields.lenSlice tu26 rfl) trivial rfl rfl ?_
       refine St.val (v := (.pointer (some ⟨b4, 1, none⟩))) (Yields.fieldAddr (v := (.pointer (some ⟨b4, 1, none⟩))) rfl (fun _ => by kernel_rfl)) trivial rfl rfl ?_
       refine St.val (v := (.slice pA0_0 a0.Vars.length pc0_0)) (Yields.load rfl (Loads.H1 0 rfl tc26 rfl)) trivial rfl rfl ?_
       refine St.val (v := (.int .i64 ((a0.Vars.length : Nat) : Int))) (Yields.lenSlice tu26 rfl) trivial rfl rfl ?_
       by_cases q115 : ((a0.A.length : Nat) : Int) = ((a0.Vars.length : Nat) : Int)
       ·replace hm := iT hm q115
        refine St.val (v := (.bool true)) (Yields.is q115 (Yields.eq rfl rfl)) trivial rfl rfl ?_
        refine St.val (v := (.bool true)) (Yields.move rfl) trivial rfl rfl ?_
        refine St.val (v := (.pointer (some ⟨b4, 4, none⟩))) (Yields.fieldAddr (v := (.pointer (some ⟨b4, 4, none⟩))) rfl (fun _ => by kernel_rfl)) rfl rfl rfl ?_
        refine St.val (v := (.slice pA0_2 a0.Rows.length pc0_2)) (Yields.load rfl (Loads.H1 0 rfl tc22 rfl)) rfl rfl rfl ?_
        refine St.val (v := (.int .i64 ((a0.Rows.length : Nat) : Int))) (Yields.lenSlice tu22 rfl) rfl rfl rfl ?_
        refine St.val (v := (.bool (decide (((a0.Rows.length : Nat) : Int) = 0)))) (Yields.eq rfl rfl) rfl rfl rfl ?_
        refine St.val (v := (.bool (decide (((a0.Rows.length : Nat) : Int) = 0)))) (Yields.pick_t rfl rfl) trivial rfl rfl ?_
        refine St.val (v := (.bool (decide (((a0.Rows.length : Nat) : Int) = 0)))) (Yields.assign rfl) trivial rfl rfl ?_
        refine St.nil ?_
        obtain rfl := sI hm
        intro a w ha hs
        exact ⟨ha.covers ⟨rfl, trivial⟩, (Among.of Among.none _ hs)⟩
       ·replace hm := iF hm q115
        refine St.val (v := (.bool false)) (Yields.isnt q115 (Yields.eq rfl rfl)) trivial rfl rfl ?_
        refine St.val (v := (.bool false)) (Yields.move rfl) trivial rfl rfl ?_
        refine St.unwanted rfl rfl rfl ?_
        refine St.unwanted rfl rfl rfl ?_
        refine St.unwanted rfl rfl rfl ?_
        refine St.unwanted rfl rfl rfl ?_
        refine St.val (v := (.bool false)) (Yields.pick_f rfl rfl) trivial rfl rfl ?_
        refine St.val (v := (.bool false)) (Yields.assign rfl) trivial rfl rfl ?_
        refine St.nil ?_
        obtain rfl := sI hm
        intro a w ha hs
        exact ⟨ha.covers ⟨rfl, trivial⟩, (Among.of Among.none _ hs)⟩
      ·rintro a w ⟨ha, hs⟩
       replace hm := hk114
       refine St.use (?_ : St _ _ _ _ _ _) ha hs
       clear ha hs a w
       refine St.ret ?_
       refine St.thenret ?_
       obtain rfl := sI hm
       exact St.doneR1 rfl rfl ⟨rfl, rfl⟩ (fun w hs => Among.of Among.none w hs)
     ·intro q116
      replace q116 : ¬ (a0.Kind ≤ 2) := of_decide_eq_false q116
      replace hm := iF hm q116
      refine St.skip ?_
      refine St.norm ?_
      obtain ⟨z117, hm, hk118⟩ := bS hm
      refine St.cutI (fun a w => Has Try.f49.ntmps a [(4, .bool z117)] ∧ Sat ⟨w0, fun b => m0 b ≠ none, F⟩ F63 [] w) ?_ ?_
      ·skip
       refine St.region ?_
       refine St.val (v := (.pointer (some ⟨b4, 2, none⟩))) (Yields.fieldAddr (v := (.pointer (some ⟨b4, 2, none⟩))) rfl (fun _ => by kernel_rfl)) trivial rfl rfl ?_
       refine St.val (v := (.slice pA0_1 a0.A.length pc0_1)) (Yields.load rfl (Loads.H1 0 rfl tc26 rfl)) trivial rfl rfl ?_
       refine St.val (v := (.int .i64 ((a0.A.length : Nat) : Int))) (Yields.lenSlice tu26 rfl) trivial rfl rfl ?_
       by_cases q119 : ((a0.A.length : Nat) : Int) = 0
       ·replace hm := iT hm q119
        refine St.val (v := (.bool true)) (Yields.is q119 (Yields.eq rfl rfl)) trivial rfl rfl ?_
        refine St.val (v := (.bool true)) (Yields.move rfl) trivial rfl rfl ?_
        refine St.val (v := (.pointer (some ⟨b4, 3, none⟩))) (Yields.fieldAddr (v := (.pointer (some ⟨b4, 3, none⟩))) rfl (fun _ => by kernel_rfl)) rfl rfl rfl ?_
        refine St.val (v := (.int .i64 a0.B)) (Yields.load rfl (Loads.H1 0 rfl tc3 rfl)) rfl rfl rfl ?_
        by_cases q120 : a0.B = 0
        ·replace hm := iT hm q120
         refine St.val (v := (.bool true)) (Yields.is q120 (Yields.eq rfl rfl)) rfl rfl rfl ?_
         refine St.val (v := (.bool true)) (Yields.pick_t rfl rfl) trivial rfl rfl ?_
         refine St.val (v := (.bool true)) (Yields.move rfl) trivial rfl rfl ?_
         refine St.val (v := (.pointer (some ⟨b4, 0, none⟩))) (Yields.fieldAddr (v := (.pointer (some ⟨b4, 0, none⟩))) rfl (fun _ => by kernel_rfl)) rfl rfl rfl ?_
         refine St.val (v := (.int .i64 a0.Kind)) (Yields.load rfl (Loads.H1 0 rfl tc3 rfl)) rfl rfl rfl ?_
         by_cases q121 : a0.Kind = 4
         ·replace hm := iT hm q121
          refine St.val (v := (.bool true)) (Yields.is q121 (Yields.eq rfl rfl)) rfl rfl rfl ?_
          refine St.val (v := (.bool true)) (Yields.move rfl) rfl rfl rfl ?_
          refine St.unwanted rfl rfl rfl ?_
          refine St.unwanted rfl rfl rfl ?_
          refine St.unwanted rfl rfl rfl ?_
          refine St.unwanted rfl rfl rfl ?_
          refine St.val (v := (.bool true)) (Yields.pick_t rfl rfl) rfl rfl rfl ?_
          refine St.val (v := (.bool true)) (Yields.pick_t rfl rfl) trivial rfl rfl ?_
          refine St.val (v := (.bool true)) (Yields.assign rfl) trivial rfl rfl ?_
          refine St.nil ?_
          obtain rfl := sI hm
          intro a w ha hs
          exact ⟨ha.covers ⟨rfl, trivial⟩, (Among.of Among.none _ hs)⟩
         ·replace hm := iF hm q121
          refine St.val (v := (.bool false)) (Yields.isnt q121 (Yields.eq rfl rfl)) rfl rfl rfl ?_
          refine St.val (v := (.bool false)) (Yields.move rfl) rfl rfl rfl ?_
          refine St.val (v := (.pointer (some ⟨b4, 4, none⟩))) (Yields.fieldAddr (v := (.pointer (some ⟨b4, 4, none⟩))) rfl (fun _ => by kernel_rfl)) rfl rfl rfl ?_
          refine St.val (v := (.slice pA0_2 a0.Rows.length pc0_2)) (Yields.load rfl (Loads.H1 0 rfl tc22 rfl)) rfl rfl rfl ?_
          refine St.val (v := (.int .i64 ((a0.Rows.length : Nat) : Int))) (Yields.lenSlice tu22 rfl) rfl rfl rfl ?_
          refine St.val (v := (.bool (decide (((a0.Rows.length : Nat) : Int) = 0)))) (Yields.eq rfl rfl) rfl rfl rfl ?_
          refine St.val (v := (.bool (decide (((a0.Rows.length : Nat) : Int) = 0)))) (Yields.pick_f rfl rfl) rfl rfl rfl ?_
          refine St.val (v := (.bool (decide (((a0.Rows.length : Nat) : Int) = 0)))) (Yields.pick_t rfl rfl) trivial rfl rfl ?_
          refine St.val (v := (.bool (decide (((a0.Rows.length : Nat) : Int) = 0)))) (Yields.assign rfl) trivial rfl rfl ?_
          refine St.nil ?_
          obtain rfl := sI hm
          intro a w ha hs
          exact ⟨ha.covers ⟨rfl, trivial⟩, (Among.of Among.none _ hs)⟩
        ·replace hm := iF hm q120
         refine St.val (v := (.bool false)) (Yields.isnt q120 (Yields.eq rfl rfl)) rfl rfl rfl ?_
         refine St.val (v := (.bool false)) (Yields.pick_t rfl rfl) trivial rfl rfl ?_
         refine St.val (v := (.bool false)) (Yields.move rfl) trivial rfl rfl ?_
         refine St.unwanted rfl rfl rfl ?_
         refine St.unwanted rfl rfl rfl ?_
         refine St.unwanted rfl rfl rfl ?_
         refine St.unwanted rfl rfl rfl ?_
         refine St.unwanted trivial rfl rfl ?_
         refine St.unwanted trivial rfl rfl ?_
         refine St.unwanted trivial rfl rfl ?_
         refine St.unwanted trivial rfl rfl ?_
         refine St.unwanted rfl rfl rfl ?_
         refine St.val (v := (.bool false)) (Yields.pick_f rfl rfl) trivial rfl rfl ?_
         refine St.val (v := (.bool false)) (Yields.assign rfl) trivial rfl rfl ?_
         refine St.nil ?_
         obtain rfl := sI hm
         intro a w ha hs
         exact ⟨ha.covers ⟨rfl, trivial⟩, (Among.of Among.none _ hs)⟩
       ·replace hm := iF hm q119
        refine St.val (v := (.bool false)) (Yields.isnt q119 (Yields.eq rfl rfl)) trivial rfl rfl ?_
        refine St.val (v := (.bool false)) (Yields.move rfl) trivial rfl rfl ?_
        refine St.unwanted rfl rfl rfl ?_
        refine St.unwanted rfl rfl rfl ?_
        refine St.unwanted rfl rfl rfl ?_
        refine St.val (v := (.bool false)) (Yields.pick_f rfl rfl) trivial rfl rfl ?_
        refine St.val (v := (.bool false)) (Yields.move rfl) trivial rfl rfl ?_
        refine St.unwanted rfl rfl rfl ?_
        refine St.unwanted rfl rfl rfl ?_
        refine St.unwanted rfl rfl rfl ?_
        refine St.unwanted rfl rfl rfl ?_
        refine St.unwanted trivial rfl rfl ?_
        refine St.unwanted trivial rfl rfl ?_
        refine St.unwanted trivial rfl rfl ?_
        refine St.unwanted trivial rfl rfl ?_
        refine St.unwanted rfl rfl rfl ?_
        refine St.val (v := (.bool false)) (Yields.pick_f rfl rfl) trivial rfl rfl ?_
        refine St.val (v := (.bool false)) (Yields.assign rfl) trivial rfl rfl ?_
        refine St.nil ?_
        obtain rfl := sI hm
        intro a w ha hs
        exact ⟨ha.covers ⟨rfl, trivial⟩, (Among.of Among.none _ hs)⟩
      ·rintro a w ⟨ha, hs⟩
       replace hm := hk118
       refine St.use (?_ : St _ _ _ _ _ _) ha hs
       clear ha hs a w
       refine St.ret ?_
       obtain rfl := sI hm
       exact St.doneR1 rfl rfl ⟨rfl, rfl⟩ (fun w hs => Among.of Among.none w hs)

theorem m_ref11_Validate_sp {F : PH} {g : Nat} {a0 : DProblem} {pA0_0 : Option Addr} {pc0_0 : Nat} {pA0_1 : Option Addr} {pc0_1 : Nat} (ph0_0 : Fsl 24 (Kind.sl 8 (Kind.int .i64)) F pA0_0 pc0_0 a0.Doms) (ph0_1 : Fsl 88 KDLimit F pA0_1 pc0_1 a0.Limits) {r : Int} (hm : m_ref11_Validate g a0 = some r) :
  CallSp Try.prog 24 #[.agg #[.slice pA0_0 a0.Doms.length pc0_0, .slice pA0_1 a0.Limits.length pc0_1]] F [] (fun u F' H' => u = (.int .i64 r) ∧ H' = []) := by
 unfold m_ref11_Validate at hm
 refine CallSp.enter (args := [.agg #[.slice pA0_0 a0.Doms.length pc0_0, .slice pA0_1 a0.Limits.length pc0_1]]) Try.func24 rfl rfl ?_
 intro w0 m0 hm0
 refine St.seq ?_
 refine St.region ?_
 refine St.box rfl trivial rfl ?_
 intro b3
 refine St.val (v := (.int .i64 0)) (Yields.assign rfl) trivial rfl rfl ?_
 refine St.nil ?_
 refine St.norm ?_
 refine St.seq ?_
 refine St.seq ?_
 refine St.region ?_
 refine St.val (v := (.agg #[.slice pA0_0 a0.Doms.length pc0_0, .slice pA0_1 a0.Limits.length pc0_1])) (Yields.load rfl (Loads.Hk (vs := [.slice pA0_0 a0.Doms.length pc0_0, .slice pA0_1 a0.Limits.length pc0_1]) 0 rfl ta25 rfl rfl)) trivial rfl rfl ?_
 obtain ⟨q4, e5, hm⟩ := bS hm
 refine St.call [blk b3 (.cells #[.slice pA0_0 a0.Doms.length pc0_0, .slice pA0_1 a0.Limits.length pc0_1] 25 (0, 0))] (m_ref11_isLarge_sp (a0 := a0) ph0_0 ph0_1 e5) rfl (fun _ ha => ev1 ha rfl) rfl en46 rfl rfl trivial ?_
 rintro _ F6 _ ⟨rfl, rfl⟩ l7
 refine St.nil ?_
 refine St.norm ?_
 refine St.cond_b rfl ?_ ?_
 ·intro q8
  replace q8 : q4 = true := q8
  replace hm := iT hm q8
  refine St.seq ?_
  refine St.region ?_
  refine St.val (v := (.int .i64 3)) (Yields.assign rfl) trivial rfl rfl ?_
  refine St.nil ?_
  refine St.norm ?_
  refine St.ret ?_
  refine St.thenret ?_
  obtain rfl := sI hm
  exact St.doneR1 rfl rfl ⟨rfl, rfl⟩ (fun w hs => Among.of Among.none w hs)
 ·intro q9
  replace q9 : ¬ (q4 = true) := bf q9
  replace hm := iF hm q9
  refine St.skip ?_
  refine St.norm ?_
  obtain ⟨o13, hm, ho14⟩ := jS hm
  refine St.cutI (fun a w => ∃ z10 : Unit, o13 = .inl z10 ∧ ∃ (F11 : PH), PH.le F6 F11 ∧ Has Try.f24.ntmps a [(1, .pointer (some ⟨b3, 0, none⟩))] ∧ Sat ⟨w0, fun b => m0 b ≠ none, F⟩ F11 [blk b3 (.cells #[.slice pA0_0 a0.Doms.length pc0_0, .slice pA0_1 a0.Limits.length pc0_1] 25 (0, 0))] w) ?_ ?_
  ·skip
   refine St.seq ?_
   refine St.region ?_
   refine St.val (v := (.int .i64 0)) (Yields.assign rfl) trivial rfl rfl ?_
   refine St.nil ?_
   refine St.norm ?_
   refine St.block ?_
   refine St.loopM hm (fun s17 a w => ∃ (F21 : PH), PH.le F6 F21 ∧ Has Try.f24.ntmps a [(1, .pointer (some ⟨b3, 0, none⟩)), (3, .int .i64 ((s17 : Nat) : Int))] ∧ Sat ⟨w0, fun b => m0 b ≠ none, F⟩ F21 [blk b3 (.cells #[.slice pA0_0 a0.Doms.length pc0_0, .slice pA0_1 a0.Limits.length pc0_1] 25 (0, 0))] w) ?_ ?_
   ·skip
    intro a w ha hs
    exact ⟨F6, (PH.le_refl _), ha.covers ⟨rfl, rfl, trivial⟩, (Among.of (Among.take 0 rfl rfl Among.none) _ hs)⟩
   ·rintro s17 o18 co19 hm ho20 a w ⟨F21, l22, ha, hs⟩
    refine St.use (?_ : St _ _ _ _ _ _) ha hs
    clear ha hs a w
    refine St.seq ?_
    refine St.seq ?_
    refine St.region ?_
    refine St.val (v := (.int .i64 ((s17 : Nat) : Int))) (Yields.move rfl) trivial rfl rfl ?_
    refine St.val (v := (.pointer (some ⟨b3, 0, none⟩))) (Yields.fieldAddr (v := (.pointer (some ⟨b3, 0, none⟩))) rfl (fun _ => by kernel_rfl)) trivial rfl rfl ?_
    refine St.val (v := (.slice pA0_0 a0.Doms.length pc0_0)) (Yields.load rfl (Loads.H1 0 rfl tc22 rfl)) trivial rfl rfl ?_
    refine St.val (v := (.int .i64 ((a0.Doms.length : Nat) : Int))) (Yields.lenSlice tu22 rfl) trivial rfl rfl ?_
    refine St.val (v := (.bool (decide (((s17 : Nat) : Int) < ((a0.Doms.length : Nat) : Int))))) (Yields.lt rfl rfl) trivial rfl rfl ?_
    refine St.nil ?_
    refine St.norm ?_
    refine St.cond_b rfl ?_ ?_
    ·intro q23
     replace q23 : ((s17 : Nat) : Int) < ((a0.Doms.length : Nat) : Int) := of_decide_eq_true q23
     replace hm := iT hm q23
     refine St.skip ?_
     refine St.norm ?_
     refine St.seq ?_
     refine St.block ?_
     obtain ⟨z24, hm, hk27⟩ := bS hm
     refine St.cutI (fun a w => ∃ (F25 : PH), PH.le F21 F25 ∧ Has Try.f24.ntmps a [(1, .pointer (some ⟨b3, 0, none⟩)), (3, .int .i64 ((s17 : Nat) : Int)), (29, .bool z24)] ∧ Sat ⟨w0, fun b => m0 b ≠ none, F⟩ F25 [blk b3 (.cells #[.slice pA0_0 a0.Doms.length pc0_0, .slice pA0_1 a0.Limits.length pc0_1] 25 (0, 0))] w) ?_ ?_
     ·skip
      refine St.region ?_
      refine St.val (v := (.pointer (some ⟨b3, 0, none⟩))) (Yields.fieldAddr (v := (.pointer (some ⟨b3, 0, none⟩))) rfl (fun _ => by kernel_rfl)) trivial rfl rfl ?_
      refine St.val (v := (.slice pA0_0 a0.Doms.length pc0_0)) (Yields.load rfl (Loads.H1 0 rfl tc22 rfl)) trivial rfl rfl ?_
      refine St.val (v := (.int .i64 ((s17 : Nat) : Int))) (Yields.move rfl) trivial rfl rfl ?_
      obtain ⟨x28, e29, hm⟩ := bS hm
      obtain ⟨p30, cs31, jx32, R33, k34⟩ := (Fsl.mono (PH.le_trans l7 l22) ph0_0).nidx e29
      obtain ⟨A35, c36, rfl, h37⟩ := R33
      refine St.val (v := (.pointer (some p30))) (Yields.idx jx32 ts22 rfl rfl) trivial rfl rfl ?_
      refine St.val (v := (.slice A35 x28.length c36)) (Yields.load rfl (Loads.Fat k34 tc26 rfl)) trivial rfl rfl ?_
      obtain ⟨q39, e40, hm⟩ := bS hm
      refine St.call [blk b3 (.cells #[.slice pA0_0 a0.Doms.length pc0_0, .slice pA0_1 a0.Limits.length pc0_1] 25 (0, 0))] (m_ref11_isRow_sp h37 e40) rfl (fun _ ha => ev1 ha rfl) rfl en47 rfl rfl trivial ?_
      rintro _ F41 _ ⟨rfl, rfl⟩ l42
      by_cases q43 : q39 = true
      ·replace hm := iT hm q43
       have hb44 : (q39) = true := q43
       try rw [hb44]
       refine St.val (v := (.bool false)) (Yields.not_t rfl) trivial rfl rfl ?_
       refine St.val (v := (.bool false)) (Yields.move rfl) trivial rfl rfl ?_
       refine St.val (v := (.pointer (some ⟨b3, 0, none⟩))) (Yields.fieldAddr (v := (.pointer (some ⟨b3, 0, none⟩))) rfl (fun _ => by kernel_rfl)) rfl rfl rfl ?_
       refine St.val (v := (.slice pA0_0 a0.Doms.length pc0_0)) (Yields.load rfl (Loads.H1 0 rfl tc22 rfl)) rfl rfl rfl ?_
       refine St.val (v := (.int .i64 ((s17 : Nat) : Int))) (Yields.move rfl) rfl rfl rfl ?_
       obtain ⟨x45, e46, hm⟩ := bS hm
       obtain ⟨p47, cs48, jx49, R50, k51⟩ := (Fsl.mono (PH.le_trans l7 (PH.le_trans l22 l42)) ph0_0).nidx e46
       obtain ⟨A52, c53, rfl, h54⟩ := R50
       refine St.val (v := (.pointer (some p47))) (Yields.idx jx49 ts22 rfl rfl) rfl rfl rfl ?_
       refine St.val (v := (.slice A52 x45.length c53)) (Yields.load rfl (Loads.Fat k51 tc26 rfl)) rfl rfl rfl ?_
       obtain ⟨q56, e57, hm⟩ := bS hm
       refine St.call [blk b3 (.cells #[.slice pA0_0 a0.Doms.length pc0_0, .slice pA0_1 a0.Limits.length pc0_1] 25 (0, 0))] (m_ref11_areNumbers_sp h54 e57) rfl (fun _ ha => ev1 ha rfl) rfl en48 rfl rfl rfl ?_
       rintro _ F58 _ ⟨rfl, rfl⟩ l59
       refine St.val (v := (.bool (!q56))) (Yields.not rfl) rfl rfl rfl ?_
       refine St.val (v := (.bool (!q56))) (Yields.pick_f rfl rfl) trivial rfl rfl ?_
       refine St.nil ?_
       obtain rfl := sI hm
       intro a w ha hs
       exact ⟨F58, (PH.le_trans l42 l59), ha.covers ⟨rfl, rfl, rfl, trivial⟩, (Among.of (Among.take 0 rfl rfl Among.none) _ hs)⟩
      ·replace hm := iF hm q43
       have hb60 : (q39) = false := eq_false_of_ne_true q43
       try rw [hb60]
       refine St.val (v := (.bool true)) (Yields.not_f rfl) trivial rfl rfl ?_
       refine St.val (v := (.bool true)) (Yields.move rfl) trivial rfl rfl ?_
       refine St.unwanted rfl rfl rfl ?_
       refine St.unwanted rfl rfl rfl ?_
       refine St.unwanted rfl rfl rfl ?_
       refine St.unwanted rfl rfl rfl ?_
       refine St.unwanted rfl rfl rfl ?_
       refine St.unwanted rfl rfl rfl ?_
       refine St.unwanted rfl rfl rfl ?_
       refine St.val (v := (.bool true)) (Yields.pick_t rfl rfl) trivial rfl rfl ?_
       refine St.nil ?_
       obtain rfl := sI hm
       intro a w ha hs
       exact ⟨F41, l42, ha.covers ⟨rfl, rfl, rfl, trivial⟩, (Among.of (Among.take 0 rfl rfl Among.none) _ hs)⟩
     ·rintro a w ⟨F25, l26, ha, hs⟩
      replace hm := hk27
      refine St.use (?_ : St _ _ _ _ _ _) ha hs
      clear ha hs a w
      refine St.cond_b rfl ?_ ?_
      ·intro q61
       replace q61 : z24 = true := q61
       replace hm := iT hm q61
       refine St.seq ?_
       refine St.region ?_
       refine St.val (v := (.int .i64 1)) (Yields.assign rfl) trivial rfl rfl ?_
       refine St.nil ?_
       refine St.norm ?_
       refine St.ret ?_
       refine St.inret ?_
       refine St.thenret ?_
       refine St.thenret ?_
       refine St.inret ?_
       refine St.thenret ?_
       obtain rfl := sI hm
       obtain rfl := aR ho20
       obtain rfl := aR ho14
       exact St.doneR1 rfl rfl ⟨rfl, rfl⟩ (fun w hs => Among.of Among.none w hs)
      ·intro q62
       replace q62 : ¬ (z24 = true) := bf q62
       replace hm := iF hm q62
       refine St.skip ?_
       refine St.innorm ?_
       refine St.norm ?_
       refine St.region ?_
       refine St.val (v := (.int .i64 ((s17 : Nat) : Int))) (Yields.move rfl) trivial rfl rfl ?_
       refine St.val (v := (.int .i64 ((s17 + 1 : Nat) : Int))) (Yields.addn (j := 1) rfl rfl rfl (by have q_0 := q23; have q_1 := ph0_0.bnd.2; omega)) trivial rfl rfl ?_
       refine St.val (v := (.int .i64 ((s17 + 1 : Nat) : Int))) (Yields.assign rfl) trivial rfl rfl ?_
       refine St.nil ?_
       refine St.norm ?_
       obtain rfl := sI hm
       intro a w ha hs
       exact ⟨s17 + 1, aL ho20, F25, (PH.le_trans l22 l26), ha.covers ⟨rfl, rfl, trivial⟩, (Among.of (Among.take 0 rfl rfl Among.none) _ hs)⟩
    ·intro q63
     replace q63 : ¬ (((s17 : Nat) : Int) < ((a0.Doms.length : Nat) : Int)) := of_decide_eq_false q63
     replace hm := iF hm q63
     refine St.exit ?_
     refine St.thenexit ?_
     refine St.thenexit ?_
     refine St.inexit ?_
     obtain rfl := sI hm
     obtain rfl := aR ho20
     intro a w ha hs
     exact ⟨(), rfl, F21, l22, ha.covers ⟨rfl, trivial⟩, (Among.of (Among.take 0 rfl rfl Among.none) _ hs)⟩
  ·rintro a w ⟨z10, rfl, F11, l12, ha, hs⟩
   replace hm := aL ho14
   refine St.use (?_ : St _ _ _ _ _ _) ha hs
   clear ha hs a w
   obtain ⟨o67, hm, ho68⟩ := jS hm
   refine St.cutI (fun a w => ∃ z64 : Unit, o67 = .inl z64 ∧ ∃ (F65 : PH), PH.le F11 F65 ∧ Has Try.f24.ntmps a [] ∧ Sat ⟨w0, fun b => m0 b ≠ none, F⟩ F65 [] w) ?_ ?_
   ·skip
    refine St.seq ?_
    refine St.region ?_
    refine St.val (v := (.int .i64 0)) (Yields.assign rfl) trivial rfl rfl ?_
    refine St.nil ?_
    refine St.norm ?_
    refine St.block ?_
    refine St.loopM hm (fun s71 a w => ∃ (F75 : PH), PH.le F11 F75 ∧ Has Try.f24.ntmps a [(1, .pointer (some ⟨b3, 0, none⟩)), (4, .int .i64 ((s71 : Nat) : Int))] ∧ Sat ⟨w0, fun b => m0 b ≠ none, F⟩ F75 [blk b3 (.cells #[.slice pA0_0 a0.Doms.length pc0_0, .slice pA0_1 a0.Limits.length pc0_1] 25 (0, 0))] w) ?_ ?_
    ·skip
     intro a w ha hs
     exact ⟨F11, (PH.le_refl _), ha.covers ⟨rfl, rfl, trivial⟩, (Among.of (Among.take 0 rfl rfl Among.none) _ hs)⟩
    ·rintro s71 o72 co73 hm ho74 a w ⟨F75, l76, ha, hs⟩
     refine St.use (?_ : St _ _ _ _ _ _) ha hs
     clear ha hs a w
     refine St.seq ?_
     refine St.seq ?_
     refine St.region ?_
     refine St.val (v := (.int .i64 ((s71 : Nat) : Int))) (Yields.move rfl) trivial rfl rfl ?_
     refine St.val (v := (.pointer (some ⟨b3, 1, none⟩))) (Yields.fieldAddr (v := (.pointer (some ⟨b3, 1, none⟩))) rfl (fun _ => by kernel_rfl)) trivial rfl rfl ?_
     refine St.val (v := (.slice pA0_1 a0.Limits.length pc0_1)) (Yields.load rfl (Loads.H1 0 rfl tc23 rfl)) trivial rfl rfl ?_
     refine St.val (v := (.int .i64 ((a0.Limits.length : Nat) : Int))) (Yields.lenSlice tu23 rfl) trivial rfl rfl ?_
     refine St.val (v := (.bool (decide (((s71 : Nat) : Int) < ((a0.Limits.length : Nat) : Int))))) (Yields.lt rfl rfl) trivial rfl rfl ?_
     refine St.nil ?_
     refine St.norm ?_
     refine St.cond_b rfl ?_ ?_
     ·intro q77
      replace q77 : ((s71 : Nat) : Int) < ((a0.Limits.length : Nat) : Int) := of_decide_eq_true q77
      replace hm := iT hm q77
      refine St.skip ?_
      refine St.norm ?_
      refine St.seq ?_
      refine St.block ?_
      refine St.seq ?_
      refine StD.start [8] [blk b3 (.cells #[.slice pA0_0 a0.Doms.length pc0_0, .slice pA0_1 a0.Limits.length pc0_1] 25 (0, 0))] hmix ?_
      refine StD.takeP (i := 0) (v := (.pointer (some ⟨b3, 1, none⟩))) rfl (fun _ => Yields.fieldAddr (v := (.pointer (some ⟨b3, 1, none⟩))) rfl (fun _ => by kernel_rfl)) rfl rfl trivial (by rintro _ _ _ ⟨_, _, _, _, h, _⟩; cases h) (by kernel_rfl) (listed' := #[true, false, false, false, false, false, false, false, false, false]) rfl ?_
      refine StD.take [0, 2, 3, 5, 7, 9] (i := 1) (v := (.slice pA0_1 a0.Limits.length pc0_1)) rfl (Yields.load rfl (Loads.H1 0 rfl tc23 rfl)) rfl rfl trivial Among.refl (by rintro _ _ _ ⟨_, _, _, _, h, _⟩; cases h) (by kernel_rfl) (listed' := #[true, true, false, false, false, false, false, false, false, false]) rfl ?_
      refine StD.takeP (i := 2) (v := (.int .i64 ((s71 : Nat) : Int))) rfl (fun _ => Yields.move rfl) rfl rfl trivial (by rintro _ _ _ ⟨_, _, _, _, h, _⟩; cases h) (by kernel_rfl) (listed' := #[true, true, true, false, false, false, false, false, false, false]) rfl ?_
      obtain ⟨x78, e79, hm⟩ := bS hm
      obtain ⟨p80, cs81, jx82, R83, k84⟩ := (Fsl.mono (PH.le_trans l7 (PH.le_trans l12 l76)) ph0_1).nidx e79
      obtain ⟨A85, c86, A88, c89, A91, c92, rfl, h87, h90, h93⟩ := DLimit.opn R83
      refine StD.takeP (i := 3) (v := (.pointer (some p80))) rfl (fun _ => Yields.idx jx82 ts23 rfl rfl) rfl rfl trivial (by rintro _ _ _ ⟨_, _, _, _, h, _⟩; cases h) (by kernel_rfl) (listed' := #[true, true, true, true, false, false, false, false, false, false]) rfl ?_
      refine StD.take [0, 2, 3, 5, 7, 9] (i := 4) (v := (.agg #[.int .i64 x78.Kind, .slice A85 x78.Vars.length c86, .slice A88 x78.A.length c89, .int .i64 x78.B, .slice A91 x78.Rows.length c92])) rfl (Yields.load rfl (Loads.Fatn0 k84 ta28)) rfl rfl trivial Among.refl (by rintro _ _ _ ⟨_, _, _, _, h, _⟩; cases h) (by kernel_rfl) (listed' := #[true, true, true, true, true, false, false, false, false, false]) rfl ?_
      refine StD.takeP (i := 5) (v := (.pointer (some ⟨b3, 0, none⟩))) rfl (fun _ => Yields.fieldAddr (v := (.pointer (some ⟨b3, 0, none⟩))) rfl (fun _ => by kernel_rfl)) rfl rfl trivial (by rintro _ _ _ ⟨_, _, _, _, h, _⟩; cases h) (by kernel_rfl) (listed' := #[true, true, true, true, true, true, false, false, false, false]) rfl ?_
      refine StD.take [0, 2, 3, 5, 7, 9] (i := 6) (v := (.slice pA0_0 a0.Doms.length pc0_0)) rfl (Yields.load rfl (Loads.H1 0 rfl tc22 rfl)) rfl rfl trivial Among.refl (by rintro _ _ _ ⟨_, _, _, _, h, _⟩; cases h) (by kernel_rfl) (listed' := #[true, true, true, true, true, true, true, false, false, false]) rfl ?_
      refine StD.takeP (i := 7) (v := (.int .i64 ((a0.Doms.length : Nat) : Int))) rfl (fun _ => Yields.lenSlice tu22 rfl) rfl rfl trivial (by rintro _ _ _ ⟨_, _, _, _, h, _⟩; cases h) (by kernel_rfl) (listed' := #[true, true, true, true, true, true, true, true, false, false]) rfl ?_
      refine StD.only (i := 8) rfl (by kernel_rfl) (listed' := #[true, true, true, true, true, true, true, true, true, false]) rfl ?_
      intro hcl97
      obtain ⟨q98, e99, hm⟩ := bS hm
      refine St.call [blk b3 (.cells #[.slice pA0_0 a0.Doms.length pc0_0, .slice pA0_1 a0.Limits.length pc0_1] 25 (0, 0))] (m_ref11_isLimit_sp (a0 := x78) h87 h90 h93 e99) rfl (fun _ ha => ev2 ha rfl rfl) rfl en49 rfl rfl trivial ?_
      rintro _ F100 _ ⟨rfl, rfl⟩ l101
      refine StD.next hcl97 (fun h => by cases h) ?_
      refine StD.takeP (i := 9) (v := (.bool (!q98))) rfl (fun _ => Yields.not rfl) rfl rfl trivial (by rintro _ _ _ ⟨_, _, _, _, h, _⟩; cases h) (by kernel_rfl) (listed' := #[true, true, true, true, true, true, true, true, true, true]) rfl ?_
      refine StD.done (by kernel_rfl) ?_
      refine St.norm ?_
      refine St.cond_b rfl ?_ ?_
      ·intro q102
       replace q102 : ¬ (q98 = true) := nb_t q102
       replace hm := iF hm q102
       refine St.seq ?_
       refine St.region ?_
       refine St.val (v := (.int .i64 1)) (Yields.assign rfl) trivial rfl rfl ?_
       refine St.nil ?_
       refine St.norm ?_
       refine St.ret ?_
       refine St.inret ?_
       refine St.thenret ?_
       refine St.thenret ?_
       refine St.inret ?_
       refine St.thenret ?_
       obtain rfl := sI hm
       obtain rfl := aR ho74
       obtain rfl := aR ho68
       exact St.doneR1 rfl rfl ⟨rfl, rfl⟩ (fun w hs => Among.of Among.none w hs)
      ·intro q103
       replace q103 : q98 = true := nb_f q103
       replace hm := iT hm q103
       refine St.skip ?_
       refine St.innorm ?_
       refine St.norm ?_
       refine St.region ?_
       refine St.val (v := (.int .i64 ((s71 : Nat) : Int))) (Yields.move rfl) trivial rfl rfl ?_
       refine St.val (v := (.int .i64 ((s71 + 1 : Nat) : Int))) (Yields.addn (j := 1) rfl rfl rfl (by have q_0 := q77; have q_1 := ph0_1.bnd.2; omega)) trivial rfl rfl ?_
       refine St.val (v := (.int .i64 ((s71 + 1 : Nat) : Int))) (Yields.assign rfl) trivial rfl rfl ?_
       refine St.nil ?_
       refine St.norm ?_
       obtain rfl := sI hm
       intro a w ha hs
       exact ⟨s71 + 1, aL ho74, F100, (PH.le_trans l76 l101), ha.covers ⟨rfl, rfl, trivial⟩, (Among.of (Among.take 0 rfl rfl Among.none) _ hs)⟩
     ·intro q104
      replace q104 : ¬ (((s71 : Nat) : Int) < ((a0.Limits.length : Nat) : Int)) := of_decide_eq_false q104
      replace hm := iF hm q104
      refine St.exit ?_
      refine St.thenexit ?_
      refine St.thenexit ?_
      refine St.inexit ?_
      obtain rfl := sI hm
      obtain rfl := aR ho74
      intro a w ha hs
      exact ⟨(), rfl, F75, l76, ha.covers trivial, (Among.of Among.none _ hs)⟩
   ·rintro a w ⟨z64, rfl, F65, l66, ha, hs⟩
    replace hm := aL ho68
    refine St.use (?_ : St _ _ _ _ _ _) ha hs
    clear ha hs a w
    refine St.seq ?_
    refine St.region ?_
    refine St.val (v := (.int .i64 0)) (Yields.assign rfl) trivial rfl rfl ?_
    refine St.nil ?_
    refine St.norm ?_
    refine St.ret ?_
    obtain rfl := sI hm
    exact St.doneR1 rfl rfl ⟨rfl, rfl⟩ (fun w hs => Among.of Among.none w hs)

theorem m_ref11_among_sp {F : PH} {g : Nat} {a0 : List (List Int)} {a1 : DLimit} {pA0 : Option Addr} {pc0 : Nat} {pA1_0 : Option Addr} {pc1_0 : Nat} {pA1_1 : Option Addr} {pc1_1 : Nat} {pA1_2 : Option Addr} {pc1_2 : Nat} (ph0 : Fsl 24 (Kind.sl 8 (Kind.int .i64)) F pA0 pc0 a0) (ph1_0 : Fsl 8 (Kind.int .i64) F pA1_0 pc1_0 a1.Vars) (ph1_1 : Fsl 8 (Kind.int .i64) F pA1_1 pc1_1 a1.A) (ph1_2 : Fsl 24 (Kind.sl 8 (Kind.int .i64)) F pA1_2 pc1_2 a1.Rows) {r : List (List Int)} (hm : m_ref11_among g a0 a1 = some r) :
  CallSp Try.prog 50 #[.slice pA0 a0.length pc0, .agg #[.int .i64 a1.Kind, .slice pA1_0 a1.Vars.length pc1_0, .slice pA1_1 a1.A.length pc1_1, .int .i64 a1.B, .slice pA1_2 a1.Rows.length pc1_2]] F [] (fun u F' H' => ∃ (B0 : Option Addr) (d0 : Nat), u = (.slice B0 r.length d0) ∧ Fsl 24 (Kind.sl 8 (Kind.int .i64)) F' B0 d0 r ∧ H' = []) := by
 unfold m_ref11_among at hm
 refine CallSp.enter (args := [.slice pA0 a0.length pc0, .agg #[.int .i64 a1.Kind, .slice pA1_0 a1.Vars.length pc1_0, .slice pA1_1 a1.A.length pc1_1, .int .i64 a1.B, .slice pA1_2 a1.Rows.length pc1_2]]) Try.func50 rfl rfl ?_
 intro w0 m0 hm0
 refine St.seq ?_
 refine St.region ?_
 refine St.box rfl trivial rfl ?_
 intro b5
 refine St.val (v := (.slice none 0 0)) (Yields.assign rfl) trivial rfl rfl ?_
 refine St.nil ?_
 refine St.norm ?_
 refine St.seq ?_
 refine St.region ?_
 refine St.val (v := (.slice none 0 0)) (Yields.assign rfl) trivial rfl rfl ?_
 refine St.nil ?_
 refine St.norm ?_
 obtain ⟨z6, hm, hk13⟩ := bS hm
 refine St.cutI (fun a w => ∃ (A8 : Option Addr) (c9 : Nat) (cells11 : List Value), Cat (Kind.sl 8 (Kind.int .i64)) F cells11 z6 ∧ Bnd 24 z6 ∧ Has Try.f50.ntmps a [(5, .slice A8 z6.length c9)] ∧ Sat ⟨w0, fun b => m0 b ≠ none, F⟩ F [rowo A8 z6.length c9 26 1 cells11] w) ?_ ?_
 ·skip
  refine St.seq ?_
  refine St.region ?_
  refine St.val (v := (.int .i64 0)) (Yields.assign rfl) trivial rfl rfl ?_
  refine St.nil ?_
  refine St.norm ?_
  refine St.block ?_
  refine St.loopM hm (fun s22 a w => ∃ (A27 : Option Addr) (c28 : Nat) (cells30 : List Value), Cat (Kind.sl 8 (Kind.int .i64)) F cells30 s22.1 ∧ Bnd 24 s22.1 ∧ Has Try.f50.ntmps a [(0, .slice pA0 a0.length pc0), (3, .pointer (some ⟨b5, 0, none⟩)), (5, .slice A27 s22.1.length c28), (6, .int .i64 ((s22.2 : Nat) : Int))] ∧ Sat ⟨w0, fun b => m0 b ≠ none, F⟩ F [blk b5 (.cells #[.int .i64 a1.Kind, .slice pA1_0 a1.Vars.length pc1_0, .slice pA1_1 a1.A.length pc1_1, .int .i64 a1.B, .slice pA1_2 a1.Rows.length pc1_2] 28 (0, 0)), rowo A27 s22.1.length c28 26 1 cells30] w) ?_ ?_
  ·skip
   refine St.rowo_new 26 1 ?_
   intro a w ha hs
   exact ⟨none, 0, [], (show Cat (Kind.sl 8 (Kind.int .i64)) _ [] [] from rfl), Bnd.of_nil, ha.covers ⟨rfl, rfl, rfl, rfl, trivial⟩, (Among.of (Among.take 1 rfl rfl (Among.take 0 rfl rfl Among.none)) _ hs)⟩
  ·rintro s22 o23 co24 hm ho25 a w ⟨A27, c28, cells30, h29, b31, ha, hs⟩
   refine St.use (?_ : St _ _ _ _ _ _) ha hs
   clear ha hs a w
   refine St.seq ?_
   refine St.seq ?_
   refine St.region ?_
   refine St.val (v := (.int .i64 ((s22.2 : Nat) : Int))) (Yields.move rfl) trivial rfl rfl ?_
   refine St.val (v := (.pointer (some ⟨b5, 1, none⟩))) (Yields.fieldAddr (v := (.pointer (some ⟨b5, 1, none⟩))) rfl (fun _ => by kernel_rfl)) trivial rfl rfl ?_
   refine St.val (v := (.slice pA1_0 a1.Vars.length pc1_0)) (Yields.load rfl (Loads.H1 0 rfl tc26 rfl)) trivial rfl rfl ?_
   refine St.val (v := (.int .i64 ((a1.Vars.length : Nat) : Int))) (Yields.lenSlice tu26 rfl) trivial rfl rfl ?_
   refine St.val (v := (.bool (decide (((s22.2 : Nat) : Int) < ((a1.Vars.length : Nat) : Int))))) (Yields.lt rfl rfl) trivial rfl rfl ?_
   refine St.nil ?_
   refine St.norm ?_
   refine St.cond_b rfl ?_ ?_
   ·intro q33
    replace q33 : ((s22.2 : Nat) : Int) < ((a1.Vars.length : Nat) : Int) := of_decide_eq_true q33
    replace hm := iT hm q33
    refine St.skip ?_
    refine St.norm ?_
    refine St.seq ?_
    refine St.block ?_
    refine St.region ?_
    refine St.val (v := (.slice A27 s22.1.length c28)) (Yields.move rfl) trivial rfl rfl ?_
    refine St.val (v := (.slice pA0 a0.length pc0)) (Yields.move rfl) trivial rfl rfl ?_
    refine St.val (v := (.pointer (some ⟨b5, 1, none⟩))) (Yields.fieldAddr (v := (.pointer (some ⟨b5, 1, none⟩))) rfl (fun _ => by kernel_rfl)) trivial rfl rfl ?_
    refine St.val (v := (.slice pA1_0 a1.Vars.length pc1_0)) (Yields.load rfl (Loads.H1 0 rfl tc26 rfl)) trivial rfl rfl ?_
    refine St.val (v := (.int .i64 ((s22.2 : Nat) : Int))) (Yields.move rfl) trivial rfl rfl ?_
    obtain ⟨x34, e35, hm⟩ := bS hm
    obtain ⟨p36, cs37, jx38, R39, k40⟩ := ph1_0.nidx e35
    obtain rfl := R39
    refine St.val (v := (.pointer (some p36))) (Yields.idx jx38 ts26 rfl rfl) trivial rfl rfl ?_
    refine St.val (v := (.int .i64 x34)) (Yields.load rfl (Loads.Fat k40 tc3 rfl)) trivial rfl rfl ?_
    obtain ⟨x41, e42, hm⟩ := bS hm
    obtain ⟨p43, cs44, jx45, R46, k47⟩ := ph0.idx e42
    obtain ⟨A48, c49, rfl, h50⟩ := R46
    refine St.val (v := (.pointer (some p43))) (Yields.idx jx45 ts22 rfl rfl) trivial rfl rfl ?_
    refine St.val (v := (.slice A48 x41.length c49)) (Yields.load rfl (Loads.Fat k47 tc26 rfl)) trivial rfl rfl ?_
    refine St.buildSlice (e := 26) (cells := #[.slice A48 x41.length c49]) (vs := #[(0, .slice A48 x41.length c49)]) (fun _ ha => evp1 ha rfl) (fun _ => by kernel_rfl) rfl trivial ?_
    intro b52
    obtain ⟨x57, e58, hm⟩ := bS hm
    refine St.pushL (R := [blk b52 (.cells #[.slice A48 x41.length c49] 26 (0, 0)), blk b5 (.cells #[.int .i64 a1.Kind, .slice pA1_0 a1.Vars.length pc1_0, .slice pA1_1 a1.A.length pc1_1, .int .i64 a1.B, .slice pA1_2 a1.Rows.length pc1_2] 28 (0, 0))]) (R3 := [blk b5 (.cells #[.int .i64 a1.Kind, .slice pA1_0 a1.Vars.length pc1_0, .slice pA1_1 a1.A.length pc1_1, .int .i64 a1.B, .slice pA1_2 a1.Rows.length pc1_2] 28 (0, 0))]) e58 ts22 rfl rfl rfl rfl rfl 2 rfl rfl 0 rfl 0 rfl rfl h29 ⟨[.slice A48 x41.length c49], _, rfl, ⟨_, _, rfl, h50⟩, rfl⟩ rfl trivial ?_
    intro A53 c54 cells55 h56
    refine St.val (v := (.slice A53 x57.length c54)) (Yields.assign rfl) trivial rfl rfl ?_
    refine St.nil ?_
    refine St.innorm ?_
    refine St.norm ?_
    refine St.region ?_
    refine St.val (v := (.int .i64 ((s22.2 : Nat) : Int))) (Yields.move rfl) trivial rfl rfl ?_
    refine St.val (v := (.int .i64 ((s22.2 + 1 : Nat) : Int))) (Yields.addn (j := 1) rfl rfl rfl (by have q_0 := q33; have q_1 := ph1_0.bnd.2; omega)) trivial rfl rfl ?_
    refine St.val (v := (.int .i64 ((s22.2 + 1 : Nat) : Int))) (Yields.assign rfl) trivial rfl rfl ?_
    refine St.nil ?_
    refine St.norm ?_
    obtain rfl := sI hm
    intro a w ha hs
    exact ⟨(x57, s22.2 + 1), aL ho25, A53, c54, cells55, h56, (Bnd.of_push e58), ha.covers ⟨rfl, rfl, rfl, rfl, trivial⟩, (Among.of (Among.take 1 rfl rfl (Among.take 0 rfl rfl Among.none)) _ hs)⟩
   ·intro q60
    replace q60 : ¬ (((s22.2 : Nat) : Int) < ((a1.Vars.length : Nat) : Int)) := of_decide_eq_false q60
    replace hm := iF hm q60
    refine St.exit ?_
    refine St.thenexit ?_
    refine St.thenexit ?_
    refine St.inexit ?_
    obtain rfl := sI hm
    obtain rfl := aR ho25
    intro a w ha hs
    exact ⟨A27, c28, cells30, h29, b31, ha.covers ⟨rfl, trivial⟩, (Among.of (Among.take 1 rfl rfl Among.none) _ hs)⟩
 ·rintro a w ⟨A8, c9, cells11, h10, b12, ha, hs⟩
  replace hm := hk13
  refine St.use (?_ : St _ _ _ _ _ _) ha hs
  clear ha hs a w
  refine St.seq ?_
  refine St.region ?_
  refine St.val (v := (.slice A8 z6.length c9)) (Yields.move rfl) trivial rfl rfl ?_
  refine St.val (v := (.slice A8 z6.length c9)) (Yields.assign rfl) trivial rfl rfl ?_
  refine St.nil ?_
  refine St.norm ?_
  refine St.ret ?_
  refine St.frz 0 rfl rfl rfl h10 b12 ?_
  intro F61 l62 h63
  obtain rfl := sI hm
  exact St.doneR1 rfl rfl ⟨A8, c9, rfl, h63, rfl⟩ (fun w hs => Among.of Among.none w hs)

theorem m_ref11_Combinations_sp {F : PH} {g : Nat} {a0 : List (List Int)} {pA0 : Option Addr} {pc0 : Nat} (ph0 : Fsl 24 (Kind.sl 8 (Kind.int .i64)) F pA0 pc0 a0) {r : Int} (hm : m_ref11_Combinations g a0 = some r) :
  CallSp Try.prog 30 #[.slice pA0 a0.length pc0] F [] (fun u F' H' => u = (.int .i64 r) ∧ H' = []) := by
 unfold m_ref11_Combinations at hm
 refine CallSp.enter (args := [.slice pA0 a0.length pc0]) Try.func30 rfl rfl ?_
 intro w0 m0 hm0
 refine St.seq ?_
 refine St.region ?_
 refine St.val (v := (.int .i64 0)) (Yields.assign rfl) trivial rfl rfl ?_
 refine St.nil ?_
 refine St.norm ?_
 refine St.seq ?_
 refine St.region ?_
 refine St.val (v := (.int .i64 1)) (Yields.assign rfl) trivial rfl rfl ?_
 refine St.nil ?_
 refine St.norm ?_
 obtain ⟨o3, hm, ho4⟩ := jS hm
 refine St.cutI (fun a w => ∃ z2 : Unit, o3 = .inl z2 ∧ Has Try.f30.ntmps a [(0, .slice pA0 a0.length pc0), (3, .int .i64 1)] ∧ Sat ⟨w0, fun b => m0 b ≠ none, F⟩ F [] w) ?_ ?_
 ·skip
  refine St.seq ?_
  refine St.region ?_
  refine St.val (v := (.int .i64 0)) (Yields.assign rfl) trivial rfl rfl ?_
  refine St.nil ?_
  refine St.norm ?_
  refine St.block ?_
  refine St.loopM hm (fun s6 a w => Has Try.f30.ntmps a [(0, .slice pA0 a0.length pc0), (3, .int .i64 1), (4, .int .i64 ((s6 : Nat) : Int))] ∧ Sat ⟨w0, fun b => m0 b ≠ none, F⟩ F [] w) ?_ ?_
  ·skip
   intro a w ha hs
   exact ⟨ha.covers ⟨rfl, rfl, rfl, trivial⟩, (Among.of Among.none _ hs)⟩
  ·rintro s6 o7 co8 hm ho9 a w ⟨ha, hs⟩
   refine St.use (?_ : St _ _ _ _ _ _) ha hs
   clear ha hs a w
   refine St.seq ?_
   refine St.seq ?_
   refine St.region ?_
   refine St.val (v := (.int .i64 ((s6 : Nat) : Int))) (Yields.move rfl) trivial rfl rfl ?_
   refine St.val (v := (.slice pA0 a0.length pc0)) (Yields.move rfl) trivial rfl rfl ?_
   refine St.val (v := (.int .i64 ((a0.length : Nat) : Int))) (Yields.lenSlice tu22 rfl) trivial rfl rfl ?_
   refine St.val (v := (.bool (decide (((s6 : Nat) : Int) < ((a0.length : Nat) : Int))))) (Yields.lt rfl rfl) trivial rfl rfl ?_
   refine St.nil ?_
   refine St.norm ?_
   refine St.cond_b rfl ?_ ?_
   ·intro q10
    replace q10 : ((s6 : Nat) : Int) < ((a0.length : Nat) : Int) := of_decide_eq_true q10
    replace hm := iT hm q10
    refine St.skip ?_
    refine St.norm ?_
    refine St.seq ?_
    refine St.block ?_
    refine St.seq ?_
    refine St.region ?_
    refine St.val (v := (.slice pA0 a0.length pc0)) (Yields.move rfl) trivial rfl rfl ?_
    refine St.val (v := (.int .i64 ((s6 : Nat) : Int))) (Yields.move rfl) trivial rfl rfl ?_
    obtain ⟨x11, e12, hm⟩ := bS hm
    obtain ⟨p13, cs14, jx15, R16, k17⟩ := ph0.nidx e12
    obtain ⟨A18, c19, rfl, h20⟩ := R16
    refine St.val (v := (.pointer (some p13))) (Yields.idx jx15 ts22 rfl rfl) trivial rfl rfl ?_
    refine St.val (v := (.slice A18 x11.length c19)) (Yields.load rfl (Loads.Fat k17 tc26 rfl)) trivial rfl rfl ?_
    refine St.val (v := (.int .i64 ((x11.length : Nat) : Int))) (Yields.lenSlice tu26 rfl) trivial rfl rfl ?_
    refine St.val (v := (.bool (decide (((x11.length : Nat) : Int) = 0)))) (Yields.eq rfl rfl) trivial rfl rfl ?_
    refine St.nil ?_
    refine St.norm ?_
    refine St.cond_b rfl ?_ ?_
    ·intro q22
     replace q22 : ((x11.length : Nat) : Int) = 0 := of_decide_eq_true q22
     replace hm := iT hm q22
     refine St.seq ?_
     refine St.region ?_
     refine St.val (v := (.int .i64 0)) (Yields.assign rfl) trivial rfl rfl ?_
     refine St.nil ?_
     refine St.norm ?_
     refine St.ret ?_
     refine St.inret ?_
     refine St.thenret ?_
     refine St.thenret ?_
     refine St.inret ?_
     refine St.thenret ?_
     obtain rfl := sI hm
     obtain rfl := aR ho9
     obtain rfl := aR ho4
     exact St.doneR1 rfl rfl ⟨rfl, rfl⟩ (fun w hs => Among.of Among.none w hs)
    ·intro q23
     replace q23 : ¬ (((x11.length : Nat) : Int) = 0) := of_decide_eq_false q23
     replace hm := iF hm q23
     refine St.skip ?_
     refine St.innorm ?_
     refine St.norm ?_
     refine St.region ?_
     refine St.val (v := (.int .i64 ((s6 : Nat) : Int))) (Yields.move rfl) trivial rfl rfl ?_
     refine St.val (v := (.int .i64 ((s6 + 1 : Nat) : Int))) (Yields.addn (j := 1) rfl rfl rfl (by have q_0 := q10; have q_1 := ph0.bnd.2; omega)) trivial rfl rfl ?_
     refine St.val (v := (.int .i64 ((s6 + 1 : Nat) : Int))) (Yields.assign rfl) trivial rfl rfl ?_
     refine St.nil ?_
     refine St.norm ?_
     obtain rfl := sI hm
     intro a w ha hs
     exact ⟨s6 + 1, aL ho9, ha.covers ⟨rfl, rfl, rfl, trivial⟩, (Among.of Among.none _ hs)⟩
   ·intro q24
    replace q24 : ¬ (((s6 : Nat) : Int) < ((a0.length : Nat) : Int)) := of_decide_eq_false q24
    replace hm := iF hm q24
    refine St.exit ?_
    refine St.thenexit ?_
    refine St.thenexit ?_
    refine St.inexit ?_
    obtain rfl := sI hm
    obtain rfl := aR ho9
    intro a w ha hs
    exact ⟨(), rfl, ha.covers ⟨rfl, rfl, trivial⟩, (Among.of Among.none _ hs)⟩
 ·rintro a w ⟨z2, rfl, ha, hs⟩
  replace hm := aL ho4
  refine St.use (?_ : St _ _ _ _ _ _) ha hs
  clear ha hs a w
  obtain ⟨o26, hm, ho27⟩ := jS hm
  refine St.cutI (fun a w => ∃ z25 : Int, o26 = .inl z25 ∧ Has Try.f30.ntmps a [(3, .int .i64 z25)] ∧ Sat ⟨w0, fun b => m0 b ≠ none, F⟩ F [] w) ?_ ?_
  ·skip
   refine St.seq ?_
   refine St.region ?_
   refine St.val (v := (.int .i64 0)) (Yields.assign rfl) trivial rfl rfl ?_
   refine St.nil ?_
   refine St.norm ?_
   refine St.block ?_
   refine St.loopM hm (fun s30 a w => Has Try.f30.ntmps a [(0, .slice pA0 a0.length pc0), (3, .int .i64 s30.1), (5, .int .i64 ((s30.2 : Nat) : Int))] ∧ Sat ⟨w0, fun b => m0 b ≠ none, F⟩ F [] w) ?_ ?_
   ·skip
    intro a w ha hs
    exact ⟨ha.covers ⟨rfl, rfl, rfl, trivial⟩, (Among.of Among.none _ hs)⟩
   ·rintro s30 o31 co32 hm ho33 a w ⟨ha, hs⟩
    refine St.use (?_ : St _ _ _ _ _ _) ha hs
    clear ha hs a w
    refine St.seq ?_
    refine St.seq ?_
    refine St.region ?_
    refine St.val (v := (.int .i64 ((s30.2 : Nat) : Int))) (Yields.move rfl) trivial rfl rfl ?_
    refine St.val (v := (.slice pA0 a0.length pc0)) (Yields.move rfl) trivial rfl rfl ?_
    refine St.val (v := (.int .i64 ((a0.length : Nat) : Int))) (Yields.lenSlice tu22 rfl) trivial rfl rfl ?_
    refine St.val (v := (.bool (decide (((s30.2 : Nat) : Int) < ((a0.length : Nat) : Int))))) (Yields.lt rfl rfl) trivial rfl rfl ?_
    refine St.nil ?_
    refine St.norm ?_
    refine St.cond_b rfl ?_ ?_
    ·intro q34
     replace q34 : ((s30.2 : Nat) : Int) < ((a0.length : Nat) : Int) := of_decide_eq_true q34
     replace hm := iT hm q34
     refine St.skip ?_
     refine St.norm ?_
     refine St.seq ?_
     refine St.block ?_
     refine St.seq ?_
     refine St.region ?_
     refine St.val (v := (.int .i64 s30.1)) (Yields.move rfl) trivial rfl rfl ?_
     refine St.val (v := (.slice pA0 a0.length pc0)) (Yields.move rfl) trivial rfl rfl ?_
     refine St.val (v := (.int .i64 ((s30.2 : Nat) : Int))) (Yields.move rfl) trivial rfl rfl ?_
     obtain ⟨x35, e36, hm⟩ := bS hm
     obtain ⟨p37, cs38, jx39, R40, k41⟩ := ph0.nidx e36
     obtain ⟨A42, c43, rfl, h44⟩ := R40
     refine St.val (v := (.pointer (some p37))) (Yields.idx jx39 ts22 rfl rfl) trivial rfl rfl ?_
     refine St.val (v := (.slice A42 x35.length c43)) (Yields.load rfl (Loads.Fat k41 tc26 rfl)) trivial rfl rfl ?_
     refine St.val (v := (.int .i64 ((x35.length : Nat) : Int))) (Yields.lenSlice tu26 rfl) trivial rfl rfl ?_
     refine St.val (v := (.int .i64 (Mir.w64 (s30.1 * ((x35.length : Nat) : Int))))) (Yields.mulw rfl rfl) trivial rfl rfl ?_
     refine St.val (v := (.int .i64 (Mir.w64 (s30.1 * ((x35.length : Nat) : Int))))) (Yields.assign rfl) trivial rfl rfl ?_
     refine St.nil ?_
     refine St.norm ?_
     refine St.seq ?_
     refine St.region ?_
     refine St.val (v := (.int .i64 (Mir.w64 (s30.1 * ((x35.length : Nat) : Int))))) (Yields.move rfl) trivial rfl rfl ?_
     refine St.val (v := (.bool (decide (Mir.w64 (s30.1 * ((x35.length : Nat) : Int)) > 20000)))) (Yields.gt rfl rfl) trivial rfl rfl ?_
     refine St.nil ?_
     refine St.norm ?_
     refine St.cond_b rfl ?_ ?_
     ·intro q46
      replace q46 : Mir.w64 (s30.1 * ((x35.length : Nat) : Int)) > 20000 := of_decide_eq_true q46
      replace hm := iT hm q46
      refine St.seq ?_
      refine St.region ?_
      refine St.val (v := (.int .i64 20001)) (Yields.assign rfl) trivial rfl rfl ?_
      refine St.nil ?_
      refine St.norm ?_
      refine St.ret ?_
      refine St.inret ?_
      refine St.thenret ?_
      refine St.thenret ?_
      refine St.inret ?_
      refine St.thenret ?_
      obtain rfl := sI hm
      obtain rfl := aR ho33
      obtain rfl := aR ho27
      exact St.doneR1 rfl rfl ⟨rfl, rfl⟩ (fun w hs => Among.of Among.none w hs)
     ·intro q47
      replace q47 : ¬ (Mir.w64 (s30.1 * ((x35.length : Nat) : Int)) > 20000) := of_decide_eq_false q47
      replace hm := iF hm q47
      refine St.skip ?_
      refine St.innorm ?_
      refine St.norm ?_
      refine St.region ?_
      refine St.val (v := (.int .i64 ((s30.2 : Nat) : Int))) (Yields.move rfl) trivial rfl rfl ?_
      refine St.val (v := (.int .i64 ((s30.2 + 1 : Nat) : Int))) (Yields.addn (j := 1) rfl rfl rfl (by have q_0 := q34; have q_1 := ph0.bnd.2; omega)) trivial rfl rfl ?_
      refine St.val (v := (.int .i64 ((s30.2 + 1 : Nat) : Int))) (Yields.assign rfl) trivial rfl rfl ?_
      refine St.nil ?_
      refine St.norm ?_
      obtain rfl := sI hm
      intro a w ha hs
      exact ⟨(Mir.w64 (s30.1 * ((x35.length : Nat) : Int)), s30.2 + 1), aL ho33, ha.covers ⟨rfl, rfl, rfl, trivial⟩, (Among.of Among.none _ hs)⟩
    ·intro q48
     replace q48 : ¬ (((s30.2 : Nat) : Int) < ((a0.length : Nat) : Int)) := of_decide_eq_false q48
     replace hm := iF hm q48
     refine St.exit ?_
     refine St.thenexit ?_
     refine St.thenexit ?_
     refine St.inexit ?_
     obtain rfl := sI hm
     obtain rfl := aR ho33
     intro a w ha hs
     exact ⟨s30.1, rfl, ha.covers ⟨rfl, trivial⟩, (Among.of Among.none _ hs)⟩
  ·rintro a w ⟨z25, rfl, ha, hs⟩
   replace hm := aL ho27
   refine St.use (?_ : St _ _ _ _ _ _) ha hs
   clear ha hs a w
   refine St.seq ?_
   refine St.region ?_
   refine St.val (v := (.int .i64 z25)) (Yields.move rfl) trivial rfl rfl ?_
   refine St.val (v := (.int .i64 z25)) (Yields.assign rfl) trivial rfl rfl ?_
   refine St.nil ?_
   refine St.norm ?_
   refine St.ret ?_
   obtain rfl := sI hm
   exact St.doneR1 rfl rfl ⟨rfl, rfl⟩ (fun w hs => Among.of Among.none w hs)

theorem m_ref11_IsCostly_sp {F : PH} {g : Nat} {a0 : DProblem} {pA0_0 : Option Addr} {pc0_0 : Nat} {pA0_1 : Option Addr} {pc0_1 : Nat} (ph0_0 : Fsl 24 (Kind.sl 8 (Kind.int .i64)) F pA0_0 pc0_0 a0.Doms) (ph0_1 : Fsl 88 KDLimit F pA0_1 pc0_1 a0.Limits) {r : Bool} (hm : m_ref11_IsCostly g a0 = some r) :
  CallSp Try.prog 25 #[.agg #[.slice pA0_0 a0.Doms.length pc0_0, .slice pA0_1 a0.Limits.length pc0_1]] F [] (fun u F' H' => u = (.bool r) ∧ H' = []) := by
 unfold m_ref11_IsCostly at hm
 refine CallSp.enter (args := [.agg #[.slice pA0_0 a0.Doms.length pc0_0, .slice pA0_1 a0.Limits.length pc0_1]]) Try.func25 rfl rfl ?_
 intro w0 m0 hm0
 refine St.seq ?_
 refine St.region ?_
 refine St.box rfl trivial rfl ?_
 intro b3
 refine St.val (v := (.bool false)) (Yields.assign rfl) trivial rfl rfl ?_
 refine St.nil ?_
 refine St.norm ?_
 obtain ⟨o7, hm, ho8⟩ := jS hm
 refine St.cutI (fun a w => ∃ z4 : Unit, o7 = .inl z4 ∧ ∃ (F5 : PH), PH.le F F5 ∧ Has Try.f25.ntmps a [] ∧ Sat ⟨w0, fun b => m0 b ≠ none, F⟩ F5 [] w) ?_ ?_
 ·skip
  refine St.seq ?_
  refine St.region ?_
  refine St.val (v := (.int .i64 0)) (Yields.assign rfl) trivial rfl rfl ?_
  refine St.nil ?_
  refine St.norm ?_
  refine St.block ?_
  refine St.loopM hm (fun s11 a w => ∃ (F15 : PH), PH.le F F15 ∧ Has Try.f25.ntmps a [(1, .pointer (some ⟨b3, 0, none⟩)), (3, .int .i64 ((s11 : Nat) : Int))] ∧ Sat ⟨w0, fun b => m0 b ≠ none, F⟩ F15 [blk b3 (.cells #[.slice pA0_0 a0.Doms.length pc0_0, .slice pA0_1 a0.Limits.length pc0_1] 25 (0, 0))] w) ?_ ?_
  ·skip
   intro a w ha hs
   exact ⟨F, (PH.le_refl _), ha.covers ⟨rfl, rfl, trivial⟩, (Among.of (Among.take 0 rfl rfl Among.none) _ hs)⟩
  ·rintro s11 o12 co13 hm ho14 a w ⟨F15, l16, ha, hs⟩
   refine St.use (?_ : St _ _ _ _ _ _) ha hs
   clear ha hs a w
   refine St.seq ?_
   refine St.seq ?_
   refine St.region ?_
   refine St.val (v := (.int .i64 ((s11 : Nat) : Int))) (Yields.move rfl) trivial rfl rfl ?_
   refine St.val (v := (.pointer (some ⟨b3, 1, none⟩))) (Yields.fieldAddr (v := (.pointer (some ⟨b3, 1, none⟩))) rfl (fun _ => by kernel_rfl)) trivial rfl rfl ?_
   refine St.val (v := (.slice pA0_1 a0.Limits.length pc0_1)) (Yields.load rfl (Loads.H1 0 rfl tc23 rfl)) trivial rfl rfl ?_
   refine St.val (v := (.int .i64 ((a0.Limits.length : Nat) : Int))) (Yields.lenSlice tu23 rfl) trivial rfl rfl ?_
   refine St.val (v := (.bool (decide (((s11 : Nat) : Int) < ((a0.Limits.length : Nat) : Int))))) (Yields.lt rfl rfl) trivial rfl rfl ?_
   refine St.nil ?_
   refine St.norm ?_
   refine St.cond_b rfl ?_ ?_
   ·intro q17
    replace q17 : ((s11 : Nat) : Int) < ((a0.Limits.length : Nat) : Int) := of_decide_eq_true q17
    replace hm := iT hm q17
    refine St.skip ?_
    refine St.norm ?_
    refine St.seq ?_
    refine St.block ?_
    obtain ⟨z18, hm, hk21⟩ := bS hm
    refine St.cutI (fun a w => ∃ (F19 : PH), PH.le F15 F19 ∧ Has Try.f25.ntmps a [(1, .pointer (some ⟨b3, 0, none⟩)), (3, .int .i64 ((s11 : Nat) : Int)), (30, .bool z18)] ∧ Sat ⟨w0, fun b => m0 b ≠ none, F⟩ F19 [blk b3 (.cells #[.slice pA0_0 a0.Doms.length pc0_0, .slice pA0_1 a0.Limits.length pc0_1] 25 (0, 0))] w) ?_ ?_
    ·skip
     refine StD.start [16, 17] [blk b3 (.cells #[.slice pA0_0 a0.Doms.length pc0_0, .slice pA0_1 a0.Limits.length pc0_1] 25 (0, 0))] hmix ?_
     refine StD.takeP (i := 0) (v := (.pointer (some ⟨b3, 1, none⟩))) rfl (fun _ => Yields.fieldAddr (v := (.pointer (some ⟨b3, 1, none⟩))) rfl (fun _ => by kernel_rfl)) rfl rfl trivial (by rintro _ _ _ ⟨_, _, _, _, h, _⟩; cases h) (by kernel_rfl) (listed' := #[true, false, false, false, false, false, false, false, false, false, false, false, false, false, false, false, false, false, false, false]) rfl ?_
     refine StD.take [0, 2, 3, 4, 6, 7, 8, 9, 11, 13, 14, 18, 19] (i := 1) (v := (.slice pA0_1 a0.Limits.length pc0_1)) rfl (Yields.load rfl (Loads.H1 0 rfl tc23 rfl)) rfl rfl trivial Among.refl (by rintro _ _ _ ⟨_, _, _, _, h, _⟩; cases h) (by kernel_rfl) (listed' := #[true, true, false, false, false, false, false, false, false, false, false, false, false, false, false, false, false, false, false, false]) rfl ?_
     refine StD.takeP (i := 2) (v := (.int .i64 ((s11 : Nat) : Int))) rfl (fun _ => Yields.move rfl) rfl rfl trivial (by rintro _ _ _ ⟨_, _, _, _, h, _⟩; cases h) (by kernel_rfl) (listed' := #[true, true, true, false, false, false, false, false, false, false, false, false, false, false, false, false, false, false, false, false]) rfl ?_
     obtain ⟨x22, e23, hm⟩ := bS hm
     obtain ⟨p24, cs25, jx26, R27, k28⟩ := (Fsl.mono l16 ph0_1).nidx e23
     obtain ⟨A29, c30, A32, c33, A35, c36, rfl, h31, h34, h37⟩ := DLimit.opn R27
     refine StD.takeP (i := 3) (v := (.pointer (some p24))) rfl (fun _ => Yields.idx jx26 ts23 rfl rfl) rfl rfl trivial (by rintro _ _ _ ⟨_, _, _, _, h, _⟩; cases h) (by kernel_rfl) (listed' := #[true, true, true, true, false, false, false, false, false, false, false, false, false, false, false, false, false, false, false, false]) rfl ?_
     refine StD.takeP (i := 4) (v := (.pointer (some (p24.add 1)))) rfl (fun _ => Yields.fieldAddr (v := (.pointer (some (p24.add 1)))) rfl (fun _ => by kernel_rfl)) rfl rfl trivial (by rintro _ _ _ ⟨_, _, _, _, h, _⟩; cases h) (by kernel_rfl) (listed' := #[true, true, true, true, true, false, false, false, false, false, false, false, false, false, false, false, false, false, false, false]) rfl ?_
     refine StD.take [0, 2, 3, 4, 6, 7, 8, 9, 11, 13, 14, 18, 19] (i := 5) (v := (.slice A29 x22.Vars.length c30)) rfl (Yields.load rfl (Loads.Fatk 1 k28 tc26 rfl)) rfl rfl trivial Among.refl (by rintro _ _ _ ⟨_, _, _, _, h, _⟩; cases h) (by kernel_rfl) (listed' := #[true, true, true, true, true, true, false, false, false, false, false, false, false, false, false, false, false, false, false, false]) rfl ?_
     refine StD.takeP (i := 6) (v := (.int .i64 ((x22.Vars.length : Nat) : Int))) rfl (fun _ => Yields.lenSlice tu26 rfl) rfl rfl trivial (by rintro _ _ _ ⟨_, _, _, _, h, _⟩; cases h) (by kernel_rfl) (listed' := #[true, true, true, true, true, true, true, false, false, false, false, false, false, false, false, false, false, false, false, false]) rfl ?_
     by_cases q41 : ((x22.Vars.length : Nat) : Int) > 3
     ·replace hm := iT hm q41
      refine StD.takeP (i := 7) (v := (.bool true)) rfl (fun _ => Yields.is q41 (Yields.gt rfl rfl)) rfl rfl trivial (by rintro _ _ _ ⟨_, _, _, _, h, _⟩; cases h) (by kernel_rfl) (listed' := #[true, true, true, true, true, true, true, true, false, false, false, false, false, false, false, false, false, false, false, false]) rfl ?_
      refine StD.takeP (i := 8) (v := (.bool true)) rfl (fun _ => Yields.move rfl) rfl rfl trivial (by rintro _ _ _ ⟨_, _, _, _, h, _⟩; cases h) (by kernel_rfl) (listed' := #[true, true, true, true, true, true, true, true, true, false, false, false, false, false, false, false, false, false, false, false]) rfl ?_
      refine StD.takeP (i := 9) (v := (.pointer (some ⟨b3, 0, none⟩))) rfl (fun _ => Yields.fieldAddr (v := (.pointer (some ⟨b3, 0, none⟩))) rfl (fun _ => by kernel_rfl)) rfl rfl rfl (by rintro _ _ _ ⟨_, _, _, _, h, _⟩; cases h) (by kernel_rfl) (listed' := #[true, true, true, true, true, true, true, true, true, true, false, false, false, false, false, false, false, false, false, false]) rfl ?_
      refine StD.take [0, 2, 3, 4, 6, 7, 8, 9, 11, 13, 14, 18, 19] (i := 10) (v := (.slice pA0_0 a0.Doms.length pc0_0)) rfl (Yields.load rfl (Loads.H1 0 rfl tc22 rfl)) rfl rfl rfl Among.refl (by rintro _ _ _ ⟨_, _, _, _, h, _⟩; cases h) (by kernel_rfl) (listed' := #[true, true, true, true, true, true, true, true, true, true, true, false, false, false, false, false, false, false, false, false]) rfl ?_
      refine StD.takeP (i := 11) (v := (.pointer (some ⟨b3, 1, none⟩))) rfl (fun _ => Yields.fieldAddr (v := (.pointer (some ⟨b3, 1, none⟩))) rfl (fun _ => by kernel_rfl)) rfl rfl rfl (by rintro _ _ _ ⟨_, _, _, _, h, _⟩; cases h) (by kernel_rfl) (listed' := #[true, true, true, true, true, true, true, true, true, true, true, true, false, false, false, false, false, false, false, false]) rfl ?_
      refine StD.take [0, 2, 3, 4, 6, 7, 8, 9, 11, 13, 14, 18, 19] (i := 12) (v := (.slice pA0_1 a0.Limits.length pc0_1)) rfl (Yields.load rfl (Loads.H1 0 rfl tc23 rfl)) rfl rfl rfl Among.refl (by rintro _ _ _ ⟨_, _, _, _, h, _⟩; cases h) (by kernel_rfl) (listed' := #[true, true, true, true, true, true, true, true, true, true, true, true, true, false, false, false, false, false, false, false]) rfl ?_
      refine StD.takeP (i := 13) (v := (.int .i64 ((s11 : Nat) : Int))) rfl (fun _ => Yields.move rfl) rfl rfl rfl (by rintro _ _ _ ⟨_, _, _, _, h, _⟩; cases h) (by kernel_rfl) (listed' := #[true, true, true, true, true, true, true, true, true, true, true, true, true, true, false, false, false, false, false, false]) rfl ?_
      obtain ⟨x42, e43, hm⟩ := bS hm
      obtain ⟨p44, cs45, jx46, R47, k48⟩ := (Fsl.mono l16 ph0_1).nidx e43
      obtain ⟨A49, c50, A52, c53, A55, c56, rfl, h51, h54, h57⟩ := DLimit.opn R47
      refine StD.takeP (i := 14) (v := (.pointer (some p44))) rfl (fun _ => Yields.idx jx46 ts23 rfl rfl) rfl rfl rfl (by rintro _ _ _ ⟨_, _, _, _, h, _⟩; cases h) (by kernel_rfl) (listed' := #[true, true, true, true, true, true, true, true, true, true, true, true, true, true, true, false, false, false, false, false]) rfl ?_
      refine StD.take [0, 2, 3, 4, 6, 7, 8, 9, 11, 13, 14, 18, 19] (i := 15) (v := (.agg #[.int .i64 x42.Kind, .slice A49 x42.Vars.length c50, .slice A52 x42.A.length c53, .int .i64 x42.B, .slice A55 x42.Rows.length c56])) rfl (Yields.load rfl (Loads.Fatn0 k48 ta28)) rfl rfl rfl Among.refl (by rintro _ _ _ ⟨_, _, _, _, h, _⟩; cases h) (by kernel_rfl) (listed' := #[true, true, true, true, true, true, true, true, true, true, true, true, true, true, true, true, false, false, false, false]) rfl ?_
      refine StD.only (i := 16) rfl (by kernel_rfl) (listed' := #[true, true, true, true, true, true, true, true, true, true, true, true, true, true, true, true, true, false, false, false]) rfl ?_
      intro hcl61
      obtain ⟨q62, e63, hm⟩ := bS hm
      refine St.call [blk b3 (.cells #[.slice pA0_0 a0.Doms.length pc0_0, .slice pA0_1 a0.Limits.length pc0_1] 25 (0, 0))] (m_ref11_among_sp (a1 := x42) (Fsl.mono l16 ph0_0) h51 h54 h57 e63) rfl (fun _ ha => ev2 ha rfl rfl) rfl en50 rfl rfl rfl ?_
      rintro _ F64 _ ⟨A66, c67, rfl, h68, rfl⟩ l65
      refine StD.next hcl61 (fun h => by cases h) ?_
      refine StD.only (i := 17) rfl (by kernel_rfl) (listed' := #[true, true, true, true, true, true, true, true, true, true, true, true, true, true, true, true, true, true, false, false]) rfl ?_
      intro hcl70
      obtain ⟨q71, e72, hm⟩ := bS hm
      refine St.call [blk b3 (.cells #[.slice pA0_0 a0.Doms.length pc0_0, .slice pA0_1 a0.Limits.length pc0_1] 25 (0, 0))] (m_ref11_Combinations_sp h68 e72) rfl (fun _ ha => ev1 ha rfl) rfl en30 rfl rfl rfl ?_
      rintro _ F73 _ ⟨rfl, rfl⟩ l74
      refine StD.next hcl70 (fun h => by cases h) ?_
      refine StD.takeP (i := 18) (v := (.bool (decide (q71 > 20000)))) rfl (fun _ => Yields.gt rfl rfl) rfl rfl rfl (by rintro _ _ _ ⟨_, _, _, _, h, _⟩; cases h) (by kernel_rfl) (listed' := #[true, true, true, true, true, true, true, true, true, true, true, true, true, true, true, true, true, true, true, false]) rfl ?_
      refine StD.takeP (i := 19) (v := (.bool (decide (q71 > 20000)))) rfl (fun _ => Yields.pick_t rfl rfl) rfl rfl trivial (by rintro _ _ _ ⟨_, _, _, _, h, _⟩; cases h) (by kernel_rfl) (listed' := #[true, true, true, true, true, true, true, true, true, true, true, true, true, true, true, true, true, true, true, true]) rfl ?_
      refine StD.done (by kernel_rfl) ?_
      obtain rfl := sI hm
      intro a w ha hs
      exact ⟨F73, (PH.le_trans l65 l74), ha.covers ⟨rfl, rfl, rfl, trivial⟩, (Among.of (Among.take 0 rfl rfl Among.none) _ hs)⟩
     ·replace hm := iF hm q41
      refine StD.takeP (i := 7) (v := (.bool false)) rfl (fun _ => Yields.isnt q41 (Yields.gt rfl rfl)) rfl rfl trivial (by rintro _ _ _ ⟨_, _, _, _, h, _⟩; cases h) (by kernel_rfl) (listed' := #[true, true, true, true, true, true, true, true, false, false, false, false, false, false, false, false, false, false, false, false]) rfl ?_
      refine StD.takeP (i := 8) (v := (.bool false)) rfl (fun _ => Yields.move rfl) rfl rfl trivial (by rintro _ _ _ ⟨_, _, _, _, h, _⟩; cases h) (by kernel_rfl) (listed' := #[true, true, true, true, true, true, true, true, true, false, false, false, false, false, false, false, false, false, false, false]) rfl ?_
      refine StD.takeNot (i := 9) rfl rfl rfl rfl (by rintro _ _ _ ⟨_, _, _, _, h, _⟩; cases h) (by kernel_rfl) (listed' := #[true, true, true, true, true, true, true, true, true, true, false, false, false, false, false, false, false, false, false, false]) rfl ?_
      refine StD.takeNot (i := 10) rfl rfl rfl rfl (by rintro _ _ _ ⟨_, _, _, _, h, _⟩; cases h) (by kernel_rfl) (listed' := #[true, true, true, true, true, true, true, true, true, true, true, false, false, false, false, false, false, false, false, false]) rfl ?_
      refine StD.takeNot (i := 11) rfl rfl rfl rfl (by rintro _ _ _ ⟨_, _, _, _, h, _⟩; cases h) (by kernel_rfl) (listed' := #[true, true, true, true, true, true, true, true, true, true, true, true, false, false, false, false, false, false, false, false]) rfl ?_
      refine StD.takeNot (i := 12) rfl rfl rfl rfl (by rintro _ _ _ ⟨_, _, _, _, h, _⟩; cases h) (by kernel_rfl) (listed' := #[true, true, true, true, true, true, true, true, true, true, true, true, true, false, false, false, false, false, false, false]) rfl ?_
      refine StD.takeNot (i := 13) rfl rfl rfl rfl (by rintro _ _ _ ⟨_, _, _, _, h, _⟩; cases h) (by kernel_rfl) (listed' := #[true, true, true, true, true, true, true, true, true, true, true, true, true, true, false, false, false, false, false, false]) rfl ?_
      refine StD.takeNot (i := 14) rfl rfl rfl rfl (by rintro _ _ _ ⟨_, _, _, _, h, _⟩; cases h) (by kernel_rfl) (listed' := #[true, true, true, true, true, true, true, true, true, true, true, true, true, true, true, false, false, false, false, false]) rfl ?_
      refine StD.takeNot (i := 15) rfl rfl rfl rfl (by rintro _ _ _ ⟨_, _, _, _, h, _⟩; cases h) (by kernel_rfl) (listed' := #[true, true, true, true, true, true, true, true, true, true, true, true, true, true, true, true, false, false, false, false]) rfl ?_
      refine StD.only (i := 16) rfl (by kernel_rfl) (listed' := #[true, true, true, true, true, true, true, true, true, true, true, true, true, true, true, true, true, false, false, false]) rfl ?_
      intro hcl75
      refine St.unwanted rfl rfl rfl ?_
      refine StD.next hcl75 (fun h => by cases h) ?_
      refine StD.only (i := 17) rfl (by kernel_rfl) (listed' := #[true, true, true, true, true, true, true, true, true, true, true, true, true, true, true, true, true, true, false, false]) rfl ?_
      intro hcl76
      refine St.unwanted rfl rfl rfl ?_
      refine StD.next hcl76 (fun h => by cases h) ?_
      refine StD.takeNot (i := 18) rfl rfl rfl rfl (by rintro _ _ _ ⟨_, _, _, _, h, _⟩; cases h) (by kernel_rfl) (listed' := #[true, true, true, true, true, true, true, true, true, true, true, true, true, true, true, true, true, true, true, false]) rfl ?_
      refine StD.takeP (i := 19) (v := (.bool false)) rfl (fun _ => Yields.pick_f rfl rfl) rfl rfl trivial (by rintro _ _ _ ⟨_, _, _, _, h, _⟩; cases h) (by kernel_rfl) (listed' := #[true, true, true, true, true, true, true, true, true, true, true, true, true, true, true, true, true, true, true, true]) rfl ?_
      refine StD.done (by kernel_rfl) ?_
      obtain rfl := sI hm
      intro a w ha hs
      exact ⟨F15, (PH.le_refl _), ha.covers ⟨rfl, rfl, rfl, trivial⟩, (Among.of (Among.take 0 rfl rfl Among.none) _ hs)⟩
    ·rintro a w ⟨F19, l20, ha, hs⟩
     replace hm := hk21
     refine St.use (?_ : St _ _ _ _ _ _) ha hs
     clear ha hs a w
     refine St.cond_b rfl ?_ ?_
     ·intro q77
      replace q77 : z18 = true := q77
      replace hm := iT hm q77
      refine St.seq ?_
      refine St.region ?_
      refine St.val (v := (.bool true)) (Yields.assign rfl) trivial rfl rfl ?_
      refine St.nil ?_
      refine St.norm ?_
      refine St.ret ?_
      refine St.inret ?_
      refine St.thenret ?_
      refine St.thenret ?_
      refine St.inret ?_
      refine St.thenret ?_
      obtain rfl := sI hm
      obtain rfl := aR ho14
      obtain rfl := aR ho8
      exact St.doneR1 rfl rfl ⟨rfl, rfl⟩ (fun w hs => Among.of Among.none w hs)
     ·intro q78
      replace q78 : ¬ (z18 = true) := bf q78
      replace hm := iF hm q78
      refine St.skip ?_
      refine St.innorm ?_
      refine St.norm ?_
      refine St.region ?_
      refine St.val (v := (.int .i64 ((s11 : Nat) : Int))) (Yields.move rfl) trivial rfl rfl ?_
      refine St.val (v := (.int .i64 ((s11 + 1 : Nat) : Int))) (Yields.addn (j := 1) rfl rfl rfl (by have q_0 := q17; have q_1 := ph0_1.bnd.2; omega)) trivial rfl rfl ?_
      refine St.val (v := (.int .i64 ((s11 + 1 : Nat) : Int))) (Yields.assign rfl) trivial rfl rfl ?_
      refine St.nil ?_
      refine St.norm ?_
      obtain rfl := sI hm
      intro a w ha hs
      exact ⟨s11 + 1, aL ho14, F19, (PH.le_trans l16 l20), ha.covers ⟨rfl, rfl, trivial⟩, (Among.of (Among.take 0 rfl rfl Among.none) _ hs)⟩
   ·intro q79
    replace q79 : ¬ (((s11 : Nat) : Int) < ((a0.Limits.length : Nat) : Int)) := of_decide_eq_false q79
    replace hm := iF hm q79
    refine St.exit ?_
    refine St.thenexit ?_
    refine St.thenexit ?_
    refine St.inexit ?_
    obtain rfl := sI hm
    obtain rfl := aR ho14
    intro a w ha hs
    exact ⟨(), rfl, F15, l16, ha.covers trivial, (Among.of Among.none _ hs)⟩
 ·rintro a w ⟨z4, rfl, F5, l6, ha, hs⟩
  replace hm := aL ho8
  refine St.use (?_ : St _ _ _ _ _ _) ha hs
  clear ha hs a w
  refine St.seq ?_
  refine St.region ?_
  refine St.val (v := (.bool false)) (Yields.assign rfl) trivial rfl rfl ?_
  refine St.nil ?_
  refine St.norm ?_
  refine St.ret ?_
  obtain rfl := sI hm
  exact St.doneR1 rfl rfl ⟨rfl, rfl⟩ (fun w hs => Among.of Among.none w hs)

end Go.Proofs.Ytopmcncaanjboaa
