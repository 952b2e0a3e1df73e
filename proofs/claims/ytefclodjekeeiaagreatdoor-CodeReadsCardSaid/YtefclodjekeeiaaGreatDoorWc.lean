/- Each function does what its plain words tell. -/
import Derived.Test.YtefclodjekeeiaaGreatDoorWb
namespace Go.Proofs.YtefclodjekeeiaaGreatDoor
open Go Go.Sy Go.RowKit
set_option linter.unusedVariables false
open Go.Mir
theorem m_ref14_jump_sp {F : PH} {g : Nat} {a0 : List UInt8} {r : DJump × Bool} (hm : m_ref14_jump g a0 = some r) :
  CallSp Tryz.prog 36 #[.string (bs a0)] F [] (fun u F' H' => u = (.tuple #[.agg #[.string (bs r.1.Name), .int .i64 r.1.N, .int .i64 r.1.To], .bool r.2]) ∧ H' = []) := by

 unfold m_ref14_jump at hm
 refine CallSp.enter (args := [.string (bs a0)]) Tryz.func36 rfl rfl ?_
 intro w0 m0 hm0
 refine ssr ?_
 refine St.alloc tz49 trivial rfl ?_
 intro b1
 refine sas rfl rfl ?_
 refine snn ?_
 refine ssr ?_
 refine smv rfl rfl ?_
 obtain ⟨q2, e3, hm⟩ := bS hm
 refine St.call [blk b1 (.cells #[.string (bs []), .int .i64 0, .int .i64 0] 49 (0, 0))] (m_strings_LastIndexByte_sp e3) rfl (fun _ ha => ev2 ha rfl rfl) rfl en61 rfl rfl trivial ?_
 rintro _ F4 _ ⟨rfl, rfl⟩ l5
 refine sas rfl rfl ?_
 refine snn ?_
 refine St.seq ?_
 refine ssr ?_
 refine smv rfl rfl ?_
 refine sv (v := (.bool (decide (q2 < 1)))) (Yields.lt rfl rfl) rfl ?_
 refine snn ?_
 refine St.cond_b rfl ?_ ?_
 ·intro q6
  replace q6 : q2 < 1 := of_decide_eq_true q6
  replace hm := iT hm q6
  refine ssr ?_
  refine sv (v := (.agg #[.string (bs []), .int .i64 0, .int .i64 0])) (Yields.build (v := (.agg #[.string (bs []), .int .i64 0, .int .i64 0])) (vs := #[]) (fun a _ => by simp) (fun _ => by kernel_rfl)) rfl ?_
  refine St.storen (R := []) rfl rfl 0 rfl rfl ta49 rfl rfl rfl trivial (cs' := #[.string (bs []), .int .i64 0, .int .i64 0]) rfl ?_
  refine sas rfl rfl ?_
  refine snn ?_
  refine St.ret ?_
  refine St.thenret ?_
  obtain rfl := sI hm
  exact St.doneR2 rfl (ResOk.cell rfl (Loads.Hk (vs := [.string (bs []), .int .i64 0, .int .i64 0]) 0 rfl ta49 rfl rfl)) rfl ⟨rfl, rfl⟩ (fun w hs => Among.of Among.none w hs)
 intro q7
 replace q7 : ¬ (q2 < 1) := of_decide_eq_false q7
 replace hm := iF hm q7
 refine skn ?_
 refine ssr ?_
 refine smv rfl rfl ?_
 refine smv rfl rfl ?_
 refine sv (v := (.int .i64 (Mir.w64 (q2 + 1)))) (Yields.addw rfl rfl) rfl ?_
 obtain ⟨x8, e9, hm⟩ := bS hm
 refine sv (v := (.string (bs x8))) (Yields.subSD e9 tu9 rfl rfl) rfl ?_
 obtain ⟨q10, e11, hm⟩ := bS hm
 refine St.call [blk b1 (.cells #[.string (bs []), .int .i64 0, .int .i64 0] 49 (0, 0))] (m_ref14_number_sp e11) rfl (fun _ ha => ev1 ha rfl) rfl en15 rfl rfl trivial ?_
 rintro _ F12 _ ⟨rfl, rfl⟩ l13
 refine smv rfl rfl ?_
 refine sv (v := (.int .i64 q10.1)) (Yields.extract rfl rfl) rfl ?_
 refine sv (v := (.bool q10.2)) (Yields.extract rfl rfl) rfl ?_
 refine sas rfl rfl ?_
 refine sas rfl rfl ?_
 refine snn ?_
 refine St.seq ?_
 refine ssr ?_
 refine smv rfl rfl ?_
 refine sv (v := (.bool (!q10.2))) (Yields.not rfl) rfl ?_
 refine snn ?_
 refine St.cond_b rfl ?_ ?_
 ·intro q14
  replace q14 : ¬ (q10.2 = true) := nb_t q14
  replace hm := iF hm q14
  refine ssr ?_
  refine sv (v := (.agg #[.string (bs []), .int .i64 0, .int .i64 0])) (Yields.build (v := (.agg #[.string (bs []), .int .i64 0, .int .i64 0])) (vs := #[]) (fun a _ => by simp) (fun _ => by kernel_rfl)) rfl ?_
  refine St.storen (R := []) rfl rfl 0 rfl rfl ta49 rfl rfl rfl trivial (cs' := #[.string (bs []), .int .i64 0, .int .i64 0]) rfl ?_
  refine sas rfl rfl ?_
  refine snn ?_
  refine St.ret ?_
  refine St.thenret ?_
  obtain rfl := sI hm
  exact St.doneR2 rfl (ResOk.cell rfl (Loads.Hk (vs := [.string (bs []), .int .i64 0, .int .i64 0]) 0 rfl ta49 rfl rfl)) rfl ⟨rfl, rfl⟩ (fun w hs => Among.of Among.none w hs)
 intro q15
 replace q15 : q10.2 = true := nb_f q15
 replace hm := iT hm q15
 refine skn ?_
 refine St.seq ?_
 refine ssr ?_
 refine smv rfl rfl ?_
 obtain ⟨x16, e17, hm⟩ := bS hm
 refine sv (v := (.int .u8 ((x16.toNat : Nat) : Int))) (Yields.indexStr (nlit e17) tu9 rfl rfl) rfl ?_
 refine sas rfl rfl ?_
 refine snn ?_
 obtain ⟨z18, hm, hk19⟩ := bS hm
 refine St.cutI (fun a w => Has Tryz.f36.ntmps a [(0, .string (bs a0)), (2, .pointer (some ⟨b1, 0, none⟩)), (4, .int .i64 q2), (5, .int .i64 q10.1), (37, .bool z18)] ∧ Sat ⟨w0, fun b => m0 b ≠ none, F⟩ F12 [blk b1 (.cells #[.string (bs []), .int .i64 0, .int .i64 0] 49 (0, 0))] w) ?_ ?_
 ·skip
  refine St.region ?_
  refine smv rfl rfl ?_
  by_cases q20 : ((x16.toNat : Nat) : Int) = 45
  ·replace hm := iT hm q20
   refine sv (v := vT) (Yields.is q20 (Yields.eq rfl rfl)) rfl ?_
   refine smv rfl rfl ?_
   refine su rfl rfl rfl ?_
   refine su rfl rfl rfl ?_
   refine su rfl rfl rfl ?_
   refine St.unwanted trivial rfl rfl ?_
   refine St.unwanted trivial rfl rfl ?_
   refine su rfl rfl rfl ?_
   refine spt rfl rfl rfl ?_
   refine St.nil ?_
   obtain rfl := sI hm
   intro a w ha hs
   exact ⟨ha.covers ⟨rfl, rfl, rfl, rfl, rfl, trivial⟩, (Among.of (Among.take 0 rfl rfl Among.none) _ hs)⟩
  replace hm := iF hm q20
  refine sv (v := vF) (Yields.isnt q20 (Yields.eq rfl rfl)) rfl ?_
  refine smv rfl rfl ?_
  refine St.val (v := (.int .u8 ((x16.toNat : Nat) : Int))) (Yields.move rfl) rfl rfl rfl ?_
  by_cases q21 : ((x16.toNat : Nat) : Int) ≥ 48
  ·replace hm := iT hm q21
   refine St.val (v := vT) (Yields.is q21 (Yields.ge rfl rfl)) rfl rfl rfl ?_
   refine St.val (v := vT) (Yields.move rfl) rfl rfl rfl ?_
   refine St.val (v := (.int .u8 ((x16.toNat : Nat) : Int))) (Yields.move rfl) rfl rfl rfl ?_
   refine St.val (v := (.bool (decide (((x16.toNat : Nat) : Int) ≤ 57)))) (Yields.le rfl rfl) rfl rfl rfl ?_
   refine St.val (v := (.bool (decide (((x16.toNat : Nat) : Int) ≤ 57)))) (Yields.pick_t rfl rfl) rfl rfl rfl ?_
   refine spf rfl rfl rfl ?_
   refine St.nil ?_
   obtain rfl := sI hm
   intro a w ha hs
   exact ⟨ha.covers ⟨rfl, rfl, rfl, rfl, rfl, trivial⟩, (Among.of (Among.take 0 rfl rfl Among.none) _ hs)⟩
  replace hm := iF hm q21
  refine St.val (v := vF) (Yields.isnt q21 (Yields.ge rfl rfl)) rfl rfl rfl ?_
  refine St.val (v := vF) (Yields.move rfl) rfl rfl rfl ?_
  refine su rfl rfl rfl ?_
  refine su rfl rfl rfl ?_
  refine St.val (v := vF) (Yields.pick_f rfl rfl) rfl rfl rfl ?_
  refine spf rfl rfl rfl ?_
  refine St.nil ?_
  obtain rfl := sI hm
  intro a w ha hs
  exact ⟨ha.covers ⟨rfl, rfl, rfl, rfl, rfl, trivial⟩, (Among.of (Among.take 0 rfl rfl Among.none) _ hs)⟩
 rintro a w ⟨ha, hs⟩
 replace hm := hk19
 refine St.use (?_ : St _ _ _ _ _ _) ha hs
 clear ha hs a w
 refine St.cond_b rfl ?_ ?_
 ·intro q22
  replace q22 : z18 = true := q22
  replace hm := iT hm q22
  refine ssr ?_
  refine smv rfl rfl ?_
  refine smv rfl rfl ?_
  obtain ⟨x23, e24, hm⟩ := bS hm
  refine sv (v := (.string (bs x23))) (Yields.subST e24 tu9 rfl rfl) rfl ?_
  obtain ⟨q25, e26, hm⟩ := bS hm
  refine St.call [blk b1 (.cells #[.string (bs []), .int .i64 0, .int .i64 0] 49 (0, 0))] (m_ref14_integer_sp e26) rfl (fun _ ha => ev1 ha rfl) rfl en33 rfl rfl trivial ?_
  rintro _ F27 _ ⟨rfl, rfl⟩ l28
  refine smv rfl rfl ?_
  refine sv (v := (.int .i64 q25.1)) (Yields.extract rfl rfl) rfl ?_
  refine sv (v := (.bool q25.2)) (Yields.extract rfl rfl) rfl ?_
  refine sas rfl rfl ?_
  refine sas rfl rfl ?_
  refine snn ?_
  refine ssr ?_
  refine smv rfl rfl ?_
  refine smv rfl rfl ?_
  refine sv (v := (.agg #[.string (bs []), .int .i64 q25.1, .int .i64 q10.1])) (Yields.build (v := (.agg #[.string (bs []), .int .i64 q25.1, .int .i64 q10.1])) (vs := #[(1, .int .i64 q25.1), (2, .int .i64 q10.1)]) (fun _ ha => evp2 ha rfl rfl) (fun _ => by kernel_rfl)) rfl ?_
  refine smv rfl rfl ?_
  refine St.storen (R := []) rfl rfl 0 rfl rfl ta49 rfl rfl rfl trivial (cs' := #[.string (bs []), .int .i64 q25.1, .int .i64 q10.1]) rfl ?_
  refine sas rfl rfl ?_
  refine snn ?_
  refine St.ret ?_
  refine St.thenret ?_
  obtain rfl := sI hm
  exact St.doneR2 rfl (ResOk.cell rfl (Loads.Hk (vs := [.string (bs []), .int .i64 q25.1, .int .i64 q10.1]) 0 rfl ta49 rfl rfl)) rfl ⟨rfl, rfl⟩ (fun w hs => Among.of Among.none w hs)
 intro q29
 replace q29 : ¬ (z18 = true) := bf q29
 replace hm := iF hm q29
 refine skn ?_
 refine St.seq ?_
 refine StD.start [8, 9] [blk b1 (.cells #[.string (bs []), .int .i64 0, .int .i64 0] 49 (0, 0))] hmix ?_
 refine sdp 0 (v := (.string (bs a0))) (listed' := #[true, false, false, false, false, false, false, false, false, false, false]) rfl (fun _ => Yields.move rfl) rfl (by kernel_rfl) rfl ?_
 refine sdp 1 (v := (.int .i64 q2)) (listed' := #[true, true, false, false, false, false, false, false, false, false, false]) rfl (fun _ => Yields.move rfl) rfl (by kernel_rfl) rfl ?_
 obtain ⟨x30, e31, hm⟩ := bS hm
 refine sdp 2 (v := (.string (bs x30))) (listed' := #[true, true, true, false, false, false, false, false, false, false, false]) rfl (fun _ => Yields.subST e31 tu9 rfl rfl) rfl (by kernel_rfl) rfl ?_
 refine sdp 3 (v := (.int .i64 q10.1)) (listed' := #[true, true, true, true, false, false, false, false, false, false, false]) rfl (fun _ => Yields.move rfl) rfl (by kernel_rfl) rfl ?_
 refine sdp 4 (v := (.agg #[.string (bs x30), .int .i64 0, .int .i64 q10.1])) (listed' := #[true, true, true, true, true, false, false, false, false, false, false]) rfl (fun _ => Yields.build (v := (.agg #[.string (bs x30), .int .i64 0, .int .i64 q10.1])) (vs := #[(0, .string (bs x30)), (2, .int .i64 q10.1)]) (fun _ ha => evp2 ha rfl rfl) (fun _ => by kernel_rfl)) rfl (by kernel_rfl) rfl ?_
 refine sdp 5 (v := (.string (bs a0))) (listed' := #[true, true, true, true, true, true, false, false, false, false, false]) rfl (fun _ => Yields.move rfl) rfl (by kernel_rfl) rfl ?_
 refine sdp 6 (v := (.int .i64 q2)) (listed' := #[true, true, true, true, true, true, true, false, false, false, false]) rfl (fun _ => Yields.move rfl) rfl (by kernel_rfl) rfl ?_
 obtain ⟨x32, e33, hm⟩ := bS hm
 refine sdp 7 (v := (.string (bs x32))) (listed' := #[true, true, true, true, true, true, true, true, false, false, false]) rfl (fun _ => Yields.subST e33 tu9 rfl rfl) rfl (by kernel_rfl) rfl ?_
 refine StD.only (i := 8) rfl (by kernel_rfl) (listed' := #[true, true, true, true, true, true, true, true, true, false, false]) rfl ?_
 intro hcl34
 obtain ⟨q35, e36, hm⟩ := bS hm
 refine St.call [blk b1 (.cells #[.string (bs []), .int .i64 0, .int .i64 0] 49 (0, 0))] (m_ref14_isRun_sp e36) rfl (fun _ ha => ev1 ha rfl) rfl en16 rfl rfl trivial ?_
 rintro _ F37 _ ⟨rfl, rfl⟩ l38
 refine StD.next hcl34 (fun h => by cases h) ?_
 refine StD.only (i := 9) rfl (by kernel_rfl) (listed' := #[true, true, true, true, true, true, true, true, true, true, false]) rfl ?_
 intro hcl39
 refine St.storen (R := []) rfl rfl 0 rfl rfl ta49 rfl rfl rfl trivial (cs' := #[.string (bs x30), .int .i64 0, .int .i64 q10.1]) rfl ?_
 refine StD.next hcl39 (fun h => by cases h) ?_
 refine sdp 10 (v := (.bool q35)) (listed' := #[true, true, true, true, true, true, true, true, true, true, true]) rfl (fun _ => Yields.assign rfl) rfl (by kernel_rfl) rfl ?_
 refine StD.done (by kernel_rfl) ?_
 refine St.norm ?_
 refine St.ret ?_
 obtain rfl := sI hm
 exact St.doneR2 rfl (ResOk.cell rfl (Loads.Hk (vs := [.string (bs x30), .int .i64 0, .int .i64 q10.1]) 0 rfl ta49 rfl rfl)) rfl ⟨rfl, rfl⟩ (fun w hs => Among.of Among.none w hs)
theorem m_ref14_instr_sp {F : PH} {g : Nat} {a0 : List (List UInt8)} {pA0 : Option Addr} {pc0 : Nat} (ph0 : Fsl 16 Kind.str F pA0 pc0 a0) {r : DInstr × Bool} (hm : m_ref14_instr g a0 = some r) :
  CallSp Tryz.prog 17 #[.slice pA0 a0.length pc0] F [] (fun u F' H' => ∃ (B0_0 : Option Addr) (d0_0 : Nat) (B0_1 : Option Addr) (d0_1 : Nat), u = (.tuple #[.agg #[.int .i64 r.1.Op, .int .i64 r.1.A, .int .i64 r.1.B, .int .i64 r.1.N, .string (bs r.1.Name), .slice B0_0 r.1.Args.length d0_0, .slice B0_1 r.1.Cases.length d0_1], .bool r.2]) ∧ Fsl 8 (Kind.int .i64) F' B0_0 d0_0 r.1.Args ∧ Fsl 32 KDJump F' B0_1 d0_1 r.1.Cases ∧ H' = []) := by

 unfold m_ref14_instr at hm
 refine CallSp.enter (args := [.slice pA0 a0.length pc0]) Tryz.func17 rfl rfl ?_
 intro w0 m0 hm0
 refine ssr ?_
 refine St.alloc tz40 trivial rfl ?_
 intro b2
 refine sas rfl rfl ?_
 refine snn ?_
 refine St.seq ?_
 refine ssr ?_
 refine smv rfl rfl ?_
 obtain ⟨x3, e4, hm⟩ := bS hm
 replace e4 := nlit e4
 obtain ⟨p5, cs6, jx7, R8, k9⟩ := ph0.idx e4
 obtain rfl := R8
 refine sv (v := (.pointer (some p5))) (Yields.idx jx7 ts29 rfl rfl) rfl ?_
 refine sv (v := (.string (bs x3))) (Yields.load rfl (Loads.Fat k9 tc9 rfl)) rfl ?_
 refine snn ?_
 refine St.block ?_
 refine ssr ?_
 refine sv (v := (.bool (decide (x3 = ([102, 114, 101, 101] : List UInt8))))) (Yields.eqStr rfl rfl) rfl ?_
 refine sas rfl rfl ?_
 refine snn ?_
 refine St.cond_b rfl ?_ ?_
 ·intro q10
  replace q10 : x3 = ([102, 114, 101, 101] : List UInt8) := of_decide_eq_true q10
  replace hm := iT hm q10
  refine ssr ?_
  refine sv (v := (.agg #[.int .i64 3, .int .i64 0, .int .i64 0, .int .i64 0, .string (bs []), .slice none 0 0, .slice none 0 0])) (Yields.build (v := (.agg #[.int .i64 3, .int .i64 0, .int .i64 0, .int .i64 0, .string (bs []), .slice none 0 0, .slice none 0 0])) (vs := #[(0, .int .i64 3)]) (fun _ ha => evp1 ha rfl) (fun _ => by kernel_rfl)) rfl ?_
  refine smv rfl rfl ?_
  refine sv (v := (.int .i64 ((a0.length : Nat) : Int))) (Yields.lenSlice tu29 rfl) rfl ?_
  refine sv (v := (.bool (decide (((a0.length : Nat) : Int) = 1)))) (Yields.eq rfl rfl) rfl ?_
  refine St.storen (R := []) rfl rfl 0 rfl rfl ta40 rfl rfl rfl trivial (cs' := #[.int .i64 3, .int .i64 0, .int .i64 0, .int .i64 0, .string (bs []), .slice none 0 0, .slice none 0 0]) rfl ?_
  refine sas rfl rfl ?_
  refine snn ?_
  refine St.ret ?_
  refine St.inret ?_
  refine St.thenret ?_
  obtain rfl := sI hm
  exact St.doneR2 rfl (ResOk.cell rfl (Loads.Hk (vs := [.int .i64 3, .int .i64 0, .int .i64 0, .int .i64 0, .string (bs []), .slice none 0 0, .slice none 0 0]) 0 rfl ta40 rfl rfl)) rfl ⟨none, 0, none, 0, rfl, Fsl.nil, Fsl.nil, rfl⟩ (fun w hs => Among.of Among.none w hs)
 intro q11
 replace q11 : ¬ (x3 = ([102, 114, 101, 101] : List UInt8)) := of_decide_eq_false q11
 replace hm := iF hm q11
 refine ssr ?_
 refine sv (v := (.bool (decide (x3 = ([115, 116, 111, 112] : List UInt8))))) (Yields.eqStr rfl rfl) rfl ?_
 refine sas rfl rfl ?_
 refine snn ?_
 refine St.cond_b rfl ?_ ?_
 ·intro q12
  replace q12 : x3 = ([115, 116, 111, 112] : List UInt8) := of_decide_eq_true q12
  replace hm := iT hm q12
  refine ssr ?_
  refine sv (v := (.agg #[.int .i64 5, .int .i64 0, .int .i64 0, .int .i64 0, .string (bs []), .slice none 0 0, .slice none 0 0])) (Yields.build (v := (.agg #[.int .i64 5, .int .i64 0, .int .i64 0, .int .i64 0, .string (bs []), .slice none 0 0, .slice none 0 0])) (vs := #[(0, .int .i64 5)]) (fun _ ha => evp1 ha rfl) (fun _ => by kernel_rfl)) rfl ?_
  refine smv rfl rfl ?_
  refine sv (v := (.int .i64 ((a0.length : Nat) : Int))) (Yields.lenSlice tu29 rfl) rfl ?_
  refine sv (v := (.bool (decide (((a0.length : Nat) : Int) = 1)))) (Yields.eq rfl rfl) rfl ?_
  refine St.storen (R := []) rfl rfl 0 rfl rfl ta40 rfl rfl rfl trivial (cs' := #[.int .i64 5, .int .i64 0, .int .i64 0, .int .i64 0, .string (bs []), .slice none 0 0, .slice none 0 0]) rfl ?_
  refine sas rfl rfl ?_
  refine snn ?_
  refine St.ret ?_
  refine St.inret ?_
  refine St.thenret ?_
  obtain rfl := sI hm
  exact St.doneR2 rfl (ResOk.cell rfl (Loads.Hk (vs := [.int .i64 5, .int .i64 0, .int .i64 0, .int .i64 0, .string (bs []), .slice none 0 0, .slice none 0 0]) 0 rfl ta40 rfl rfl)) rfl ⟨none, 0, none, 0, rfl, Fsl.nil, Fsl.nil, rfl⟩ (fun w hs => Among.of Among.none w hs)
 intro q13
 replace q13 : ¬ (x3 = ([115, 116, 111, 112] : List UInt8)) := of_decide_eq_false q13
 replace hm := iF hm q13
 refine ssr ?_
 refine sv (v := (.bool (decide (x3 = ([110, 111, 100, 101] : List UInt8))))) (Yields.eqStr rfl rfl) rfl ?_
 refine sas rfl rfl ?_
 refine snn ?_
 refine St.cond_b rfl ?_ ?_
 ·intro q14
  replace q14 : x3 = ([110, 111, 100, 101] : List UInt8) := of_decide_eq_true q14
  replace hm := iT hm q14
  refine ssr ?_
  refine smv rfl rfl ?_
  obtain ⟨x19, e20, hm⟩ := bS hm
  obtain ⟨A15, c16, s17, h18⟩ := ph0.subx e20
  refine sv (v := (.slice A15 x19.length c16)) (Yields.subD s17 ts29 rfl rfl) rfl ?_
  obtain ⟨q22, e23, hm⟩ := bS hm
  refine St.call [blk b2 (.cells #[.int .i64 0, .int .i64 0, .int .i64 0, .int .i64 0, .string (bs []), .slice none 0 0, .slice none 0 0] 40 (0, 0))] (m_ref14_made_sp h18 e23) rfl (fun _ ha => ev1 ha rfl) rfl en34 rfl rfl trivial ?_
  rintro _ F24 _ ⟨A26, c27, rfl, h28, rfl⟩ l25
  refine sv (v := (.agg #[.int .i64 q22.1, .int .i64 q22.2.1, .int .i64 q22.2.2.1, .int .i64 q22.2.2.2.1, .string (bs q22.2.2.2.2.1), .slice A26 q22.2.2.2.2.2.1.length c27, .slice none 0 0])) (Yields.extract rfl rfl) rfl ?_
  refine sv (v := (.bool q22.2.2.2.2.2.2)) (Yields.extract rfl rfl) rfl ?_
  refine St.storen (R := []) rfl rfl 0 rfl rfl ta40 rfl rfl rfl trivial (cs' := #[.int .i64 q22.1, .int .i64 q22.2.1, .int .i64 q22.2.2.1, .int .i64 q22.2.2.2.1, .string (bs q22.2.2.2.2.1), .slice A26 q22.2.2.2.2.2.1.length c27, .slice none 0 0]) rfl ?_
  refine sas rfl rfl ?_
  refine snn ?_
  refine St.ret ?_
  refine St.inret ?_
  refine St.thenret ?_
  obtain rfl := sI hm
  exact St.doneR2 rfl (ResOk.cell rfl (Loads.Hk (vs := [.int .i64 q22.1, .int .i64 q22.2.1, .int .i64 q22.2.2.1, .int .i64 q22.2.2.2.1, .string (bs q22.2.2.2.2.1), .slice A26 q22.2.2.2.2.2.1.length c27, .slice none 0 0]) 0 rfl ta40 rfl rfl)) rfl ⟨A26, c27, none, 0, rfl, h28, Fsl.nil, rfl⟩ (fun w hs => Among.of Among.none w hs)
 intro q30
 replace q30 : ¬ (x3 = ([110, 111, 100, 101] : List UInt8)) := of_decide_eq_false q30
 replace hm := iF hm q30
 refine ssr ?_
 refine sv (v := (.bool (decide (x3 = ([101, 110, 100] : List UInt8))))) (Yields.eqStr rfl rfl) rfl ?_
 refine sas rfl rfl ?_
 refine snn ?_
 refine St.cond_b rfl ?_ ?_
 ·intro q31
  replace q31 : x3 = ([101, 110, 100] : List UInt8) := of_decide_eq_true q31
  replace hm := iT hm q31
  refine ssr ?_
  refine smv rfl rfl ?_
  obtain ⟨x36, e37, hm⟩ := bS hm
  obtain ⟨A32, c33, s34, h35⟩ := ph0.subx e37
  refine sv (v := (.slice A32 x36.length c33)) (Yields.subD s34 ts29 rfl rfl) rfl ?_
  obtain ⟨q39, e40, hm⟩ := bS hm
  refine St.call [blk b2 (.cells #[.int .i64 0, .int .i64 0, .int .i64 0, .int .i64 0, .string (bs []), .slice none 0 0, .slice none 0 0] 40 (0, 0))] (m_ref14_all_sp h35 e40) rfl (fun _ ha => ev1 ha rfl) rfl en35 rfl rfl trivial ?_
  rintro _ F41 _ ⟨A43, c44, rfl, h45, rfl⟩ l42
  refine smv rfl rfl ?_
  refine sv (v := (.slice A43 q39.1.length c44)) (Yields.extract rfl rfl) rfl ?_
  refine sv (v := (.bool q39.2)) (Yields.extract rfl rfl) rfl ?_
  refine sas rfl rfl ?_
  refine sas rfl rfl ?_
  refine snn ?_
  refine St.seq ?_
  obtain ⟨z47, hm, hk48⟩ := bS hm
  refine St.cutI (fun a w => Has Tryz.f17.ntmps a [(2, .pointer (some ⟨b2, 0, none⟩)), (4, .slice A43 q39.1.length c44), (48, .bool z47)] ∧ Sat ⟨w0, fun b => m0 b ≠ none, F⟩ F41 [blk b2 (.cells #[.int .i64 0, .int .i64 0, .int .i64 0, .int .i64 0, .string (bs []), .slice none 0 0, .slice none 0 0] 40 (0, 0))] w) ?_ ?_
  ·skip
   refine St.region ?_
   by_cases q49 : q39.2 = true
   ·replace hm := iT hm q49
    have hb50 : (q39.2) = true := q49
    try rw [hb50]
    refine smv rfl rfl ?_
    refine sv (v := vF) (Yields.not_t rfl) rfl ?_
    refine smv rfl rfl ?_
    refine St.val (v := (.slice A43 q39.1.length c44)) (Yields.move rfl) rfl rfl rfl ?_
    refine St.val (v := (.int .i64 ((q39.1.length : Nat) : Int))) (Yields.lenSlice tu37 rfl) rfl rfl rfl ?_
    refine St.val (v := (.bool (!decide (((q39.1.length : Nat) : Int) = 1)))) (Yields.ne rfl rfl) rfl rfl rfl ?_
    refine spf rfl rfl rfl ?_
    refine St.nil ?_
    obtain rfl := sI hm
    intro a w ha hs
    exact ⟨ha.covers ⟨rfl, rfl, rfl, trivial⟩, (Among.of (Among.take 0 rfl rfl Among.none) _ hs)⟩
   replace hm := iF hm q49
   have hb51 : (q39.2) = false := eq_false_of_ne_true q49
   try rw [hb51]
   refine smv rfl rfl ?_
   refine sv (v := vT) (Yields.not_f rfl) rfl ?_
   refine smv rfl rfl ?_
   refine su rfl rfl rfl ?_
   refine su rfl rfl rfl ?_
   refine su rfl rfl rfl ?_
   refine spt rfl rfl rfl ?_
   refine St.nil ?_
   obtain rfl := sI hm
   intro a w ha hs
   exact ⟨ha.covers ⟨rfl, rfl, rfl, trivial⟩, (Among.of (Among.take 0 rfl rfl Among.none) _ hs)⟩
  rintro a w ⟨ha, hs⟩
  replace hm := hk48
  refine St.use (?_ : St _ _ _ _ _ _) ha hs
  clear ha hs a w
  refine St.cond_b rfl ?_ ?_
  ·intro q52
   replace q52 : z47 = true := q52
   replace hm := iT hm q52
   refine ssr ?_
   refine sv (v := (.agg #[.int .i64 0, .int .i64 0, .int .i64 0, .int .i64 0, .string (bs []), .slice none 0 0, .slice none 0 0])) (Yields.build (v := (.agg #[.int .i64 0, .int .i64 0, .int .i64 0, .int .i64 0, .string (bs []), .slice none 0 0, .slice none 0 0])) (vs := #[]) (fun a _ => by simp) (fun _ => by kernel_rfl)) rfl ?_
   refine St.storen (R := []) rfl rfl 0 rfl rfl ta40 rfl rfl rfl trivial (cs' := #[.int .i64 0, .int .i64 0, .int .i64 0, .int .i64 0, .string (bs []), .slice none 0 0, .slice none 0 0]) rfl ?_
   refine sas rfl rfl ?_
   refine snn ?_
   refine St.ret ?_
   refine St.thenret ?_
   refine St.inret ?_
   refine St.thenret ?_
   obtain rfl := sI hm
   exact St.doneR2 rfl (ResOk.cell rfl (Loads.Hk (vs := [.int .i64 0, .int .i64 0, .int .i64 0, .int .i64 0, .string (bs []), .slice none 0 0, .slice none 0 0]) 0 rfl ta40 rfl rfl)) rfl ⟨none, 0, none, 0, rfl, Fsl.nil, Fsl.nil, rfl⟩ (fun w hs => Among.of Among.none w hs)
  intro q53
  replace q53 : ¬ (z47 = true) := bf q53
  replace hm := iF hm q53
  refine skn ?_
  refine ssr ?_
  refine smv rfl rfl ?_
  obtain ⟨x54, e55, hm⟩ := bS hm
  replace e55 := nlit e55
  obtain ⟨p56, cs57, jx58, R59, k60⟩ := h45.idx e55
  obtain rfl := R59
  refine sv (v := (.pointer (some p56))) (Yields.idx jx58 ts37 rfl rfl) rfl ?_
  refine sv (v := (.int .i64 x54)) (Yields.load rfl (Loads.Fat k60 tc3 rfl)) rfl ?_
  refine sv (v := (.agg #[.int .i64 4, .int .i64 x54, .int .i64 0, .int .i64 0, .string (bs []), .slice none 0 0, .slice none 0 0])) (Yields.build (v := (.agg #[.int .i64 4, .int .i64 x54, .int .i64 0, .int .i64 0, .string (bs []), .slice none 0 0, .slice none 0 0])) (vs := #[(0, .int .i64 4), (1, .int .i64 x54)]) (fun _ ha => evp2 ha rfl rfl) (fun _ => by kernel_rfl)) rfl ?_
  refine St.storen (R := []) rfl rfl 0 rfl rfl ta40 rfl rfl rfl trivial (cs' := #[.int .i64 4, .int .i64 x54, .int .i64 0, .int .i64 0, .string (bs []), .slice none 0 0, .slice none 0 0]) rfl ?_
  refine sas rfl rfl ?_
  refine snn ?_
  refine St.ret ?_
  refine St.inret ?_
  refine St.thenret ?_
  obtain rfl := sI hm
  exact St.doneR2 rfl (ResOk.cell rfl (Loads.Hk (vs := [.int .i64 4, .int .i64 x54, .int .i64 0, .int .i64 0, .string (bs []), .slice none 0 0, .slice none 0 0]) 0 rfl ta40 rfl rfl)) rfl ⟨none, 0, none, 0, rfl, Fsl.nil, Fsl.nil, rfl⟩ (fun w hs => Among.of Among.none w hs)
 intro q61
 replace q61 : ¬ (x3 = ([101, 110, 100] : List UInt8)) := of_decide_eq_false q61
 replace hm := iF hm q61
 refine ssr ?_
 refine sv (v := (.bool (decide (x3 = ([109, 97, 116, 99, 104] : List UInt8))))) (Yields.eqStr rfl rfl) rfl ?_
 refine sas rfl rfl ?_
 refine snn ?_
 refine St.cond_b rfl ?_ ?_
 ·intro q62
  replace q62 : x3 = ([109, 97, 116, 99, 104] : List UInt8) := of_decide_eq_true q62
  replace hm := iT hm q62
  refine St.seq ?_
  refine ssr ?_
  refine smv rfl rfl ?_
  refine sv (v := (.int .i64 ((a0.length : Nat) : Int))) (Yields.lenSlice tu29 rfl) rfl ?_
  refine sv (v := (.bool (decide (((a0.length : Nat) : Int) < 3)))) (Yields.lt rfl rfl) rfl ?_
  refine snn ?_
  refine St.cond_b rfl ?_ ?_
  ·intro q63
   replace q63 : ((a0.length : Nat) : Int) < 3 := of_decide_eq_true q63
   replace hm := iT hm q63
   refine ssr ?_
   refine sv (v := (.agg #[.int .i64 0, .int .i64 0, .int .i64 0, .int .i64 0, .string (bs []), .slice none 0 0, .slice none 0 0])) (Yields.build (v := (.agg #[.int .i64 0, .int .i64 0, .int .i64 0, .int .i64 0, .string (bs []), .slice none 0 0, .slice none 0 0])) (vs := #[]) (fun a _ => by simp) (fun _ => by kernel_rfl)) rfl ?_
   refine St.storen (R := []) rfl rfl 0 rfl rfl ta40 rfl rfl rfl trivial (cs' := #[.int .i64 0, .int .i64 0, .int .i64 0, .int .i64 0, .string (bs []), .slice none 0 0, .slice none 0 0]) rfl ?_
   refine sas rfl rfl ?_
   refine snn ?_
   refine St.ret ?_
   refine St.thenret ?_
   refine St.inret ?_
   refine St.thenret ?_
   obtain rfl := sI hm
   exact St.doneR2 rfl (ResOk.cell rfl (Loads.Hk (vs := [.int .i64 0, .int .i64 0, .int .i64 0, .int .i64 0, .string (bs []), .slice none 0 0, .slice none 0 0]) 0 rfl ta40 rfl rfl)) rfl ⟨none, 0, none, 0, rfl, Fsl.nil, Fsl.nil, rfl⟩ (fun w hs => Among.of Among.none w hs)
  intro q64
  replace q64 : ¬ (((a0.length : Nat) : Int) < 3) := of_decide_eq_false q64
  replace hm := iF hm q64
  refine skn ?_
  refine ssr ?_
  refine smv rfl rfl ?_
  obtain ⟨x69, e70, hm⟩ := bS hm
  obtain ⟨A65, c66, s67, h68⟩ := ph0.subx e70
  refine sv (v := (.slice A65 x69.length c66)) (Yields.sub2 s67 ts29 rfl rfl rfl) rfl ?_
  obtain ⟨q72, e73, hm⟩ := bS hm
  refine St.call [blk b2 (.cells #[.int .i64 0, .int .i64 0, .int .i64 0, .int .i64 0, .string (bs []), .slice none 0 0, .slice none 0 0] 40 (0, 0))] (m_ref14_all_sp h68 e73) rfl (fun _ ha => ev1 ha rfl) rfl en35 rfl rfl trivial ?_
  rintro _ F74 _ ⟨A76, c77, rfl, h78, rfl⟩ l75
  refine smv rfl rfl ?_
  refine sv (v := (.slice A76 q72.1.length c77)) (Yields.extract rfl rfl) rfl ?_
  refine sv (v := (.bool q72.2)) (Yields.extract rfl rfl) rfl ?_
  refine sas rfl rfl ?_
  refine sas rfl rfl ?_
  refine snn ?_
  refine St.seq ?_
  refine ssr ?_
  refine smv rfl rfl ?_
  refine sv (v := (.bool (!q72.2))) (Yields.not rfl) rfl ?_
  refine snn ?_
  refine St.cond_b rfl ?_ ?_
  ·intro q80
   replace q80 : ¬ (q72.2 = true) := nb_t q80
   replace hm := iF hm q80
   refine ssr ?_
   refine sv (v := (.agg #[.int .i64 0, .int .i64 0, .int .i64 0, .int .i64 0, .string (bs []), .slice none 0 0, .slice none 0 0])) (Yields.build (v := (.agg #[.int .i64 0, .int .i64 0, .int .i64 0, .int .i64 0, .string (bs []), .slice none 0 0, .slice none 0 0])) (vs := #[]) (fun a _ => by simp) (fun _ => by kernel_rfl)) rfl ?_
   refine St.storen (R := []) rfl rfl 0 rfl rfl ta40 rfl rfl rfl trivial (cs' := #[.int .i64 0, .int .i64 0, .int .i64 0, .int .i64 0, .string (bs []), .slice none 0 0, .slice none 0 0]) rfl ?_
   refine sas rfl rfl ?_
   refine snn ?_
   refine St.ret ?_
   refine St.thenret ?_
   refine St.inret ?_
   refine St.thenret ?_
   obtain rfl := sI hm
   exact St.doneR2 rfl (ResOk.cell rfl (Loads.Hk (vs := [.int .i64 0, .int .i64 0, .int .i64 0, .int .i64 0, .string (bs []), .slice none 0 0, .slice none 0 0]) 0 rfl ta40 rfl rfl)) rfl ⟨none, 0, none, 0, rfl, Fsl.nil, Fsl.nil, rfl⟩ (fun w hs => Among.of Among.none w hs)
  intro q81
  replace q81 : q72.2 = true := nb_f q81
  replace hm := iT hm q81
  refine skn ?_
  refine St.seq ?_
  refine StD.start [8] [blk b2 (.cells #[.int .i64 0, .int .i64 0, .int .i64 0, .int .i64 0, .string (bs []), .slice none 0 0, .slice none 0 0] 40 (0, 0))] hmix ?_
  refine sdp 0 (v := (.slice A76 q72.1.length c77)) (listed' := #[true, false, false, false, false, false, false, false, false]) rfl (fun _ => Yields.move rfl) rfl (by kernel_rfl) rfl ?_
  obtain ⟨x82, e83, hm⟩ := bS hm
  replace e83 := nlit e83
  obtain ⟨p84, cs85, jx86, R87, k88⟩ := h78.idx e83
  obtain rfl := R87
  refine sdp 1 (v := (.pointer (some p84))) (listed' := #[true, true, false, false, false, false, false, false, false]) rfl (fun _ => Yields.idx jx86 ts37 rfl rfl) rfl (by kernel_rfl) rfl ?_
  refine sdt [0, 1, 3, 4, 6] 2 (v := (.int .i64 x82)) (listed' := #[true, true, true, false, false, false, false, false, false]) rfl (Yields.load rfl (Loads.Fat k88 tc3 rfl)) rfl Among.refl (by kernel_rfl) rfl ?_
  refine sdp 3 (v := (.slice A76 q72.1.length c77)) (listed' := #[true, true, true, true, false, false, false, false, false]) rfl (fun _ => Yields.move rfl) rfl (by kernel_rfl) rfl ?_
  obtain ⟨x89, e90, hm⟩ := bS hm
  replace e90 := nlit e90
  obtain ⟨p91, cs92, jx93, R94, k95⟩ := h78.idx e90
  obtain rfl := R94
  refine sdp 4 (v := (.pointer (some p91))) (listed' := #[true, true, true, true, true, false, false, false, false]) rfl (fun _ => Yields.idx jx93 ts37 rfl rfl) rfl (by kernel_rfl) rfl ?_
  refine sdt [0, 1, 3, 4, 6] 5 (v := (.int .i64 x89)) (listed' := #[true, true, true, true, true, true, false, false, false]) rfl (Yields.load rfl (Loads.Fat k95 tc3 rfl)) rfl Among.refl (by kernel_rfl) rfl ?_
  refine sdp 6 (v := (.agg #[.int .i64 1, .int .i64 x82, .int .i64 x89, .int .i64 0, .string (bs []), .slice none 0 0, .slice none 0 0])) (listed' := #[true, true, true, true, true, true, true, false, false]) rfl (fun _ => Yields.build (v := (.agg #[.int .i64 1, .int .i64 x82, .int .i64 x89, .int .i64 0, .string (bs []), .slice none 0 0, .slice none 0 0])) (vs := #[(0, .int .i64 1), (1, .int .i64 x82), (2, .int .i64 x89)]) (fun _ ha => evp3 ha rfl rfl rfl) (fun _ => by kernel_rfl)) rfl (by kernel_rfl) rfl ?_
  refine StD.only (i := 7) rfl (by kernel_rfl) (listed' := #[true, true, true, true, true, true, true, true, false]) rfl ?_
  intro hcl96
  refine St.alloc tz40 trivial rfl ?_
  intro b97
  refine StD.next hcl96 (fun _ => (Among.of (Among.take 1 rfl rfl Among.none))) ?_
  refine StD.only (i := 8) rfl (by kernel_rfl) (listed' := #[true, true, true, true, true, true, true, true, true]) rfl ?_
  intro hcl98
  refine St.storen (R := [blk b2 (.cells #[.int .i64 0, .int .i64 0, .int .i64 0, .int .i64 0, .string (bs []), .slice none 0 0, .slice none 0 0] 40 (0, 0))]) rfl rfl 0 rfl rfl ta40 rfl rfl rfl trivial (cs' := #[.int .i64 1, .int .i64 x82, .int .i64 x89, .int .i64 0, .string (bs []), .slice none 0 0, .slice none 0 0]) rfl ?_
  refine StD.next hcl98 (fun h => by cases h) ?_
  refine StD.done (by kernel_rfl) ?_
  refine St.norm ?_
  obtain ⟨o108, hm, ho109⟩ := jS hm
  refine St.cutI (fun a w => ∃ z99 : List DJump, o108 = .inl z99 ∧ ∃ (A103 : Option Addr) (c104 : Nat) (cells106 : List Value) (F100 : PH), PH.le F74 F100 ∧ Cat KDJump F100 cells106 z99 ∧ Bnd 32 z99 ∧ Has Tryz.f17.ntmps a [(2, .pointer (some ⟨b2, 0, none⟩)), (8, .pointer (some ⟨b97, 0, none⟩))] ∧ Sat ⟨w0, fun b => m0 b ≠ none, F⟩ F100 [blk b2 (.cells #[.int .i64 0, .int .i64 0, .int .i64 0, .int .i64 0, .string (bs []), .slice none 0 0, .slice none 0 0] 40 (0, 0)), blk b97 (.cells #[.int .i64 1, .int .i64 x82, .int .i64 x89, .int .i64 0, .string (bs []), .slice none 0 0, .slice A103 z99.length c104] 40 (0, 0)), rowo A103 z99.length c104 49 3 cells106] w) ?_ ?_
  ·skip
   refine ssr ?_
   refine sas rfl rfl ?_
   refine snn ?_
   refine St.block ?_
   refine St.loopM hm (fun s119 a w => ∃ (A124 : Option Addr) (c125 : Nat) (cells127 : List Value) (F129 : PH), PH.le F74 F129 ∧ Cat KDJump F129 cells127 s119.1 ∧ Bnd 32 s119.1 ∧ Has Tryz.f17.ntmps a [(0, .slice pA0 a0.length pc0), (2, .pointer (some ⟨b2, 0, none⟩)), (8, .pointer (some ⟨b97, 0, none⟩)), (9, .int .i64 ((s119.2 : Nat) : Int))] ∧ Sat ⟨w0, fun b => m0 b ≠ none, F⟩ F129 [blk b2 (.cells #[.int .i64 0, .int .i64 0, .int .i64 0, .int .i64 0, .string (bs []), .slice none 0 0, .slice none 0 0] 40 (0, 0)), blk b97 (.cells #[.int .i64 1, .int .i64 x82, .int .i64 x89, .int .i64 0, .string (bs []), .slice none 0 0, .slice A124 s119.1.length c125] 40 (0, 0)), rowo A124 s119.1.length c125 49 3 cells127] w) ?_ ?_
   ·skip
    refine St.rowo_new 49 3 ?_
    intro a w ha hs
    exact ⟨none, 0, [], F74, (PH.le_refl _), (show Cat KDJump _ [] [] from rfl), Bnd.of_nil, ha.covers ⟨rfl, rfl, rfl, rfl, trivial⟩, (Among.of (Among.take 2 rfl rfl (Among.take 1 rfl rfl (Among.take 0 rfl rfl Among.none))) _ hs)⟩
   rintro s119 o120 co121 hm ho122 a w ⟨A124, c125, cells127, F129, l130, h126, b128, ha, hs⟩
   refine St.use (?_ : St _ _ _ _ _ _) ha hs
   clear ha hs a w
   refine St.seq ?_
   refine ssr ?_
   refine smv rfl rfl ?_
   refine smv rfl rfl ?_
   refine sv (v := (.int .i64 ((a0.length : Nat) : Int))) (Yields.lenSlice tu29 rfl) rfl ?_
   refine sv (v := (.bool (decide (((s119.2 : Nat) : Int) < ((a0.length : Nat) : Int))))) (Yields.lt rfl rfl) rfl ?_
   refine snn ?_
   refine St.cond_b rfl ?_ ?_
   ·intro q132
    replace q132 : ((s119.2 : Nat) : Int) < ((a0.length : Nat) : Int) := of_decide_eq_true q132
    replace hm := iT hm q132
    refine skn ?_
    refine St.seq ?_
    refine St.block ?_
    refine ssr ?_
    refine smv rfl rfl ?_
    refine smv rfl rfl ?_
    obtain ⟨x133, e134, hm⟩ := bS hm
    obtain ⟨p135, cs136, jx137, R138, k139⟩ := (Fsl.mono (PH.le_trans l75 l130) ph0).nidx e134
    obtain rfl := R138
    refine sv (v := (.pointer (some p135))) (Yields.idx jx137 ts29 rfl rfl) rfl ?_
    refine sv (v := (.string (bs x133))) (Yields.load rfl (Loads.Fat k139 tc9 rfl)) rfl ?_
    obtain ⟨q140, e141, hm⟩ := bS hm
    refine St.call [blk b2 (.cells #[.int .i64 0, .int .i64 0, .int .i64 0, .int .i64 0, .string (bs []), .slice none 0 0, .slice none 0 0] 40 (0, 0)), blk b97 (.cells #[.int .i64 1, .int .i64 x82, .int .i64 x89, .int .i64 0, .string (bs []), .slice none 0 0, .slice A124 s119.1.length c125] 40 (0, 0)), rowo A124 s119.1.length c125 49 3 cells127] (m_ref14_jump_sp e141) rfl (fun _ ha => ev1 ha rfl) rfl en36 rfl rfl trivial ?_
    rintro _ F142 _ ⟨rfl, rfl⟩ l143
    refine smv rfl rfl ?_
    refine sv (v := (.agg #[.string (bs q140.1.Name), .int .i64 q140.1.N, .int .i64 q140.1.To])) (Yields.extract rfl rfl) rfl ?_
    refine sv (v := (.bool q140.2)) (Yields.extract rfl rfl) rfl ?_
    refine St.alloc tz49 trivial rfl ?_
    intro b144
    refine St.storen (R := [blk b2 (.cells #[.int .i64 0, .int .i64 0, .int .i64 0, .int .i64 0, .string (bs []), .slice none 0 0, .slice none 0 0] 40 (0, 0)), blk b97 (.cells #[.int .i64 1, .int .i64 x82, .int .i64 x89, .int .i64 0, .string (bs []), .slice none 0 0, .slice A124 s119.1.length c125] 40 (0, 0)), rowo A124 s119.1.length c125 49 3 cells127]) rfl rfl 0 rfl rfl ta49 rfl rfl rfl trivial (cs' := #[.string (bs q140.1.Name), .int .i64 q140.1.N, .int .i64 q140.1.To]) rfl ?_
    refine sas rfl rfl ?_
    refine snn ?_
    refine St.seq ?_
    refine ssr ?_
    refine smv rfl rfl ?_
    refine sv (v := (.bool (!q140.2))) (Yields.not rfl) rfl ?_
    refine snn ?_
    refine St.cond_b rfl ?_ ?_
    ·intro q145
     replace q145 : ¬ (q140.2 = true) := nb_t q145
     replace hm := iF hm q145
     refine ssr ?_
     refine sv (v := (.agg #[.int .i64 0, .int .i64 0, .int .i64 0, .int .i64 0, .string (bs []), .slice none 0 0, .slice none 0 0])) (Yields.build (v := (.agg #[.int .i64 0, .int .i64 0, .int .i64 0, .int .i64 0, .string (bs []), .slice none 0 0, .slice none 0 0])) (vs := #[]) (fun a _ => by simp) (fun _ => by kernel_rfl)) rfl ?_
     refine St.storen (R := [blk b144 (.cells #[.string (bs q140.1.Name), .int .i64 q140.1.N, .int .i64 q140.1.To] 49 (0, 0)), blk b97 (.cells #[.int .i64 1, .int .i64 x82, .int .i64 x89, .int .i64 0, .string (bs []), .slice none 0 0, .slice A124 s119.1.length c125] 40 (0, 0)), rowo A124 s119.1.length c125 49 3 cells127]) rfl rfl 1 rfl rfl ta40 rfl rfl rfl trivial (cs' := #[.int .i64 0, .int .i64 0, .int .i64 0, .int .i64 0, .string (bs []), .slice none 0 0, .slice none 0 0]) rfl ?_
     refine sas rfl rfl ?_
     refine snn ?_
     refine St.ret ?_
     refine St.thenret ?_
     refine St.inret ?_
     refine St.thenret ?_
     refine St.thenret ?_
     refine St.inret ?_
     refine St.thenret ?_
     refine St.inret ?_
     refine St.thenret ?_
     obtain rfl := sI hm
     obtain rfl := aR ho122
     obtain rfl := aR ho109
     exact St.doneR2 rfl (ResOk.cell rfl (Loads.Hk (vs := [.int .i64 0, .int .i64 0, .int .i64 0, .int .i64 0, .string (bs []), .slice none 0 0, .slice none 0 0]) 0 rfl ta40 rfl rfl)) rfl ⟨none, 0, none, 0, rfl, Fsl.nil, Fsl.nil, rfl⟩ (fun w hs => Among.of Among.none w hs)
    intro q146
    replace q146 : q140.2 = true := nb_f q146
    replace hm := iT hm q146
    refine skn ?_
    refine St.region ?_
    refine sfa (v := (.pointer (some ⟨b97, 6, none⟩))) rfl (fun _ => by kernel_rfl) rfl ?_
    refine sv (v := (.slice A124 s119.1.length c125)) (Yields.load rfl (Loads.H1 2 rfl tc38 rfl)) rfl ?_
    refine sv (v := (.agg #[.string (bs q140.1.Name), .int .i64 q140.1.N, .int .i64 q140.1.To])) (Yields.load rfl (Loads.Hk (vs := [.string (bs q140.1.Name), .int .i64 q140.1.N, .int .i64 q140.1.To]) 0 rfl ta49 rfl rfl)) rfl ?_
    refine St.buildSlice (e := 49) (cells := #[.string (bs q140.1.Name), .int .i64 q140.1.N, .int .i64 q140.1.To]) (vs := #[(0, .agg #[.string (bs q140.1.Name), .int .i64 q140.1.N, .int .i64 q140.1.To])]) (fun _ ha => evp1 ha rfl) (fun _ => by kernel_rfl) rfl trivial ?_
    intro b147
    obtain ⟨x152, e153, hm⟩ := bS hm
    refine St.pushL (R := [blk b147 (.cells #[.string (bs q140.1.Name), .int .i64 q140.1.N, .int .i64 q140.1.To] 49 (0, 0)), blk b144 (.cells #[.string (bs q140.1.Name), .int .i64 q140.1.N, .int .i64 q140.1.To] 49 (0, 0)), blk b2 (.cells #[.int .i64 0, .int .i64 0, .int .i64 0, .int .i64 0, .string (bs []), .slice none 0 0, .slice none 0 0] 40 (0, 0)), blk b97 (.cells #[.int .i64 1, .int .i64 x82, .int .i64 x89, .int .i64 0, .string (bs []), .slice none 0 0, .slice A124 s119.1.length c125] 40 (0, 0))]) (R3 := [blk b144 (.cells #[.string (bs q140.1.Name), .int .i64 q140.1.N, .int .i64 q140.1.To] 49 (0, 0)), blk b2 (.cells #[.int .i64 0, .int .i64 0, .int .i64 0, .int .i64 0, .string (bs []), .slice none 0 0, .slice none 0 0] 40 (0, 0)), blk b97 (.cells #[.int .i64 1, .int .i64 x82, .int .i64 x89, .int .i64 0, .string (bs []), .slice none 0 0, .slice A124 s119.1.length c125] 40 (0, 0))]) e153 ts38 rfl rfl rfl rfl rfl 4 rfl rfl 0 rfl 0 rfl rfl (Cat.mono l143 h126) ⟨[.string (bs q140.1.Name), .int .i64 q140.1.N, .int .i64 q140.1.To], _, rfl, (DJump.of), rfl⟩ rfl trivial ?_
    intro A148 c149 cells150 h151
    refine sfa (v := (.pointer (some ⟨b97, 6, none⟩))) rfl (fun _ => by kernel_rfl) rfl ?_
    refine St.store (R := [rowo A148 x152.length c149 49 3 cells150, blk b144 (.cells #[.string (bs q140.1.Name), .int .i64 q140.1.N, .int .i64 q140.1.To] 49 (0, 0)), blk b2 (.cells #[.int .i64 0, .int .i64 0, .int .i64 0, .int .i64 0, .string (bs []), .slice none 0 0, .slice none 0 0] 40 (0, 0))]) rfl rfl 3 rfl rfl tc38 rfl rfl trivial (cs' := #[.int .i64 1, .int .i64 x82, .int .i64 x89, .int .i64 0, .string (bs []), .slice none 0 0, .slice A148 x152.length c149]) rfl ?_
    refine St.nil ?_
    refine St.innorm ?_
    refine St.norm ?_
    refine St.region ?_
    refine smv rfl rfl ?_
    refine sv (v := (.int .i64 ((s119.2 + 1 : Nat) : Int))) (Yields.addn (j := 1) rfl rfl rfl (by have q_0 := q132; have q_1 := ph0.bnd.2; omega)) rfl ?_
    refine sas rfl rfl ?_
    refine snn ?_
    obtain rfl := sI hm
    intro a w ha hs
    exact ⟨(x152, s119.2 + 1), aL ho122, A148, c149, cells150, F142, (PH.le_trans l130 l143), h151, (Bnd.of_push e153), ha.covers ⟨rfl, rfl, rfl, rfl, trivial⟩, (Among.of (Among.take 3 rfl rfl (Among.take 0 rfl rfl (Among.take 0 rfl rfl Among.none))) _ hs)⟩
   intro q155
   replace q155 : ¬ (((s119.2 : Nat) : Int) < ((a0.length : Nat) : Int)) := of_decide_eq_false q155
   replace hm := iF hm q155
   refine St.exit ?_
   refine St.thenexit ?_
   refine St.thenexit ?_
   refine St.inexit ?_
   obtain rfl := sI hm
   obtain rfl := aR ho122
   intro a w ha hs
   exact ⟨s119.1, rfl, A124, c125, cells127, F129, l130, h126, b128, ha.covers ⟨rfl, rfl, trivial⟩, (Among.of (Among.take 0 rfl rfl (Among.take 0 rfl rfl (Among.take 0 rfl rfl Among.none))) _ hs)⟩
  rintro a w ⟨z99, rfl, A103, c104, cells106, F100, l101, h105, b107, ha, hs⟩
  replace hm := aL ho109
  refine St.use (?_ : St _ _ _ _ _ _) ha hs
  clear ha hs a w
  refine ssr ?_
  refine sv (v := (.agg #[.int .i64 1, .int .i64 x82, .int .i64 x89, .int .i64 0, .string (bs []), .slice none 0 0, .slice A103 z99.length c104])) (Yields.load rfl (Loads.Hk (vs := [.int .i64 1, .int .i64 x82, .int .i64 x89, .int .i64 0, .string (bs []), .slice none 0 0, .slice A103 z99.length c104]) 1 rfl ta40 rfl rfl)) rfl ?_
  refine St.storen (R := [blk b97 (.cells #[.int .i64 1, .int .i64 x82, .int .i64 x89, .int .i64 0, .string (bs []), .slice none 0 0, .slice A103 z99.length c104] 40 (0, 0)), rowo A103 z99.length c104 49 3 cells106]) rfl rfl 0 rfl rfl ta40 rfl rfl rfl trivial (cs' := #[.int .i64 1, .int .i64 x82, .int .i64 x89, .int .i64 0, .string (bs []), .slice none 0 0, .slice A103 z99.length c104]) rfl ?_
  refine sas rfl rfl ?_
  refine snn ?_
  refine St.ret ?_
  refine St.inret ?_
  refine St.thenret ?_
  refine St.frz 2 rfl rfl rfl h105 b107 ?_
  intro F156 l157 h158
  obtain rfl := sI hm
  exact St.doneR2 rfl (ResOk.cell rfl (Loads.Hk (vs := [.int .i64 1, .int .i64 x82, .int .i64 x89, .int .i64 0, .string (bs []), .slice none 0 0, .slice A103 z99.length c104]) 0 rfl ta40 rfl rfl)) rfl ⟨none, 0, A103, c104, rfl, Fsl.nil, h158, rfl⟩ (fun w hs => Among.of Among.none w hs)
 intro q159
 replace q159 : ¬ (x3 = ([109, 97, 116, 99, 104] : List UInt8)) := of_decide_eq_false q159
 replace hm := iF hm q159
 refine St.skip ?_
 refine St.innorm ?_
 refine St.norm ?_
 refine ssr ?_
 refine sv (v := (.agg #[.int .i64 0, .int .i64 0, .int .i64 0, .int .i64 0, .string (bs []), .slice none 0 0, .slice none 0 0])) (Yields.build (v := (.agg #[.int .i64 0, .int .i64 0, .int .i64 0, .int .i64 0, .string (bs []), .slice none 0 0, .slice none 0 0])) (vs := #[]) (fun a _ => by simp) (fun _ => by kernel_rfl)) rfl ?_
 refine St.storen (R := []) rfl rfl 0 rfl rfl ta40 rfl rfl rfl trivial (cs' := #[.int .i64 0, .int .i64 0, .int .i64 0, .int .i64 0, .string (bs []), .slice none 0 0, .slice none 0 0]) rfl ?_
 refine sas rfl rfl ?_
 refine snn ?_
 refine St.ret ?_
 obtain rfl := sI hm
 exact St.doneR2 rfl (ResOk.cell rfl (Loads.Hk (vs := [.int .i64 0, .int .i64 0, .int .i64 0, .int .i64 0, .string (bs []), .slice none 0 0, .slice none 0 0]) 0 rfl ta40 rfl rfl)) rfl ⟨none, 0, none, 0, rfl, Fsl.nil, Fsl.nil, rfl⟩ (fun w hs => Among.of Among.none w hs)
theorem m_ref14_sizes_sp {F : PH} {g : Nat} {a0 : List DCode} {pA0 : Option Addr} {pc0 : Nat} (ph0 : Fsl 48 KDCode F pA0 pc0 a0) {r : Int} (hm : m_ref14_sizes g a0 = some r) :
  CallSp Tryz.prog 18 #[.slice pA0 a0.length pc0] F [] (fun u F' H' => u = (.int .i64 r) ∧ H' = []) := by

 unfold m_ref14_sizes at hm
 refine CallSp.enter (args := [.slice pA0 a0.length pc0]) Tryz.func18 rfl rfl ?_
 intro w0 m0 hm0
 refine ssr ?_
 refine sas rfl rfl ?_
 refine snn ?_
 refine St.seq ?_
 refine ssr ?_
 refine smv rfl rfl ?_
 refine sv (v := (.int .i64 ((a0.length : Nat) : Int))) (Yields.lenSlice tu22 rfl) rfl ?_
 refine sv (v := (.bool (decide (((a0.length : Nat) : Int) > 120)))) (Yields.gt rfl rfl) rfl ?_
 refine snn ?_
 refine St.cond_b rfl ?_ ?_
 ·intro q2
  replace q2 : ((a0.length : Nat) : Int) > 120 := of_decide_eq_true q2
  replace hm := iT hm q2
  refine ssr ?_
  refine sas rfl rfl ?_
  refine snn ?_
  refine St.ret ?_
  refine St.thenret ?_
  obtain rfl := sI hm
  exact St.doneR1 rfl rfl ⟨rfl, rfl⟩ (fun w hs => Among.of Among.none w hs)
 intro q3
 replace q3 : ¬ (((a0.length : Nat) : Int) > 120) := of_decide_eq_false q3
 replace hm := iF hm q3
 refine skn ?_
 obtain ⟨o5, hm, ho6⟩ := jS hm
 refine St.cutI (fun a w => ∃ z4 : Unit, o5 = .inl z4 ∧ Has Tryz.f18.ntmps a [] ∧ Sat ⟨w0, fun b => m0 b ≠ none, F⟩ F [] w) ?_ ?_
 ·skip
  refine ssr ?_
  refine sas rfl rfl ?_
  refine snn ?_
  refine St.block ?_
  refine St.loopM hm (fun s8 a w => Has Tryz.f18.ntmps a [(0, .slice pA0 a0.length pc0), (3, .int .i64 ((s8 : Nat) : Int))] ∧ Sat ⟨w0, fun b => m0 b ≠ none, F⟩ F [] w) ?_ ?_
  ·skip
   intro a w ha hs
   exact ⟨ha.covers ⟨rfl, rfl, trivial⟩, (Among.of Among.none _ hs)⟩
  rintro s8 o9 co10 hm ho11 a w ⟨ha, hs⟩
  refine St.use (?_ : St _ _ _ _ _ _) ha hs
  clear ha hs a w
  refine St.seq ?_
  refine ssr ?_
  refine smv rfl rfl ?_
  refine smv rfl rfl ?_
  refine sv (v := (.int .i64 ((a0.length : Nat) : Int))) (Yields.lenSlice tu22 rfl) rfl ?_
  refine sv (v := (.bool (decide (((s8 : Nat) : Int) < ((a0.length : Nat) : Int))))) (Yields.lt rfl rfl) rfl ?_
  refine snn ?_
  refine St.cond_b rfl ?_ ?_
  ·intro q12
   replace q12 : ((s8 : Nat) : Int) < ((a0.length : Nat) : Int) := of_decide_eq_true q12
   replace hm := iT hm q12
   refine skn ?_
   refine St.seq ?_
   refine St.block ?_
   refine ssr ?_
   refine smv rfl rfl ?_
   refine smv rfl rfl ?_
   obtain ⟨x13, e14, hm⟩ := bS hm
   obtain ⟨p15, cs16, jx17, R18, k19⟩ := ph0.nidx e14
   obtain ⟨A20, c21, rfl, h22⟩ := DCode.opn R18
   refine sv (v := (.pointer (some p15))) (Yields.idx jx17 ts22 rfl rfl) rfl ?_
   refine sfa (v := (.pointer (some (p15.add 2)))) rfl (fun _ => by kernel_rfl) rfl ?_
   refine sv (v := (.slice A20 x13.L.length c21)) (Yields.load rfl (Loads.Fatk 2 k19 tc34 rfl)) rfl ?_
   refine sv (v := (.int .i64 ((x13.L.length : Nat) : Int))) (Yields.lenSlice tu34 rfl) rfl ?_
   refine sv (v := (.bool (decide (((x13.L.length : Nat) : Int) > 400)))) (Yields.gt rfl rfl) rfl ?_
   refine snn ?_
   refine St.cond_b rfl ?_ ?_
   ·intro q24
    replace q24 : ((x13.L.length : Nat) : Int) > 400 := of_decide_eq_true q24
    replace hm := iT hm q24
    refine ssr ?_
    refine sas rfl rfl ?_
    refine snn ?_
    refine St.ret ?_
    refine St.inret ?_
    refine St.thenret ?_
    refine St.thenret ?_
    refine St.inret ?_
    refine St.thenret ?_
    obtain rfl := sI hm
    obtain rfl := aR ho11
    obtain rfl := aR ho6
    exact St.doneR1 rfl rfl ⟨rfl, rfl⟩ (fun w hs => Among.of Among.none w hs)
   intro q25
   replace q25 : ¬ (((x13.L.length : Nat) : Int) > 400) := of_decide_eq_false q25
   replace hm := iF hm q25
   refine St.skip ?_
   refine St.innorm ?_
   refine St.norm ?_
   refine St.region ?_
   refine smv rfl rfl ?_
   refine sv (v := (.int .i64 ((s8 + 1 : Nat) : Int))) (Yields.addn (j := 1) rfl rfl rfl (by have q_0 := q12; have q_1 := ph0.bnd.2; omega)) rfl ?_
   refine sas rfl rfl ?_
   refine snn ?_
   obtain rfl := sI hm
   intro a w ha hs
   exact ⟨s8 + 1, aL ho11, ha.covers ⟨rfl, rfl, trivial⟩, (Among.of Among.none _ hs)⟩
  intro q26
  replace q26 : ¬ (((s8 : Nat) : Int) < ((a0.length : Nat) : Int)) := of_decide_eq_false q26
  replace hm := iF hm q26
  refine St.exit ?_
  refine St.thenexit ?_
  refine St.thenexit ?_
  refine St.inexit ?_
  obtain rfl := sI hm
  obtain rfl := aR ho11
  intro a w ha hs
  exact ⟨(), rfl, ha.covers trivial, (Among.of Among.none _ hs)⟩
 rintro a w ⟨z4, rfl, ha, hs⟩
 replace hm := aL ho6
 refine St.use (?_ : St _ _ _ _ _ _) ha hs
 clear ha hs a w
 refine ssr ?_
 refine sas rfl rfl ?_
 refine snn ?_
 refine St.ret ?_
 obtain rfl := sI hm
 exact St.doneR1 rfl rfl ⟨rfl, rfl⟩ (fun w hs => Among.of Among.none w hs)
theorem m_ref08_isSmall_sp {F : PH} {g : Nat} {a0 : Int} {r : Bool} (hm : m_ref08_isSmall g a0 = some r) :
  CallSp Tryz.prog 81 #[.int .u8 a0] F [] (fun u F' H' => u = (.bool r) ∧ H' = []) := by

 unfold m_ref08_isSmall at hm
 refine CallSp.enter (args := [.int .u8 a0]) Tryz.func81 rfl rfl ?_
 intro w0 m0 hm0
 refine ssr ?_
 refine sas rfl rfl ?_
 refine snn ?_
 obtain ⟨z1, hm, hk2⟩ := bS hm
 refine St.cutI (fun a w => Has Tryz.f81.ntmps a [(2, .bool z1)] ∧ Sat ⟨w0, fun b => m0 b ≠ none, F⟩ F [] w) ?_ ?_
 ·skip
  refine St.region ?_
  refine smv rfl rfl ?_
  by_cases q3 : a0 ≥ 97
  ·replace hm := iT hm q3
   refine sv (v := vT) (Yields.is q3 (Yields.ge rfl rfl)) rfl ?_
   refine smv rfl rfl ?_
   refine St.val (v := (.int .u8 a0)) (Yields.move rfl) rfl rfl rfl ?_
   refine St.val (v := (.bool (decide (a0 ≤ 122)))) (Yields.le rfl rfl) rfl rfl rfl ?_
   refine spt rfl rfl rfl ?_
   refine sas rfl rfl ?_
   refine St.nil ?_
   obtain rfl := sI hm
   intro a w ha hs
   exact ⟨ha.covers ⟨rfl, trivial⟩, (Among.of Among.none _ hs)⟩
  replace hm := iF hm q3
  refine sv (v := vF) (Yields.isnt q3 (Yields.ge rfl rfl)) rfl ?_
  refine smv rfl rfl ?_
  refine su rfl rfl rfl ?_
  refine su rfl rfl rfl ?_
  refine spf rfl rfl rfl ?_
  refine sas rfl rfl ?_
  refine St.nil ?_
  obtain rfl := sI hm
  intro a w ha hs
  exact ⟨ha.covers ⟨rfl, trivial⟩, (Among.of Among.none _ hs)⟩
 rintro a w ⟨ha, hs⟩
 replace hm := hk2
 refine St.use (?_ : St _ _ _ _ _ _) ha hs
 clear ha hs a w
 refine St.ret ?_
 obtain rfl := sI hm
 exact St.doneR1 rfl rfl ⟨rfl, rfl⟩ (fun w hs => Among.of Among.none w hs)
theorem m_ref08_isGreat_sp {F : PH} {g : Nat} {a0 : Int} {r : Bool} (hm : m_ref08_isGreat g a0 = some r) :
  CallSp Tryz.prog 84 #[.int .u8 a0] F [] (fun u F' H' => u = (.bool r) ∧ H' = []) := by

 unfold m_ref08_isGreat at hm
 refine CallSp.enter (args := [.int .u8 a0]) Tryz.func84 rfl rfl ?_
 intro w0 m0 hm0
 refine ssr ?_
 refine sas rfl rfl ?_
 refine snn ?_
 obtain ⟨z1, hm, hk2⟩ := bS hm
 refine St.cutI (fun a w => Has Tryz.f84.ntmps a [(2, .bool z1)] ∧ Sat ⟨w0, fun b => m0 b ≠ none, F⟩ F [] w) ?_ ?_
 ·skip
  refine St.region ?_
  refine smv rfl rfl ?_
  by_cases q3 : a0 ≥ 65
  ·replace hm := iT hm q3
   refine sv (v := vT) (Yields.is q3 (Yields.ge rfl rfl)) rfl ?_
   refine smv rfl rfl ?_
   refine St.val (v := (.int .u8 a0)) (Yields.move rfl) rfl rfl rfl ?_
   refine St.val (v := (.bool (decide (a0 ≤ 90)))) (Yields.le rfl rfl) rfl rfl rfl ?_
   refine spt rfl rfl rfl ?_
   refine sas rfl rfl ?_
   refine St.nil ?_
   obtain rfl := sI hm
   intro a w ha hs
   exact ⟨ha.covers ⟨rfl, trivial⟩, (Among.of Among.none _ hs)⟩
  replace hm := iF hm q3
  refine sv (v := vF) (Yields.isnt q3 (Yields.ge rfl rfl)) rfl ?_
  refine smv rfl rfl ?_
  refine su rfl rfl rfl ?_
  refine su rfl rfl rfl ?_
  refine spf rfl rfl rfl ?_
  refine sas rfl rfl ?_
  refine St.nil ?_
  obtain rfl := sI hm
  intro a w ha hs
  exact ⟨ha.covers ⟨rfl, trivial⟩, (Among.of Among.none _ hs)⟩
 rintro a w ⟨ha, hs⟩
 replace hm := hk2
 refine St.use (?_ : St _ _ _ _ _ _) ha hs
 clear ha hs a w
 refine St.ret ?_
 obtain rfl := sI hm
 exact St.doneR1 rfl rfl ⟨rfl, rfl⟩ (fun w hs => Among.of Among.none w hs)
theorem m_ref08_isDigit_sp {F : PH} {g : Nat} {a0 : Int} {r : Bool} (hm : m_ref08_isDigit g a0 = some r) :
  CallSp Tryz.prog 99 #[.int .u8 a0] F [] (fun u F' H' => u = (.bool r) ∧ H' = []) := by

 unfold m_ref08_isDigit at hm
 refine CallSp.enter (args := [.int .u8 a0]) Tryz.func99 rfl rfl ?_
 intro w0 m0 hm0
 refine ssr ?_
 refine sas rfl rfl ?_
 refine snn ?_
 obtain ⟨z1, hm, hk2⟩ := bS hm
 refine St.cutI (fun a w => Has Tryz.f99.ntmps a [(2, .bool z1)] ∧ Sat ⟨w0, fun b => m0 b ≠ none, F⟩ F [] w) ?_ ?_
 ·skip
  refine St.region ?_
  refine smv rfl rfl ?_
  by_cases q3 : a0 ≥ 48
  ·replace hm := iT hm q3
   refine sv (v := vT) (Yields.is q3 (Yields.ge rfl rfl)) rfl ?_
   refine smv rfl rfl ?_
   refine St.val (v := (.int .u8 a0)) (Yields.move rfl) rfl rfl rfl ?_
   refine St.val (v := (.bool (decide (a0 ≤ 57)))) (Yields.le rfl rfl) rfl rfl rfl ?_
   refine spt rfl rfl rfl ?_
   refine sas rfl rfl ?_
   refine St.nil ?_
   obtain rfl := sI hm
   intro a w ha hs
   exact ⟨ha.covers ⟨rfl, trivial⟩, (Among.of Among.none _ hs)⟩
  replace hm := iF hm q3
  refine sv (v := vF) (Yields.isnt q3 (Yields.ge rfl rfl)) rfl ?_
  refine smv rfl rfl ?_
  refine su rfl rfl rfl ?_
  refine su rfl rfl rfl ?_
  refine spf rfl rfl rfl ?_
  refine sas rfl rfl ?_
  refine St.nil ?_
  obtain rfl := sI hm
  intro a w ha hs
  exact ⟨ha.covers ⟨rfl, trivial⟩, (Among.of Among.none _ hs)⟩
 rintro a w ⟨ha, hs⟩
 replace hm := hk2
 refine St.use (?_ : St _ _ _ _ _ _) ha hs
 clear ha hs a w
 refine St.ret ?_
 obtain rfl := sI hm
 exact St.doneR1 rfl rfl ⟨rfl, rfl⟩ (fun w hs => Among.of Among.none w hs)
theorem m_ref08_isWord_sp {F : PH} {g : Nat} {a0 : Int} {r : Bool} (hm : m_ref08_isWord g a0 = some r) :
  CallSp Tryz.prog 83 #[.int .u8 a0] F [] (fun u F' H' => u = (.bool r) ∧ H' = []) := by

 unfold m_ref08_isWord at hm
 refine CallSp.enter (args := [.int .u8 a0]) Tryz.func83 rfl rfl ?_
 intro w0 m0 hm0
 refine ssr ?_
 refine sas rfl rfl ?_
 refine snn ?_
 obtain ⟨z1, hm, hk4⟩ := bS hm
 refine St.cutI (fun a w => ∃ (F2 : PH), PH.le F F2 ∧ Has Tryz.f83.ntmps a [(2, .bool z1)] ∧ Sat ⟨w0, fun b => m0 b ≠ none, F⟩ F2 [] w) ?_ ?_
 ·skip
  refine St.region ?_
  refine smv rfl rfl ?_
  obtain ⟨q5, e6, hm⟩ := bS hm
  refine St.call [] (m_ref08_isSmall_sp e6) rfl (fun _ ha => ev1 ha rfl) rfl en81 rfl rfl trivial ?_
  rintro _ F7 _ ⟨rfl, rfl⟩ l8
  by_cases q9 : q5 = true
  ·replace hm := iT hm q9
   have hb10 : (q5) = true := q9
   try rw [hb10]
   refine smv rfl rfl ?_
   refine su rfl rfl rfl ?_
   refine su rfl rfl rfl ?_
   refine spt rfl rfl rfl ?_
   refine smv rfl rfl ?_
   refine su rfl rfl rfl ?_
   refine su rfl rfl rfl ?_
   refine spt rfl rfl rfl ?_
   refine smv rfl rfl ?_
   refine su rfl rfl rfl ?_
   refine su rfl rfl rfl ?_
   refine spt rfl rfl rfl ?_
   refine sas rfl rfl ?_
   refine St.nil ?_
   obtain rfl := sI hm
   intro a w ha hs
   exact ⟨F7, l8, ha.covers ⟨rfl, trivial⟩, (Among.of Among.none _ hs)⟩
  replace hm := iF hm q9
  have hb11 : (q5) = false := eq_false_of_ne_true q9
  try rw [hb11]
  refine smv rfl rfl ?_
  refine St.val (v := (.int .u8 a0)) (Yields.move rfl) rfl rfl rfl ?_
  obtain ⟨q12, e13, hm⟩ := bS hm
  refine St.call [] (m_ref08_isGreat_sp e13) rfl (fun _ ha => ev1 ha rfl) rfl en84 rfl rfl rfl ?_
  rintro _ F14 _ ⟨rfl, rfl⟩ l15
  by_cases q16 : q12 = true
  ·replace hm := iT hm q16
   have hb17 : (q12) = true := q16
   try rw [hb17]
   refine spf rfl rfl rfl ?_
   refine smv rfl rfl ?_
   refine su rfl rfl rfl ?_
   refine su rfl rfl rfl ?_
   refine spt rfl rfl rfl ?_
   refine smv rfl rfl ?_
   refine su rfl rfl rfl ?_
   refine su rfl rfl rfl ?_
   refine spt rfl rfl rfl ?_
   refine sas rfl rfl ?_
   refine St.nil ?_
   obtain rfl := sI hm
   intro a w ha hs
   exact ⟨F14, (PH.le_trans l8 l15), ha.covers ⟨rfl, trivial⟩, (Among.of Among.none _ hs)⟩
  replace hm := iF hm q16
  have hb18 : (q12) = false := eq_false_of_ne_true q16
  try rw [hb18]
  refine spf rfl rfl rfl ?_
  refine smv rfl rfl ?_
  refine St.val (v := (.int .u8 a0)) (Yields.move rfl) rfl rfl rfl ?_
  obtain ⟨q19, e20, hm⟩ := bS hm
  refine St.call [] (m_ref08_isDigit_sp e20) rfl (fun _ ha => ev1 ha rfl) rfl en99 rfl rfl rfl ?_
  rintro _ F21 _ ⟨rfl, rfl⟩ l22
  by_cases q23 : q19 = true
  ·replace hm := iT hm q23
   have hb24 : (q19) = true := q23
   try rw [hb24]
   refine spf rfl rfl rfl ?_
   refine smv rfl rfl ?_
   refine su rfl rfl rfl ?_
   refine su rfl rfl rfl ?_
   refine spt rfl rfl rfl ?_
   refine sas rfl rfl ?_
   refine St.nil ?_
   obtain rfl := sI hm
   intro a w ha hs
   exact ⟨F21, (PH.le_trans l8 (PH.le_trans l15 l22)), ha.covers ⟨rfl, trivial⟩, (Among.of Among.none _ hs)⟩
  replace hm := iF hm q23
  have hb25 : (q19) = false := eq_false_of_ne_true q23
  try rw [hb25]
  refine spf rfl rfl rfl ?_
  refine smv rfl rfl ?_
  refine St.val (v := (.int .u8 a0)) (Yields.move rfl) rfl rfl rfl ?_
  refine St.val (v := (.bool (decide (a0 = 95)))) (Yields.eq rfl rfl) rfl rfl rfl ?_
  refine spf rfl rfl rfl ?_
  refine sas rfl rfl ?_
  refine St.nil ?_
  obtain rfl := sI hm
  intro a w ha hs
  exact ⟨F21, (PH.le_trans l8 (PH.le_trans l15 l22)), ha.covers ⟨rfl, trivial⟩, (Among.of Among.none _ hs)⟩
 rintro a w ⟨F2, l3, ha, hs⟩
 replace hm := hk4
 refine St.use (?_ : St _ _ _ _ _ _) ha hs
 clear ha hs a w
 refine St.ret ?_
 obtain rfl := sI hm
 exact St.doneR1 rfl rfl ⟨rfl, rfl⟩ (fun w hs => Among.of Among.none w hs)
theorem m_ref08_rest_sp {F : PH} {g : Nat} {a0 : List UInt8} {a1 : Int} {r : Bool} (hm : m_ref08_rest g a0 a1 = some r) :
  CallSp Tryz.prog 63 #[.string (bs a0), .int .i64 a1] F [] (fun u F' H' => u = (.bool r) ∧ H' = []) := by

 unfold m_ref08_rest at hm
 refine CallSp.enter (args := [.string (bs a0), .int .i64 a1]) Tryz.func63 rfl rfl ?_
 intro w0 m0 hm0
 refine ssr ?_
 refine sas rfl rfl ?_
 refine snn ?_
 obtain ⟨o4, hm, ho5⟩ := jS hm
 refine St.cutI (fun a w => ∃ z1 : Unit, o4 = .inl z1 ∧ ∃ (F2 : PH), PH.le F F2 ∧ Has Tryz.f63.ntmps a [] ∧ Sat ⟨w0, fun b => m0 b ≠ none, F⟩ F2 [] w) ?_ ?_
 ·skip
  refine ssr ?_
  refine smv rfl rfl ?_
  refine sas rfl rfl ?_
  refine snn ?_
  refine St.block ?_
  refine St.loopM hm (fun s8 a w => ∃ (F12 : PH), PH.le F F12 ∧ Has Tryz.f63.ntmps a [(0, .string (bs a0)), (5, .int .i64 s8)] ∧ Sat ⟨w0, fun b => m0 b ≠ none, F⟩ F12 [] w) ?_ ?_
  ·skip
   intro a w ha hs
   exact ⟨F, (PH.le_refl _), ha.covers ⟨rfl, rfl, trivial⟩, (Among.of Among.none _ hs)⟩
  rintro s8 o9 co10 hm ho11 a w ⟨F12, l13, ha, hs⟩
  refine St.use (?_ : St _ _ _ _ _ _) ha hs
  clear ha hs a w
  refine St.seq ?_
  refine ssr ?_
  refine smv rfl rfl ?_
  refine smv rfl rfl ?_
  refine sv (v := (.int .i64 ((a0.length : Nat) : Int))) (Yields.lenStr tu9 rfl) rfl ?_
  refine sv (v := (.bool (decide (s8 < ((a0.length : Nat) : Int))))) (Yields.lt rfl rfl) rfl ?_
  refine snn ?_
  refine St.cond_b rfl ?_ ?_
  ·intro q14
   replace q14 : s8 < ((a0.length : Nat) : Int) := of_decide_eq_true q14
   replace hm := iT hm q14
   refine skn ?_
   refine St.seq ?_
   refine St.block ?_
   refine ssr ?_
   refine smv rfl rfl ?_
   refine smv rfl rfl ?_
   obtain ⟨x15, e16, hm⟩ := bS hm
   refine sv (v := (.int .u8 ((x15.toNat : Nat) : Int))) (Yields.indexStr e16 tu9 rfl rfl) rfl ?_
   obtain ⟨q17, e18, hm⟩ := bS hm
   refine St.call [] (m_ref08_isWord_sp e18) rfl (fun _ ha => ev1 ha rfl) rfl en83 rfl rfl trivial ?_
   rintro _ F19 _ ⟨rfl, rfl⟩ l20
   refine sv (v := (.bool (!q17))) (Yields.not rfl) rfl ?_
   refine snn ?_
   refine St.cond_b rfl ?_ ?_
   ·intro q21
    replace q21 : ¬ (q17 = true) := nb_t q21
    replace hm := iF hm q21
    refine ssr ?_
    refine sas rfl rfl ?_
    refine snn ?_
    refine St.ret ?_
    refine St.inret ?_
    refine St.thenret ?_
    refine St.thenret ?_
    refine St.inret ?_
    refine St.thenret ?_
    obtain rfl := sI hm
    obtain rfl := aR ho11
    obtain rfl := aR ho5
    exact St.doneR1 rfl rfl ⟨rfl, rfl⟩ (fun w hs => Among.of Among.none w hs)
   intro q22
   replace q22 : q17 = true := nb_f q22
   replace hm := iT hm q22
   refine St.skip ?_
   refine St.innorm ?_
   refine St.norm ?_
   refine St.region ?_
   refine smv rfl rfl ?_
   refine sv (v := (.int .i64 (Mir.w64 (s8 + 1)))) (Yields.addw rfl rfl) rfl ?_
   refine sas rfl rfl ?_
   refine snn ?_
   obtain rfl := sI hm
   intro a w ha hs
   exact ⟨Mir.w64 (s8 + 1), aL ho11, F19, (PH.le_trans l13 l20), ha.covers ⟨rfl, rfl, trivial⟩, (Among.of Among.none _ hs)⟩
  intro q23
  replace q23 : ¬ (s8 < ((a0.length : Nat) : Int)) := of_decide_eq_false q23
  replace hm := iF hm q23
  refine St.exit ?_
  refine St.thenexit ?_
  refine St.thenexit ?_
  refine St.inexit ?_
  obtain rfl := sI hm
  obtain rfl := aR ho11
  intro a w ha hs
  exact ⟨(), rfl, F12, l13, ha.covers trivial, (Among.of Among.none _ hs)⟩
 rintro a w ⟨z1, rfl, F2, l3, ha, hs⟩
 replace hm := aL ho5
 refine St.use (?_ : St _ _ _ _ _ _) ha hs
 clear ha hs a w
 refine ssr ?_
 refine sas rfl rfl ?_
 refine snn ?_
 refine St.ret ?_
 obtain rfl := sI hm
 exact St.doneR1 rfl rfl ⟨rfl, rfl⟩ (fun w hs => Among.of Among.none w hs)
theorem m_ref08_reserved_sp {F : PH} {g : Nat} {r : List (List UInt8)} (hm : m_ref08_reserved g = some r) :
  CallSp Tryz.prog 82 #[] F [] (fun u F' H' => ∃ (B0 : Option Addr) (d0 : Nat), u = (.slice B0 r.length d0) ∧ Fsl 16 Kind.str F' B0 d0 r ∧ H' = []) := by

 unfold m_ref08_reserved at hm
 refine CallSp.enter (args := []) Tryz.func82 rfl rfl ?_
 intro w0 m0 hm0
 refine ssr ?_
 refine sas rfl rfl ?_
 refine snn ?_
 refine ssr ?_
 refine St.buildSlice (e := 9) (cells := #[.string (bs [100, 97, 116, 97]), .string (bs [99, 108, 97, 115, 115]), .string (bs [105, 110, 115, 116, 97, 110, 99, 101]), .string (bs [111, 112]), .string (bs [101, 110, 100]), .string (bs [119, 104, 101, 114, 101]), .string (bs [108, 101, 116]), .string (bs [105, 110]), .string (bs [102, 114, 101, 101]), .string (bs [99, 97, 115, 101]), .string (bs [114, 105, 103, 105, 100]), .string (bs [111, 102]), .string (bs [102, 97, 105, 108])]) (vs := #[(0, .string (bs [100, 97, 116, 97])), (1, .string (bs [99, 108, 97, 115, 115])), (2, .string (bs [105, 110, 115, 116, 97, 110, 99, 101])), (3, .string (bs [111, 112])), (4, .string (bs [101, 110, 100])), (5, .string (bs [119, 104, 101, 114, 101])), (6, .string (bs [108, 101, 116])), (7, .string (bs [105, 110])), (8, .string (bs [102, 114, 101, 101])), (9, .string (bs [99, 97, 115, 101])), (10, .string (bs [114, 105, 103, 105, 100])), (11, .string (bs [111, 102])), (12, .string (bs [102, 97, 105, 108]))]) (fun a _ => by simp only [List.map_toArray, List.map_cons, List.map_nil, Act.eval] <;> rfl) (fun _ => by kernel_rfl) rfl trivial ?_
 intro b1
 refine St.weak (R := []) (c' := rowo (some ⟨b1, 0, none⟩) ([[100, 97, 116, 97], [99, 108, 97, 115, 115], [105, 110, 115, 116, 97, 110, 99, 101], [111, 112], [101, 110, 100], [119, 104, 101, 114, 101], [108, 101, 116], [105, 110], [102, 114, 101, 101], [99, 97, 115, 101], [114, 105, 103, 105, 100], [111, 102], [102, 97, 105, 108]] : List (List UInt8)).length 13 9 1 [.string (bs [100, 97, 116, 97]), .string (bs [99, 108, 97, 115, 115]), .string (bs [105, 110, 115, 116, 97, 110, 99, 101]), .string (bs [111, 112]), .string (bs [101, 110, 100]), .string (bs [119, 104, 101, 114, 101]), .string (bs [108, 101, 116]), .string (bs [105, 110]), .string (bs [102, 114, 101, 101]), .string (bs [99, 97, 115, 101]), .string (bs [114, 105, 103, 105, 100]), .string (bs [111, 102]), .string (bs [102, 97, 105, 108])]) 0 rfl rfl (fun m hm => rowo_of_row (row_of_blk (k := 13) rfl (by decide) hm)) ?_
 refine sas rfl rfl ?_
 refine snn ?_
 refine St.ret ?_
 refine St.frz 0 rfl rfl rfl (show Cat Kind.str F [.string (bs [100, 97, 116, 97]), .string (bs [99, 108, 97, 115, 115]), .string (bs [105, 110, 115, 116, 97, 110, 99, 101]), .string (bs [111, 112]), .string (bs [101, 110, 100]), .string (bs [119, 104, 101, 114, 101]), .string (bs [108, 101, 116]), .string (bs [105, 110]), .string (bs [102, 114, 101, 101]), .string (bs [99, 97, 115, 101]), .string (bs [114, 105, 103, 105, 100]), .string (bs [111, 102]), .string (bs [102, 97, 105, 108])] ([[100, 97, 116, 97], [99, 108, 97, 115, 115], [105, 110, 115, 116, 97, 110, 99, 101], [111, 112], [101, 110, 100], [119, 104, 101, 114, 101], [108, 101, 116], [105, 110], [102, 114, 101, 101], [99, 97, 115, 101], [114, 105, 103, 105, 100], [111, 102], [102, 97, 105, 108]] : List (List UInt8)) from ⟨[.string (bs [100, 97, 116, 97])], _, rfl, rfl, ⟨[.string (bs [99, 108, 97, 115, 115])], _, rfl, rfl, ⟨[.string (bs [105, 110, 115, 116, 97, 110, 99, 101])], _, rfl, rfl, ⟨[.string (bs [111, 112])], _, rfl, rfl, ⟨[.string (bs [101, 110, 100])], _, rfl, rfl, ⟨[.string (bs [119, 104, 101, 114, 101])], _, rfl, rfl, ⟨[.string (bs [108, 101, 116])], _, rfl, rfl, ⟨[.string (bs [105, 110])], _, rfl, rfl, ⟨[.string (bs [102, 114, 101, 101])], _, rfl, rfl, ⟨[.string (bs [99, 97, 115, 101])], _, rfl, rfl, ⟨[.string (bs [114, 105, 103, 105, 100])], _, rfl, rfl, ⟨[.string (bs [111, 102])], _, rfl, rfl, ⟨[.string (bs [102, 97, 105, 108])], _, rfl, rfl, rfl⟩⟩⟩⟩⟩⟩⟩⟩⟩⟩⟩⟩⟩) (show Bnd 16 ([[100, 97, 116, 97], [99, 108, 97, 115, 115], [105, 110, 115, 116, 97, 110, 99, 101], [111, 112], [101, 110, 100], [119, 104, 101, 114, 101], [108, 101, 116], [105, 110], [102, 114, 101, 101], [99, 97, 115, 101], [114, 105, 103, 105, 100], [111, 102], [102, 97, 105, 108]] : List (List UInt8)) from ⟨by simp, by simp⟩) ?_
 intro F3 l4 h5
 obtain rfl := sI hm
 exact St.doneR1 rfl rfl ⟨(some ⟨b1, 0, none⟩), 13, rfl, h5, rfl⟩ (fun w hs => Among.of Among.none w hs)
theorem m_ref08_IsSmall_sp {F : PH} {g : Nat} {a0 : List UInt8} {r : Bool} (hm : m_ref08_IsSmall g a0 = some r) :
  CallSp Tryz.prog 62 #[.string (bs a0)] F [] (fun u F' H' => u = (.bool r) ∧ H' = []) := by

 unfold m_ref08_IsSmall at hm
 refine CallSp.enter (args := [.string (bs a0)]) Tryz.func62 rfl rfl ?_
 intro w0 m0 hm0
 refine ssr ?_
 refine sas rfl rfl ?_
 refine snn ?_
 refine St.seq ?_
 obtain ⟨z1, hm, hk4⟩ := bS hm
 refine St.cutI (fun a w => ∃ (F2 : PH), PH.le F F2 ∧ Has Tryz.f62.ntmps a [(0, .string (bs a0)), (23, .bool z1)] ∧ Sat ⟨w0, fun b => m0 b ≠ none, F⟩ F2 [] w) ?_ ?_
 ·skip
  refine St.region ?_
  refine smv rfl rfl ?_
  refine sv (v := (.int .i64 ((a0.length : Nat) : Int))) (Yields.lenStr tu9 rfl) rfl ?_
  by_cases q5 : ((a0.length : Nat) : Int) < 1
  ·replace hm := iT hm q5
   refine sv (v := vT) (Yields.is q5 (Yields.lt rfl rfl)) rfl ?_
   refine smv rfl rfl ?_
   refine su rfl rfl rfl ?_
   refine su rfl rfl rfl ?_
   refine su rfl rfl rfl ?_
   refine spt rfl rfl rfl ?_
   refine smv rfl rfl ?_
   refine su rfl rfl rfl ?_
   refine su rfl rfl rfl ?_
   refine su rfl rfl rfl ?_
   refine su rfl rfl rfl ?_
   refine spt rfl rfl rfl ?_
   refine smv rfl rfl ?_
   refine su rfl rfl rfl ?_
   refine su rfl rfl rfl ?_
   refine su rfl rfl rfl ?_
   refine spt rfl rfl rfl ?_
   refine St.nil ?_
   obtain rfl := sI hm
   intro a w ha hs
   exact ⟨F, (PH.le_refl _), ha.covers ⟨rfl, rfl, trivial⟩, (Among.of Among.none _ hs)⟩
  replace hm := iF hm q5
  refine sv (v := vF) (Yields.isnt q5 (Yields.lt rfl rfl)) rfl ?_
  refine smv rfl rfl ?_
  refine St.val (v := (.string (bs a0))) (Yields.move rfl) rfl rfl rfl ?_
  refine St.val (v := (.int .i64 ((a0.length : Nat) : Int))) (Yields.lenStr tu9 rfl) rfl rfl rfl ?_
  by_cases q6 : ((a0.length : Nat) : Int) > 16
  ·replace hm := iT hm q6
   refine St.val (v := vT) (Yields.is q6 (Yields.gt rfl rfl)) rfl rfl rfl ?_
   refine spf rfl rfl rfl ?_
   refine smv rfl rfl ?_
   refine su rfl rfl rfl ?_
   refine su rfl rfl rfl ?_
   refine su rfl rfl rfl ?_
   refine su rfl rfl rfl ?_
   refine spt rfl rfl rfl ?_
   refine smv rfl rfl ?_
   refine su rfl rfl rfl ?_
   refine su rfl rfl rfl ?_
   refine su rfl rfl rfl ?_
   refine spt rfl rfl rfl ?_
   refine St.nil ?_
   obtain rfl := sI hm
   intro a w ha hs
   exact ⟨F, (PH.le_refl _), ha.covers ⟨rfl, rfl, trivial⟩, (Among.of Among.none _ hs)⟩
  replace hm := iF hm q6
  refine St.val (v := vF) (Yields.isnt q6 (Yields.gt rfl rfl)) rfl rfl rfl ?_
  refine spf rfl rfl rfl ?_
  refine smv rfl rfl ?_
  refine St.val (v := (.string (bs a0))) (Yields.move rfl) rfl rfl rfl ?_
  obtain ⟨x7, e8, hm⟩ := bS hm
  refine St.val (v := (.int .u8 ((x7.toNat : Nat) : Int))) (Yields.indexStr (nlit e8) tu9 rfl rfl) rfl rfl rfl ?_
  obtain ⟨q9, e10, hm⟩ := bS hm
  refine St.call [] (m_ref08_isSmall_sp e10) rfl (fun _ ha => ev1 ha rfl) rfl en81 rfl rfl rfl ?_
  rintro _ F11 _ ⟨rfl, rfl⟩ l12
  by_cases q13 : q9 = true
  ·replace hm := iT hm q13
   have hb14 : (q9) = true := q13
   try rw [hb14]
   refine St.val (v := vF) (Yields.not_t rfl) rfl rfl rfl ?_
   refine spf rfl rfl rfl ?_
   refine smv rfl rfl ?_
   refine St.val (v := (.string (bs a0))) (Yields.move rfl) rfl rfl rfl ?_
   obtain ⟨q15, e16, hm⟩ := bS hm
   refine St.call [] (m_ref08_rest_sp e16) rfl (fun _ ha => ev2 ha rfl rfl) rfl en63 rfl rfl rfl ?_
   rintro _ F17 _ ⟨rfl, rfl⟩ l18
   refine St.val (v := (.bool (!q15))) (Yields.not rfl) rfl rfl rfl ?_
   refine spf rfl rfl rfl ?_
   refine St.nil ?_
   obtain rfl := sI hm
   intro a w ha hs
   exact ⟨F17, (PH.le_trans l12 l18), ha.covers ⟨rfl, rfl, trivial⟩, (Among.of Among.none _ hs)⟩
  replace hm := iF hm q13
  have hb19 : (q9) = false := eq_false_of_ne_true q13
  try rw [hb19]
  refine St.val (v := vT) (Yields.not_f rfl) rfl rfl rfl ?_
  refine spf rfl rfl rfl ?_
  refine smv rfl rfl ?_
  refine su rfl rfl rfl ?_
  refine su rfl rfl rfl ?_
  refine su rfl rfl rfl ?_
  refine spt rfl rfl rfl ?_
  refine St.nil ?_
  obtain rfl := sI hm
  intro a w ha hs
  exact ⟨F11, l12, ha.covers ⟨rfl, rfl, trivial⟩, (Among.of Among.none _ hs)⟩
 rintro a w ⟨F2, l3, ha, hs⟩
 replace hm := hk4
 refine St.use (?_ : St _ _ _ _ _ _) ha hs
 clear ha hs a w
 refine St.cond_b rfl ?_ ?_
 ·intro q20
  replace q20 : z1 = true := q20
  replace hm := iT hm q20
  refine ssr ?_
  refine sas rfl rfl ?_
  refine snn ?_
  refine St.ret ?_
  refine St.thenret ?_
  obtain rfl := sI hm
  exact St.doneR1 rfl rfl ⟨rfl, rfl⟩ (fun w hs => Among.of Among.none w hs)
 intro q21
 replace q21 : ¬ (z1 = true) := bf q21
 replace hm := iF hm q21
 refine skn ?_
 refine ssr ?_
 obtain ⟨q22, e23, hm⟩ := bS hm
 refine St.call [] (m_ref08_reserved_sp e23) rfl (fun _ _ => ev0) rfl en82 rfl rfl trivial ?_
 rintro _ F24 _ ⟨A26, c27, rfl, h28, rfl⟩ l25
 refine sas rfl rfl ?_
 refine snn ?_
 obtain ⟨o31, hm, ho32⟩ := jS hm
 refine St.cutI (fun a w => ∃ z30 : Unit, o31 = .inl z30 ∧ Has Tryz.f62.ntmps a [] ∧ Sat ⟨w0, fun b => m0 b ≠ none, F⟩ F24 [] w) ?_ ?_
 ·skip
  refine ssr ?_
  refine sas rfl rfl ?_
  refine snn ?_
  refine St.block ?_
  refine St.loopM hm (fun s34 a w => Has Tryz.f62.ntmps a [(0, .string (bs a0)), (3, .slice A26 q22.length c27), (4, .int .i64 ((s34 : Nat) : Int))] ∧ Sat ⟨w0, fun b => m0 b ≠ none, F⟩ F24 [] w) ?_ ?_
  ·skip
   intro a w ha hs
   exact ⟨ha.covers ⟨rfl, rfl, rfl, trivial⟩, (Among.of Among.none _ hs)⟩
  rintro s34 o35 co36 hm ho37 a w ⟨ha, hs⟩
  refine St.use (?_ : St _ _ _ _ _ _) ha hs
  clear ha hs a w
  refine St.seq ?_
  refine ssr ?_
  refine smv rfl rfl ?_
  refine smv rfl rfl ?_
  refine sv (v := (.int .i64 ((q22.length : Nat) : Int))) (Yields.lenSlice tu29 rfl) rfl ?_
  refine sv (v := (.bool (decide (((s34 : Nat) : Int) < ((q22.length : Nat) : Int))))) (Yields.lt rfl rfl) rfl ?_
  refine snn ?_
  refine St.cond_b rfl ?_ ?_
  ·intro q38
   replace q38 : ((s34 : Nat) : Int) < ((q22.length : Nat) : Int) := of_decide_eq_true q38
   replace hm := iT hm q38
   refine skn ?_
   refine St.seq ?_
   refine St.block ?_
   refine ssr ?_
   refine smv rfl rfl ?_
   refine smv rfl rfl ?_
   obtain ⟨x39, e40, hm⟩ := bS hm
   obtain ⟨p41, cs42, jx43, R44, k45⟩ := h28.nidx e40
   obtain rfl := R44
   refine sv (v := (.pointer (some p41))) (Yields.idx jx43 ts29 rfl rfl) rfl ?_
   refine sv (v := (.string (bs x39))) (Yields.load rfl (Loads.Fat k45 tc9 rfl)) rfl ?_
   refine smv rfl rfl ?_
   refine sv (v := (.bool (decide (x39 = a0)))) (Yields.eqStr rfl rfl) rfl ?_
   refine snn ?_
   refine St.cond_b rfl ?_ ?_
   ·intro q46
    replace q46 : x39 = a0 := of_decide_eq_true q46
    replace hm := iT hm q46
    refine ssr ?_
    refine sas rfl rfl ?_
    refine snn ?_
    refine St.ret ?_
    refine St.inret ?_
    refine St.thenret ?_
    refine St.thenret ?_
    refine St.inret ?_
    refine St.thenret ?_
    obtain rfl := sI hm
    obtain rfl := aR ho37
    obtain rfl := aR ho32
    exact St.doneR1 rfl rfl ⟨rfl, rfl⟩ (fun w hs => Among.of Among.none w hs)
   intro q47
   replace q47 : ¬ (x39 = a0) := of_decide_eq_false q47
   replace hm := iF hm q47
   refine St.skip ?_
   refine St.innorm ?_
   refine St.norm ?_
   refine St.region ?_
   refine smv rfl rfl ?_
   refine sv (v := (.int .i64 ((s34 + 1 : Nat) : Int))) (Yields.addn (j := 1) rfl rfl rfl (by have q_0 := q38; have q_1 := h28.bnd.2; omega)) rfl ?_
   refine sas rfl rfl ?_
   refine snn ?_
   obtain rfl := sI hm
   intro a w ha hs
   exact ⟨s34 + 1, aL ho37, ha.covers ⟨rfl, rfl, rfl, trivial⟩, (Among.of Among.none _ hs)⟩
  intro q48
  replace q48 : ¬ (((s34 : Nat) : Int) < ((q22.length : Nat) : Int)) := of_decide_eq_false q48
  replace hm := iF hm q48
  refine St.exit ?_
  refine St.thenexit ?_
  refine St.thenexit ?_
  refine St.inexit ?_
  obtain rfl := sI hm
  obtain rfl := aR ho37
  intro a w ha hs
  exact ⟨(), rfl, ha.covers trivial, (Among.of Among.none _ hs)⟩
 rintro a w ⟨z30, rfl, ha, hs⟩
 replace hm := aL ho32
 refine St.use (?_ : St _ _ _ _ _ _) ha hs
 clear ha hs a w
 refine ssr ?_
 refine sas rfl rfl ?_
 refine snn ?_
 refine St.ret ?_
 obtain rfl := sI hm
 exact St.doneR1 rfl rfl ⟨rfl, rfl⟩ (fun w hs => Among.of Among.none w hs)
theorem m_ref08_IsCore_sp {F : PH} {g : Nat} {a0 : List UInt8} {r : Bool} (hm : m_ref08_IsCore g a0 = some r) :
  CallSp Tryz.prog 37 #[.string (bs a0)] F [] (fun u F' H' => u = (.bool r) ∧ H' = []) := by

 unfold m_ref08_IsCore at hm
 refine CallSp.enter (args := [.string (bs a0)]) Tryz.func37 rfl rfl ?_
 intro w0 m0 hm0
 refine ssr ?_
 refine sas rfl rfl ?_
 refine snn ?_
 obtain ⟨z1, hm, hk4⟩ := bS hm
 refine St.cutI (fun a w => ∃ (F2 : PH), PH.le F F2 ∧ Has Tryz.f37.ntmps a [(2, .bool z1)] ∧ Sat ⟨w0, fun b => m0 b ≠ none, F⟩ F2 [] w) ?_ ?_
 ·skip
  refine St.region ?_
  refine smv rfl rfl ?_
  obtain ⟨q5, e6, hm⟩ := bS hm
  refine St.call [] (m_ref08_IsSmall_sp e6) rfl (fun _ ha => ev1 ha rfl) rfl en62 rfl rfl trivial ?_
  rintro _ F7 _ ⟨rfl, rfl⟩ l8
  by_cases q9 : q5 = true
  ·replace hm := iT hm q9
   have hb10 : (q5) = true := q9
   try rw [hb10]
   refine smv rfl rfl ?_
   refine su rfl rfl rfl ?_
   refine su rfl rfl rfl ?_
   refine su rfl rfl rfl ?_
   refine su rfl rfl rfl ?_
   refine St.unwanted trivial rfl rfl ?_
   refine St.unwanted trivial rfl rfl ?_
   refine St.unwanted trivial rfl rfl ?_
   refine su rfl rfl rfl ?_
   refine su rfl rfl rfl ?_
   refine St.unwanted trivial rfl rfl ?_
   refine St.unwanted trivial rfl rfl ?_
   refine St.unwanted trivial rfl rfl ?_
   refine su rfl rfl rfl ?_
   refine su rfl rfl rfl ?_
   refine St.unwanted trivial rfl rfl ?_
   refine St.unwanted trivial rfl rfl ?_
   refine su rfl rfl rfl ?_
   refine spt rfl rfl rfl ?_
   refine sas rfl rfl ?_
   refine St.nil ?_
   obtain rfl := sI hm
   intro a w ha hs
   exact ⟨F7, l8, ha.covers ⟨rfl, trivial⟩, (Among.of Among.none _ hs)⟩
  replace hm := iF hm q9
  have hb11 : (q5) = false := eq_false_of_ne_true q9
  try rw [hb11]
  refine smv rfl rfl ?_
  refine St.val (v := (.string (bs a0))) (Yields.move rfl) rfl rfl rfl ?_
  refine St.val (v := (.int .i64 ((a0.length : Nat) : Int))) (Yields.lenStr tu9 rfl) rfl rfl rfl ?_
  by_cases q12 : ((a0.length : Nat) : Int) ≥ 2
  ·replace hm := iT hm q12
   refine St.val (v := vT) (Yields.is q12 (Yields.ge rfl rfl)) rfl rfl rfl ?_
   refine St.val (v := vT) (Yields.move rfl) rfl rfl rfl ?_
   refine St.val (v := (.string (bs a0))) (Yields.move rfl) rfl rfl rfl ?_
   refine St.val (v := (.int .i64 ((a0.length : Nat) : Int))) (Yields.lenStr tu9 rfl) rfl rfl rfl ?_
   by_cases q13 : ((a0.length : Nat) : Int) ≤ 16
   ·replace hm := iT hm q13
    refine St.val (v := vT) (Yields.is q13 (Yields.le rfl rfl)) rfl rfl rfl ?_
    refine St.val (v := vT) (Yields.pick_t rfl rfl) rfl rfl rfl ?_
    refine St.val (v := vT) (Yields.move rfl) rfl rfl rfl ?_
    refine St.val (v := (.string (bs a0))) (Yields.move rfl) rfl rfl rfl ?_
    obtain ⟨x14, e15, hm⟩ := bS hm
    refine St.val (v := (.int .u8 ((x14.toNat : Nat) : Int))) (Yields.indexStr (nlit e15) tu9 rfl rfl) rfl rfl rfl ?_
    by_cases q16 : ((x14.toNat : Nat) : Int) = 95
    ·replace hm := iT hm q16
     refine St.val (v := vT) (Yields.is q16 (Yields.eq rfl rfl)) rfl rfl rfl ?_
     refine St.val (v := vT) (Yields.pick_t rfl rfl) rfl rfl rfl ?_
     refine St.val (v := vT) (Yields.move rfl) rfl rfl rfl ?_
     refine St.val (v := (.string (bs a0))) (Yields.move rfl) rfl rfl rfl ?_
     obtain ⟨q17, e18, hm⟩ := bS hm
     refine St.call [] (m_ref08_rest_sp e18) rfl (fun _ ha => ev2 ha rfl rfl) rfl en63 rfl rfl rfl ?_
     rintro _ F19 _ ⟨rfl, rfl⟩ l20
     refine St.val (v := (.bool q17)) (Yields.pick_t rfl rfl) rfl rfl rfl ?_
     refine spf rfl rfl rfl ?_
     refine sas rfl rfl ?_
     refine St.nil ?_
     obtain rfl := sI hm
     intro a w ha hs
     exact ⟨F19, (PH.le_trans l8 l20), ha.covers ⟨rfl, trivial⟩, (Among.of Among.none _ hs)⟩
    replace hm := iF hm q16
    refine St.val (v := vF) (Yields.isnt q16 (Yields.eq rfl rfl)) rfl rfl rfl ?_
    refine St.val (v := vF) (Yields.pick_t rfl rfl) rfl rfl rfl ?_
    refine St.val (v := vF) (Yields.move rfl) rfl rfl rfl ?_
    refine su rfl rfl rfl ?_
    refine su rfl rfl rfl ?_
    refine St.val (v := vF) (Yields.pick_f rfl rfl) rfl rfl rfl ?_
    refine spf rfl rfl rfl ?_
    refine sas rfl rfl ?_
    refine St.nil ?_
    obtain rfl := sI hm
    intro a w ha hs
    exact ⟨F7, l8, ha.covers ⟨rfl, trivial⟩, (Among.of Among.none _ hs)⟩
   replace hm := iF hm q13
   refine St.val (v := vF) (Yields.isnt q13 (Yields.le rfl rfl)) rfl rfl rfl ?_
   refine St.val (v := vF) (Yields.pick_t rfl rfl) rfl rfl rfl ?_
   refine St.val (v := vF) (Yields.move rfl) rfl rfl rfl ?_
   refine su rfl rfl rfl ?_
   refine su rfl rfl rfl ?_
   refine su rfl rfl rfl ?_
   refine St.val (v := vF) (Yields.pick_f rfl rfl) rfl rfl rfl ?_
   refine St.val (v := vF) (Yields.move rfl) rfl rfl rfl ?_
   refine su rfl rfl rfl ?_
   refine su rfl rfl rfl ?_
   refine St.val (v := vF) (Yields.pick_f rfl rfl) rfl rfl rfl ?_
   refine spf rfl rfl rfl ?_
   refine sas rfl rfl ?_
   refine St.nil ?_
   obtain rfl := sI hm
   intro a w ha hs
   exact ⟨F7, l8, ha.covers ⟨rfl, trivial⟩, (Among.of Among.none _ hs)⟩
  replace hm := iF hm q12
  refine St.val (v := vF) (Yields.isnt q12 (Yields.ge rfl rfl)) rfl rfl rfl ?_
  refine St.val (v := vF) (Yields.move rfl) rfl rfl rfl ?_
  refine su rfl rfl rfl ?_
  refine su rfl rfl rfl ?_
  refine su rfl rfl rfl ?_
  refine St.val (v := vF) (Yields.pick_f rfl rfl) rfl rfl rfl ?_
  refine St.val (v := vF) (Yields.move rfl) rfl rfl rfl ?_
  refine su rfl rfl rfl ?_
  refine su rfl rfl rfl ?_
  refine su rfl rfl rfl ?_
  refine St.val (v := vF) (Yields.pick_f rfl rfl) rfl rfl rfl ?_
  refine St.val (v := vF) (Yields.move rfl) rfl rfl rfl ?_
  refine su rfl rfl rfl ?_
  refine su rfl rfl rfl ?_
  refine St.val (v := vF) (Yields.pick_f rfl rfl) rfl rfl rfl ?_
  refine spf rfl rfl rfl ?_
  refine sas rfl rfl ?_
  refine St.nil ?_
  obtain rfl := sI hm
  intro a w ha hs
  exact ⟨F7, l8, ha.covers ⟨rfl, trivial⟩, (Among.of Among.none _ hs)⟩
 rintro a w ⟨F2, l3, ha, hs⟩
 replace hm := hk4
 refine St.use (?_ : St _ _ _ _ _ _) ha hs
 clear ha hs a w
 refine St.ret ?_
 obtain rfl := sI hm
 exact St.doneR1 rfl rfl ⟨rfl, rfl⟩ (fun w hs => Among.of Among.none w hs)
theorem m_ref14_isNumber_sp {F : PH} {g : Nat} {a0 : Int} {r : Bool} (hm : m_ref14_isNumber g a0 = some r) :
  CallSp Tryz.prog 38 #[.int .i64 a0] F [] (fun u F' H' => u = (.bool r) ∧ H' = []) := by

 unfold m_ref14_isNumber at hm
 refine CallSp.enter (args := [.int .i64 a0]) Tryz.func38 rfl rfl ?_
 intro w0 m0 hm0
 refine ssr ?_
 refine sas rfl rfl ?_
 refine snn ?_
 obtain ⟨z1, hm, hk2⟩ := bS hm
 refine St.cutI (fun a w => Has Tryz.f38.ntmps a [(2, .bool z1)] ∧ Sat ⟨w0, fun b => m0 b ≠ none, F⟩ F [] w) ?_ ?_
 ·skip
  refine St.region ?_
  refine smv rfl rfl ?_
  by_cases q3 : a0 ≥ 0
  ·replace hm := iT hm q3
   refine sv (v := vT) (Yields.is q3 (Yields.ge rfl rfl)) rfl ?_
   refine smv rfl rfl ?_
   refine St.val (v := (.int .i64 a0)) (Yields.move rfl) rfl rfl rfl ?_
   refine St.val (v := (.bool (decide (a0 ≤ 400)))) (Yields.le rfl rfl) rfl rfl rfl ?_
   refine spt rfl rfl rfl ?_
   refine sas rfl rfl ?_
   refine St.nil ?_
   obtain rfl := sI hm
   intro a w ha hs
   exact ⟨ha.covers ⟨rfl, trivial⟩, (Among.of Among.none _ hs)⟩
  replace hm := iF hm q3
  refine sv (v := vF) (Yields.isnt q3 (Yields.ge rfl rfl)) rfl ?_
  refine smv rfl rfl ?_
  refine su rfl rfl rfl ?_
  refine su rfl rfl rfl ?_
  refine spf rfl rfl rfl ?_
  refine sas rfl rfl ?_
  refine St.nil ?_
  obtain rfl := sI hm
  intro a w ha hs
  exact ⟨ha.covers ⟨rfl, trivial⟩, (Among.of Among.none _ hs)⟩
 rintro a w ⟨ha, hs⟩
 replace hm := hk2
 refine St.use (?_ : St _ _ _ _ _ _) ha hs
 clear ha hs a w
 refine St.ret ?_
 obtain rfl := sI hm
 exact St.doneR1 rfl rfl ⟨rfl, rfl⟩ (fun w hs => Among.of Among.none w hs)
theorem m_ref14_isInt_sp {F : PH} {g : Nat} {a0 : Int} {r : Bool} (hm : m_ref14_isInt g a0 = some r) :
  CallSp Tryz.prog 64 #[.int .i64 a0] F [] (fun u F' H' => u = (.bool r) ∧ H' = []) := by

 unfold m_ref14_isInt at hm
 refine CallSp.enter (args := [.int .i64 a0]) Tryz.func64 rfl rfl ?_
 intro w0 m0 hm0
 refine ssr ?_
 refine sas rfl rfl ?_
 refine snn ?_
 obtain ⟨z1, hm, hk2⟩ := bS hm
 refine St.cutI (fun a w => Has Tryz.f64.ntmps a [(2, .bool z1)] ∧ Sat ⟨w0, fun b => m0 b ≠ none, F⟩ F [] w) ?_ ?_
 ·skip
  refine St.region ?_
  refine smv rfl rfl ?_
  by_cases q3 : a0 ≥ (-1000000000)
  ·replace hm := iT hm q3
   refine sv (v := vT) (Yields.is q3 (Yields.ge rfl rfl)) rfl ?_
   refine smv rfl rfl ?_
   refine St.val (v := (.int .i64 a0)) (Yields.move rfl) rfl rfl rfl ?_
   refine St.val (v := (.bool (decide (a0 ≤ 1000000000)))) (Yields.le rfl rfl) rfl rfl rfl ?_
   refine spt rfl rfl rfl ?_
   refine sas rfl rfl ?_
   refine St.nil ?_
   obtain rfl := sI hm
   intro a w ha hs
   exact ⟨ha.covers ⟨rfl, trivial⟩, (Among.of Among.none _ hs)⟩
  replace hm := iF hm q3
  refine sv (v := vF) (Yields.isnt q3 (Yields.ge rfl rfl)) rfl ?_
  refine smv rfl rfl ?_
  refine su rfl rfl rfl ?_
  refine su rfl rfl rfl ?_
  refine spf rfl rfl rfl ?_
  refine sas rfl rfl ?_
  refine St.nil ?_
  obtain rfl := sI hm
  intro a w ha hs
  exact ⟨ha.covers ⟨rfl, trivial⟩, (Among.of Among.none _ hs)⟩
 rintro a w ⟨ha, hs⟩
 replace hm := hk2
 refine St.use (?_ : St _ _ _ _ _ _) ha hs
 clear ha hs a w
 refine St.ret ?_
 obtain rfl := sI hm
 exact St.doneR1 rfl rfl ⟨rfl, rfl⟩ (fun w hs => Among.of Among.none w hs)
theorem m_ref08_IsGreat_sp {F : PH} {g : Nat} {a0 : List UInt8} {r : Bool} (hm : m_ref08_IsGreat g a0 = some r) :
  CallSp Tryz.prog 65 #[.string (bs a0)] F [] (fun u F' H' => u = (.bool r) ∧ H' = []) := by

 unfold m_ref08_IsGreat at hm
 refine CallSp.enter (args := [.string (bs a0)]) Tryz.func65 rfl rfl ?_
 intro w0 m0 hm0
 refine ssr ?_
 refine sas rfl rfl ?_
 refine snn ?_
 obtain ⟨z1, hm, hk4⟩ := bS hm
 refine St.cutI (fun a w => ∃ (F2 : PH), PH.le F F2 ∧ Has Tryz.f65.ntmps a [(2, .bool z1)] ∧ Sat ⟨w0, fun b => m0 b ≠ none, F⟩ F2 [] w) ?_ ?_
 ·skip
  refine St.region ?_
  refine smv rfl rfl ?_
  refine sv (v := (.int .i64 ((a0.length : Nat) : Int))) (Yields.lenStr tu9 rfl) rfl ?_
  by_cases q5 : ((a0.length : Nat) : Int) ≥ 1
  ·replace hm := iT hm q5
   refine sv (v := vT) (Yields.is q5 (Yields.ge rfl rfl)) rfl ?_
   refine smv rfl rfl ?_
   refine St.val (v := (.string (bs a0))) (Yields.move rfl) rfl rfl rfl ?_
   refine St.val (v := (.int .i64 ((a0.length : Nat) : Int))) (Yields.lenStr tu9 rfl) rfl rfl rfl ?_
   by_cases q6 : ((a0.length : Nat) : Int) ≤ 16
   ·replace hm := iT hm q6
    refine St.val (v := vT) (Yields.is q6 (Yields.le rfl rfl)) rfl rfl rfl ?_
    refine spt rfl rfl rfl ?_
    refine smv rfl rfl ?_
    refine St.val (v := (.string (bs a0))) (Yields.move rfl) rfl rfl rfl ?_
    obtain ⟨x7, e8, hm⟩ := bS hm
    refine St.val (v := (.int .u8 ((x7.toNat : Nat) : Int))) (Yields.indexStr (nlit e8) tu9 rfl rfl) rfl rfl rfl ?_
    obtain ⟨q9, e10, hm⟩ := bS hm
    refine St.call [] (m_ref08_isGreat_sp e10) rfl (fun _ ha => ev1 ha rfl) rfl en84 rfl rfl rfl ?_
    rintro _ F11 _ ⟨rfl, rfl⟩ l12
    by_cases q13 : q9 = true
    ·replace hm := iT hm q13
     have hb14 : (q9) = true := q13
     try rw [hb14]
     refine spt rfl rfl rfl ?_
     refine smv rfl rfl ?_
     refine St.val (v := (.string (bs a0))) (Yields.move rfl) rfl rfl rfl ?_
     obtain ⟨q15, e16, hm⟩ := bS hm
     refine St.call [] (m_ref08_rest_sp e16) rfl (fun _ ha => ev2 ha rfl rfl) rfl en63 rfl rfl rfl ?_
     rintro _ F17 _ ⟨rfl, rfl⟩ l18
     refine spt rfl rfl rfl ?_
     refine sas rfl rfl ?_
     refine St.nil ?_
     obtain rfl := sI hm
     intro a w ha hs
     exact ⟨F17, (PH.le_trans l12 l18), ha.covers ⟨rfl, trivial⟩, (Among.of Among.none _ hs)⟩
    replace hm := iF hm q13
    have hb19 : (q9) = false := eq_false_of_ne_true q13
    try rw [hb19]
    refine spt rfl rfl rfl ?_
    refine smv rfl rfl ?_
    refine su rfl rfl rfl ?_
    refine su rfl rfl rfl ?_
    refine spf rfl rfl rfl ?_
    refine sas rfl rfl ?_
    refine St.nil ?_
    obtain rfl := sI hm
    intro a w ha hs
    exact ⟨F11, l12, ha.covers ⟨rfl, trivial⟩, (Among.of Among.none _ hs)⟩
   replace hm := iF hm q6
   refine St.val (v := vF) (Yields.isnt q6 (Yields.le rfl rfl)) rfl rfl rfl ?_
   refine spt rfl rfl rfl ?_
   refine smv rfl rfl ?_
   refine su rfl rfl rfl ?_
   refine su rfl rfl rfl ?_
   refine su rfl rfl rfl ?_
   refine spf rfl rfl rfl ?_
   refine smv rfl rfl ?_
   refine su rfl rfl rfl ?_
   refine su rfl rfl rfl ?_
   refine spf rfl rfl rfl ?_
   refine sas rfl rfl ?_
   refine St.nil ?_
   obtain rfl := sI hm
   intro a w ha hs
   exact ⟨F, (PH.le_refl _), ha.covers ⟨rfl, trivial⟩, (Among.of Among.none _ hs)⟩
  replace hm := iF hm q5
  refine sv (v := vF) (Yields.isnt q5 (Yields.ge rfl rfl)) rfl ?_
  refine smv rfl rfl ?_
  refine su rfl rfl rfl ?_
  refine su rfl rfl rfl ?_
  refine su rfl rfl rfl ?_
  refine spf rfl rfl rfl ?_
  refine smv rfl rfl ?_
  refine su rfl rfl rfl ?_
  refine su rfl rfl rfl ?_
  refine su rfl rfl rfl ?_
  refine spf rfl rfl rfl ?_
  refine smv rfl rfl ?_
  refine su rfl rfl rfl ?_
  refine su rfl rfl rfl ?_
  refine spf rfl rfl rfl ?_
  refine sas rfl rfl ?_
  refine St.nil ?_
  obtain rfl := sI hm
  intro a w ha hs
  exact ⟨F, (PH.le_refl _), ha.covers ⟨rfl, trivial⟩, (Among.of Among.none _ hs)⟩
 rintro a w ⟨F2, l3, ha, hs⟩
 replace hm := hk4
 refine St.use (?_ : St _ _ _ _ _ _) ha hs
 clear ha hs a w
 refine St.ret ?_
 obtain rfl := sI hm
 exact St.doneR1 rfl rfl ⟨rfl, rfl⟩ (fun w hs => Among.of Among.none w hs)
theorem m_ref14_areNumbers_sp {F : PH} {g : Nat} {a0 : List Int} {pA0 : Option Addr} {pc0 : Nat} (ph0 : Fsl 8 (Kind.int .i64) F pA0 pc0 a0) {r : Bool} (hm : m_ref14_areNumbers g a0 = some r) :
  CallSp Tryz.prog 66 #[.slice pA0 a0.length pc0] F [] (fun u F' H' => u = (.bool r) ∧ H' = []) := by

 unfold m_ref14_areNumbers at hm
 refine CallSp.enter (args := [.slice pA0 a0.length pc0]) Tryz.func66 rfl rfl ?_
 intro w0 m0 hm0
 refine ssr ?_
 refine sas rfl rfl ?_
 refine snn ?_
 obtain ⟨o5, hm, ho6⟩ := jS hm
 refine St.cutI (fun a w => ∃ z2 : Unit, o5 = .inl z2 ∧ ∃ (F3 : PH), PH.le F F3 ∧ Has Tryz.f66.ntmps a [] ∧ Sat ⟨w0, fun b => m0 b ≠ none, F⟩ F3 [] w) ?_ ?_
 ·skip
  refine ssr ?_
  refine sas rfl rfl ?_
  refine snn ?_
  refine St.block ?_
  refine St.loopM hm (fun s9 a w => ∃ (F13 : PH), PH.le F F13 ∧ Has Tryz.f66.ntmps a [(0, .slice pA0 a0.length pc0), (3, .int .i64 ((s9 : Nat) : Int))] ∧ Sat ⟨w0, fun b => m0 b ≠ none, F⟩ F13 [] w) ?_ ?_
  ·skip
   intro a w ha hs
   exact ⟨F, (PH.le_refl _), ha.covers ⟨rfl, rfl, trivial⟩, (Among.of Among.none _ hs)⟩
  rintro s9 o10 co11 hm ho12 a w ⟨F13, l14, ha, hs⟩
  refine St.use (?_ : St _ _ _ _ _ _) ha hs
  clear ha hs a w
  refine St.seq ?_
  refine ssr ?_
  refine smv rfl rfl ?_
  refine smv rfl rfl ?_
  refine sv (v := (.int .i64 ((a0.length : Nat) : Int))) (Yields.lenSlice tu37 rfl) rfl ?_
  refine sv (v := (.bool (decide (((s9 : Nat) : Int) < ((a0.length : Nat) : Int))))) (Yields.lt rfl rfl) rfl ?_
  refine snn ?_
  refine St.cond_b rfl ?_ ?_
  ·intro q15
   replace q15 : ((s9 : Nat) : Int) < ((a0.length : Nat) : Int) := of_decide_eq_true q15
   replace hm := iT hm q15
   refine skn ?_
   refine St.seq ?_
   refine St.block ?_
   refine ssr ?_
   refine smv rfl rfl ?_
   refine smv rfl rfl ?_
   obtain ⟨x16, e17, hm⟩ := bS hm
   obtain ⟨p18, cs19, jx20, R21, k22⟩ := (Fsl.mono l14 ph0).nidx e17
   obtain rfl := R21
   refine sv (v := (.pointer (some p18))) (Yields.idx jx20 ts37 rfl rfl) rfl ?_
   refine sv (v := (.int .i64 x16)) (Yields.load rfl (Loads.Fat k22 tc3 rfl)) rfl ?_
   obtain ⟨q23, e24, hm⟩ := bS hm
   refine St.call [] (m_ref14_isNumber_sp e24) rfl (fun _ ha => ev1 ha rfl) rfl en38 rfl rfl trivial ?_
   rintro _ F25 _ ⟨rfl, rfl⟩ l26
   refine sv (v := (.bool (!q23))) (Yields.not rfl) rfl ?_
   refine snn ?_
   refine St.cond_b rfl ?_ ?_
   ·intro q27
    replace q27 : ¬ (q23 = true) := nb_t q27
    replace hm := iF hm q27
    refine ssr ?_
    refine sas rfl rfl ?_
    refine snn ?_
    refine St.ret ?_
    refine St.inret ?_
    refine St.thenret ?_
    refine St.thenret ?_
    refine St.inret ?_
    refine St.thenret ?_
    obtain rfl := sI hm
    obtain rfl := aR ho12
    obtain rfl := aR ho6
    exact St.doneR1 rfl rfl ⟨rfl, rfl⟩ (fun w hs => Among.of Among.none w hs)
   intro q28
   replace q28 : q23 = true := nb_f q28
   replace hm := iT hm q28
   refine St.skip ?_
   refine St.innorm ?_
   refine St.norm ?_
   refine St.region ?_
   refine smv rfl rfl ?_
   refine sv (v := (.int .i64 ((s9 + 1 : Nat) : Int))) (Yields.addn (j := 1) rfl rfl rfl (by have q_0 := q15; have q_1 := ph0.bnd.2; omega)) rfl ?_
   refine sas rfl rfl ?_
   refine snn ?_
   obtain rfl := sI hm
   intro a w ha hs
   exact ⟨s9 + 1, aL ho12, F25, (PH.le_trans l14 l26), ha.covers ⟨rfl, rfl, trivial⟩, (Among.of Among.none _ hs)⟩
  intro q29
  replace q29 : ¬ (((s9 : Nat) : Int) < ((a0.length : Nat) : Int)) := of_decide_eq_false q29
  replace hm := iF hm q29
  refine St.exit ?_
  refine St.thenexit ?_
  refine St.thenexit ?_
  refine St.inexit ?_
  obtain rfl := sI hm
  obtain rfl := aR ho12
  intro a w ha hs
  exact ⟨(), rfl, F13, l14, ha.covers trivial, (Among.of Among.none _ hs)⟩
 rintro a w ⟨z2, rfl, F3, l4, ha, hs⟩
 replace hm := aL ho6
 refine St.use (?_ : St _ _ _ _ _ _) ha hs
 clear ha hs a w
 refine ssr ?_
 refine sas rfl rfl ?_
 refine snn ?_
 refine St.ret ?_
 obtain rfl := sI hm
 exact St.doneR1 rfl rfl ⟨rfl, rfl⟩ (fun w hs => Among.of Among.none w hs)
theorem m_ref14_isWritten_sp {F : PH} {g : Nat} {a0 : DInstr} {pA0_0 : Option Addr} {pc0_0 : Nat} {pA0_1 : Option Addr} {pc0_1 : Nat} (ph0_0 : Fsl 8 (Kind.int .i64) F pA0_0 pc0_0 a0.Args) (ph0_1 : Fsl 32 KDJump F pA0_1 pc0_1 a0.Cases) {r : Bool} (hm : m_ref14_isWritten g a0 = some r) :
  CallSp Tryz.prog 39 #[.agg #[.int .i64 a0.Op, .int .i64 a0.A, .int .i64 a0.B, .int .i64 a0.N, .string (bs a0.Name), .slice pA0_0 a0.Args.length pc0_0, .slice pA0_1 a0.Cases.length pc0_1]] F [] (fun u F' H' => u = (.bool r) ∧ H' = []) := by

 unfold m_ref14_isWritten at hm
 refine CallSp.enter (args := [.agg #[.int .i64 a0.Op, .int .i64 a0.A, .int .i64 a0.B, .int .i64 a0.N, .string (bs a0.Name), .slice pA0_0 a0.Args.length pc0_0, .slice pA0_1 a0.Cases.length pc0_1]]) Tryz.func39 rfl rfl ?_
 intro w0 m0 hm0
 refine ssr ?_
 refine St.box rfl trivial rfl ?_
 intro b3
 refine sas rfl rfl ?_
 refine snn ?_
 obtain ⟨z4, hm, hk5⟩ := bS hm
 refine St.cutI (fun a w => Has Tryz.f39.ntmps a [(1, .pointer (some ⟨b3, 0, none⟩)), (3, .bool z4)] ∧ Sat ⟨w0, fun b => m0 b ≠ none, F⟩ F [blk b3 (.cells #[.int .i64 a0.Op, .int .i64 a0.A, .int .i64 a0.B, .int .i64 a0.N, .string (bs a0.Name), .slice pA0_0 a0.Args.length pc0_0, .slice pA0_1 a0.Cases.length pc0_1] 40 (0, 0))] w) ?_ ?_
 ·skip
  refine St.region ?_
  refine sfa (v := (.pointer (some ⟨b3, 3, none⟩))) rfl (fun _ => by kernel_rfl) rfl ?_
  refine sv (v := (.int .i64 a0.N)) (Yields.load rfl (Loads.H1 0 rfl tc3 rfl)) rfl ?_
  by_cases q6 : a0.N = 0
  ·replace hm := iT hm q6
   refine sv (v := vT) (Yields.is q6 (Yields.eq rfl rfl)) rfl ?_
   refine smv rfl rfl ?_
   refine St.val (v := (.pointer (some ⟨b3, 4, none⟩))) (Yields.fieldAddr (v := (.pointer (some ⟨b3, 4, none⟩))) rfl (fun _ => by kernel_rfl)) rfl rfl rfl ?_
   refine St.val (v := (.string (bs a0.Name))) (Yields.load rfl (Loads.H1 0 rfl tc9 rfl)) rfl rfl rfl ?_
   by_cases q7 : a0.Name = ([] : List UInt8)
   ·replace hm := iT hm q7
    refine St.val (v := vT) (Yields.is q7 (Yields.eqStr rfl rfl)) rfl rfl rfl ?_
    refine spt rfl rfl rfl ?_
    refine smv rfl rfl ?_
    refine St.val (v := (.pointer (some ⟨b3, 5, none⟩))) (Yields.fieldAddr (v := (.pointer (some ⟨b3, 5, none⟩))) rfl (fun _ => by kernel_rfl)) rfl rfl rfl ?_
    refine St.val (v := (.slice pA0_0 a0.Args.length pc0_0)) (Yields.load rfl (Loads.H1 0 rfl tc37 rfl)) rfl rfl rfl ?_
    refine St.val (v := (.int .i64 ((a0.Args.length : Nat) : Int))) (Yields.lenSlice tu37 rfl) rfl rfl rfl ?_
    refine St.val (v := (.bool (decide (((a0.Args.length : Nat) : Int) = 0)))) (Yields.eq rfl rfl) rfl rfl rfl ?_
    refine spt rfl rfl rfl ?_
    refine sas rfl rfl ?_
    refine St.nil ?_
    obtain rfl := sI hm
    intro a w ha hs
    exact ⟨ha.covers ⟨rfl, rfl, trivial⟩, (Among.of (Among.take 0 rfl rfl Among.none) _ hs)⟩
   replace hm := iF hm q7
   refine St.val (v := vF) (Yields.isnt q7 (Yields.eqStr rfl rfl)) rfl rfl rfl ?_
   refine spt rfl rfl rfl ?_
   refine smv rfl rfl ?_
   refine su rfl rfl rfl ?_
   refine su rfl rfl rfl ?_
   refine su rfl rfl rfl ?_
   refine su rfl rfl rfl ?_
   refine spf rfl rfl rfl ?_
   refine sas rfl rfl ?_
   refine St.nil ?_
   obtain rfl := sI hm
   intro a w ha hs
   exact ⟨ha.covers ⟨rfl, rfl, trivial⟩, (Among.of (Among.take 0 rfl rfl Among.none) _ hs)⟩
  replace hm := iF hm q6
  refine sv (v := vF) (Yields.isnt q6 (Yields.eq rfl rfl)) rfl ?_
  refine smv rfl rfl ?_
  refine su rfl rfl rfl ?_
  refine su rfl rfl rfl ?_
  refine su rfl rfl rfl ?_
  refine spf rfl rfl rfl ?_
  refine smv rfl rfl ?_
  refine su rfl rfl rfl ?_
  refine su rfl rfl rfl ?_
  refine su rfl rfl rfl ?_
  refine su rfl rfl rfl ?_
  refine spf rfl rfl rfl ?_
  refine sas rfl rfl ?_
  refine St.nil ?_
  obtain rfl := sI hm
  intro a w ha hs
  exact ⟨ha.covers ⟨rfl, rfl, trivial⟩, (Among.of (Among.take 0 rfl rfl Among.none) _ hs)⟩
 rintro a w ⟨ha, hs⟩
 replace hm := hk5
 refine St.use (?_ : St _ _ _ _ _ _) ha hs
 clear ha hs a w
 obtain ⟨o11, hm, ho12⟩ := jS hm
 refine St.cutI (fun a w => ∃ z8 : Unit, o11 = .inl z8 ∧ ∃ (F9 : PH), PH.le F F9 ∧ Has Tryz.f39.ntmps a [] ∧ Sat ⟨w0, fun b => m0 b ≠ none, F⟩ F9 [] w) ?_ ?_
 ·skip
  refine ssr ?_
  refine sfa (v := (.pointer (some ⟨b3, 0, none⟩))) rfl (fun _ => by kernel_rfl) rfl ?_
  refine sv (v := (.int .i64 a0.Op)) (Yields.load rfl (Loads.H1 0 rfl tc3 rfl)) rfl ?_
  refine snn ?_
  refine St.block ?_
  refine ssr ?_
  refine sv (v := (.bool (decide (a0.Op = 1)))) (Yields.eq rfl rfl) rfl ?_
  refine sas rfl rfl ?_
  refine snn ?_
  refine St.cond_b rfl ?_ ?_
  ·intro q13
   replace q13 : a0.Op = 1 := of_decide_eq_true q13
   replace hm := iT hm q13
   obtain ⟨o17, hm, ho18⟩ := jS hm
   refine St.cutI (fun a w => ∃ z14 : Unit, o17 = .inl z14 ∧ ∃ (F15 : PH), PH.le F F15 ∧ Has Tryz.f39.ntmps a [(1, .pointer (some ⟨b3, 0, none⟩)), (3, .bool z4)] ∧ Sat ⟨w0, fun b => m0 b ≠ none, F⟩ F15 [blk b3 (.cells #[.int .i64 a0.Op, .int .i64 a0.A, .int .i64 a0.B, .int .i64 a0.N, .string (bs a0.Name), .slice pA0_0 a0.Args.length pc0_0, .slice pA0_1 a0.Cases.length pc0_1] 40 (0, 0))] w) ?_ ?_
   ·skip
    refine ssr ?_
    refine sas rfl rfl ?_
    refine snn ?_
    refine St.block ?_
    refine St.loopM hm (fun s21 a w => ∃ (F25 : PH), PH.le F F25 ∧ Has Tryz.f39.ntmps a [(1, .pointer (some ⟨b3, 0, none⟩)), (3, .bool z4), (4, .int .i64 ((s21 : Nat) : Int))] ∧ Sat ⟨w0, fun b => m0 b ≠ none, F⟩ F25 [blk b3 (.cells #[.int .i64 a0.Op, .int .i64 a0.A, .int .i64 a0.B, .int .i64 a0.N, .string (bs a0.Name), .slice pA0_0 a0.Args.length pc0_0, .slice pA0_1 a0.Cases.length pc0_1] 40 (0, 0))] w) ?_ ?_
    ·skip
     intro a w ha hs
     exact ⟨F, (PH.le_refl _), ha.covers ⟨rfl, rfl, rfl, trivial⟩, (Among.of (Among.take 0 rfl rfl Among.none) _ hs)⟩
    rintro s21 o22 co23 hm ho24 a w ⟨F25, l26, ha, hs⟩
    refine St.use (?_ : St _ _ _ _ _ _) ha hs
    clear ha hs a w
    refine St.seq ?_
    refine ssr ?_
    refine smv rfl rfl ?_
    refine sfa (v := (.pointer (some ⟨b3, 6, none⟩))) rfl (fun _ => by kernel_rfl) rfl ?_
    refine sv (v := (.slice pA0_1 a0.Cases.length pc0_1)) (Yields.load rfl (Loads.H1 0 rfl tc38 rfl)) rfl ?_
    refine sv (v := (.int .i64 ((a0.Cases.length : Nat) : Int))) (Yields.lenSlice tu38 rfl) rfl ?_
    refine sv (v := (.bool (decide (((s21 : Nat) : Int) < ((a0.Cases.length : Nat) : Int))))) (Yields.lt rfl rfl) rfl ?_
    refine snn ?_
    refine St.cond_b rfl ?_ ?_
    ·intro q27
     replace q27 : ((s21 : Nat) : Int) < ((a0.Cases.length : Nat) : Int) := of_decide_eq_true q27
     replace hm := iT hm q27
     refine skn ?_
     refine St.seq ?_
     refine St.block ?_
     refine ssr ?_
     refine sfa (v := (.pointer (some ⟨b3, 6, none⟩))) rfl (fun _ => by kernel_rfl) rfl ?_
     refine sv (v := (.slice pA0_1 a0.Cases.length pc0_1)) (Yields.load rfl (Loads.H1 0 rfl tc38 rfl)) rfl ?_
     refine smv rfl rfl ?_
     obtain ⟨x28, e29, hm⟩ := bS hm
     obtain ⟨p30, cs31, jx32, R33, k34⟩ := (Fsl.mono l26 ph0_1).nidx e29
     obtain rfl := DJump.opn R33
     refine sv (v := (.pointer (some p30))) (Yields.idx jx32 ts38 rfl rfl) rfl ?_
     refine sv (v := (.agg #[.string (bs x28.Name), .int .i64 x28.N, .int .i64 x28.To])) (Yields.load rfl (Loads.Fatn0 k34 ta49)) rfl ?_
     refine St.alloc tz49 trivial rfl ?_
     intro b35
     refine St.storen (R := [blk b3 (.cells #[.int .i64 a0.Op, .int .i64 a0.A, .int .i64 a0.B, .int .i64 a0.N, .string (bs a0.Name), .slice pA0_0 a0.Args.length pc0_0, .slice pA0_1 a0.Cases.length pc0_1] 40 (0, 0))]) rfl rfl 0 rfl rfl ta49 rfl rfl rfl trivial (cs' := #[.string (bs x28.Name), .int .i64 x28.N, .int .i64 x28.To]) rfl ?_
     refine snn ?_
     obtain ⟨z36, hm, hk39⟩ := bS hm
     refine St.cutI (fun a w => ∃ (F37 : PH), PH.le F25 F37 ∧ Has Tryz.f39.ntmps a [(1, .pointer (some ⟨b3, 0, none⟩)), (3, .bool z4), (4, .int .i64 ((s21 : Nat) : Int)), (66, .bool z36)] ∧ Sat ⟨w0, fun b => m0 b ≠ none, F⟩ F37 [blk b3 (.cells #[.int .i64 a0.Op, .int .i64 a0.A, .int .i64 a0.B, .int .i64 a0.N, .string (bs a0.Name), .slice pA0_0 a0.Args.length pc0_0, .slice pA0_1 a0.Cases.length pc0_1] 40 (0, 0))] w) ?_ ?_
     ·skip
      refine St.region ?_
      refine sfa (v := (.pointer (some ⟨b35, 0, none⟩))) rfl (fun _ => by kernel_rfl) rfl ?_
      refine sv (v := (.string (bs x28.Name))) (Yields.load rfl (Loads.H1 0 rfl tc9 rfl)) rfl ?_
      by_cases q40 : x28.Name = ([] : List UInt8)
      ·replace hm := iT hm q40
       refine sv (v := vT) (Yields.is q40 (Yields.eqStr rfl rfl)) rfl ?_
       refine smv rfl rfl ?_
       refine St.val (v := (.pointer (some ⟨b35, 1, none⟩))) (Yields.fieldAddr (v := (.pointer (some ⟨b35, 1, none⟩))) rfl (fun _ => by kernel_rfl)) rfl rfl rfl ?_
       refine St.val (v := (.int .i64 x28.N)) (Yields.load rfl (Loads.H1 0 rfl tc3 rfl)) rfl rfl rfl ?_
       obtain ⟨q41, e42, hm⟩ := bS hm
       refine St.call [blk b35 (.cells #[.string (bs x28.Name), .int .i64 x28.N, .int .i64 x28.To] 49 (0, 0)), blk b3 (.cells #[.int .i64 a0.Op, .int .i64 a0.A, .int .i64 a0.B, .int .i64 a0.N, .string (bs a0.Name), .slice pA0_0 a0.Args.length pc0_0, .slice pA0_1 a0.Cases.length pc0_1] 40 (0, 0))] (m_ref14_isInt_sp e42) rfl (fun _ ha => ev1 ha rfl) rfl en64 rfl rfl rfl ?_
       rintro _ F43 _ ⟨rfl, rfl⟩ l44
       by_cases q45 : q41 = true
       ·replace hm := iT hm q45
        have hb46 : (q41) = true := q45
        try rw [hb46]
        refine St.val (v := vF) (Yields.not_t rfl) rfl rfl rfl ?_
        refine spt rfl rfl rfl ?_
        refine smv rfl rfl ?_
        refine St.val (v := (.pointer (some ⟨b35, 0, none⟩))) (Yields.fieldAddr (v := (.pointer (some ⟨b35, 0, none⟩))) rfl (fun _ => by kernel_rfl)) rfl rfl rfl ?_
        refine St.val (v := (.string (bs x28.Name))) (Yields.load rfl (Loads.H1 0 rfl tc9 rfl)) rfl rfl rfl ?_
        refine St.val (v := vF) (Yields.nis q40 (Yields.neStr rfl rfl)) rfl rfl rfl ?_
        refine St.val (v := vF) (Yields.move rfl) rfl rfl rfl ?_
        refine su rfl rfl rfl ?_
        refine su rfl rfl rfl ?_
        refine su rfl rfl rfl ?_
        refine su rfl rfl rfl ?_
        refine St.unwanted trivial rfl rfl ?_
        refine St.unwanted trivial rfl rfl ?_
        refine St.unwanted trivial rfl rfl ?_
        refine St.unwanted trivial rfl rfl ?_
        refine su rfl rfl rfl ?_
        refine St.val (v := vF) (Yields.pick_f rfl rfl) rfl rfl rfl ?_
        refine spf rfl rfl rfl ?_
        refine smv rfl rfl ?_
        refine St.val (v := (.pointer (some ⟨b35, 2, none⟩))) (Yields.fieldAddr (v := (.pointer (some ⟨b35, 2, none⟩))) rfl (fun _ => by kernel_rfl)) rfl rfl rfl ?_
        refine St.val (v := (.int .i64 x28.To)) (Yields.load rfl (Loads.H1 0 rfl tc3 rfl)) rfl rfl rfl ?_
        obtain ⟨q47, e48, hm⟩ := bS hm
        refine St.call [blk b35 (.cells #[.string (bs x28.Name), .int .i64 x28.N, .int .i64 x28.To] 49 (0, 0)), blk b3 (.cells #[.int .i64 a0.Op, .int .i64 a0.A, .int .i64 a0.B, .int .i64 a0.N, .string (bs a0.Name), .slice pA0_0 a0.Args.length pc0_0, .slice pA0_1 a0.Cases.length pc0_1] 40 (0, 0))] (m_ref14_isNumber_sp e48) rfl (fun _ ha => ev1 ha rfl) rfl en38 rfl rfl rfl ?_
        rintro _ F49 _ ⟨rfl, rfl⟩ l50
        refine St.val (v := (.bool (!q47))) (Yields.not rfl) rfl rfl rfl ?_
        refine spf rfl rfl rfl ?_
        refine St.nil ?_
        obtain rfl := sI hm
        intro a w ha hs
        exact ⟨F49, (PH.le_trans l44 l50), ha.covers ⟨rfl, rfl, rfl, rfl, trivial⟩, (Among.of (Among.take 1 rfl rfl Among.none) _ hs)⟩
       replace hm := iF hm q45
       have hb51 : (q41) = false := eq_false_of_ne_true q45
       try rw [hb51]
       refine St.val (v := vT) (Yields.not_f rfl) rfl rfl rfl ?_
       refine spt rfl rfl rfl ?_
       refine smv rfl rfl ?_
       refine su rfl rfl rfl ?_
       refine su rfl rfl rfl ?_
       refine su rfl rfl rfl ?_
       refine su rfl rfl rfl ?_
       refine St.unwanted trivial rfl rfl ?_
       refine St.unwanted trivial rfl rfl ?_
       refine St.unwanted trivial rfl rfl ?_
       refine St.unwanted trivial rfl rfl ?_
       refine St.unwanted trivial rfl rfl ?_
       refine St.unwanted trivial rfl rfl ?_
       refine St.unwanted trivial rfl rfl ?_
       refine St.unwanted trivial rfl rfl ?_
       refine St.unwanted trivial rfl rfl ?_
       refine su rfl rfl rfl ?_
       refine spt rfl rfl rfl ?_
       refine smv rfl rfl ?_
       refine su rfl rfl rfl ?_
       refine su rfl rfl rfl ?_
       refine su rfl rfl rfl ?_
       refine su rfl rfl rfl ?_
       refine spt rfl rfl rfl ?_
       refine St.nil ?_
       obtain rfl := sI hm
       intro a w ha hs
       exact ⟨F43, l44, ha.covers ⟨rfl, rfl, rfl, rfl, trivial⟩, (Among.of (Among.take 1 rfl rfl Among.none) _ hs)⟩
      replace hm := iF hm q40
      refine sv (v := vF) (Yields.isnt q40 (Yields.eqStr rfl rfl)) rfl ?_
      refine smv rfl rfl ?_
      refine su rfl rfl rfl ?_
      refine su rfl rfl rfl ?_
      refine su rfl rfl rfl ?_
      refine su rfl rfl rfl ?_
      refine spf rfl rfl rfl ?_
      refine smv rfl rfl ?_
      refine St.val (v := (.pointer (some ⟨b35, 0, none⟩))) (Yields.fieldAddr (v := (.pointer (some ⟨b35, 0, none⟩))) rfl (fun _ => by kernel_rfl)) rfl rfl rfl ?_
      refine St.val (v := (.string (bs x28.Name))) (Yields.load rfl (Loads.H1 0 rfl tc9 rfl)) rfl rfl rfl ?_
      refine St.val (v := vT) (Yields.nisnt q40 (Yields.neStr rfl rfl)) rfl rfl rfl ?_
      refine St.val (v := vT) (Yields.move rfl) rfl rfl rfl ?_
      refine St.val (v := (.pointer (some ⟨b35, 1, none⟩))) (Yields.fieldAddr (v := (.pointer (some ⟨b35, 1, none⟩))) rfl (fun _ => by kernel_rfl)) rfl rfl rfl ?_
      refine St.val (v := (.int .i64 x28.N)) (Yields.load rfl (Loads.H1 0 rfl tc3 rfl)) rfl rfl rfl ?_
      by_cases q52 : x28.N = 0
      ·replace hm := iT hm q52
       refine St.val (v := vF) (Yields.nis q52 (Yields.ne rfl rfl)) rfl rfl rfl ?_
       refine St.val (v := vF) (Yields.move rfl) rfl rfl rfl ?_
       refine St.val (v := (.pointer (some ⟨b35, 0, none⟩))) (Yields.fieldAddr (v := (.pointer (some ⟨b35, 0, none⟩))) rfl (fun _ => by kernel_rfl)) rfl rfl rfl ?_
       refine St.val (v := (.string (bs x28.Name))) (Yields.load rfl (Loads.H1 0 rfl tc9 rfl)) rfl rfl rfl ?_
       obtain ⟨q53, e54, hm⟩ := bS hm
       refine St.call [blk b35 (.cells #[.string (bs x28.Name), .int .i64 x28.N, .int .i64 x28.To] 49 (0, 0)), blk b3 (.cells #[.int .i64 a0.Op, .int .i64 a0.A, .int .i64 a0.B, .int .i64 a0.N, .string (bs a0.Name), .slice pA0_0 a0.Args.length pc0_0, .slice pA0_1 a0.Cases.length pc0_1] 40 (0, 0))] (m_ref08_IsGreat_sp e54) rfl (fun _ ha => ev1 ha rfl) rfl en65 rfl rfl rfl ?_
       rintro _ F55 _ ⟨rfl, rfl⟩ l56
       by_cases q57 : q53 = true
       ·replace hm := iT hm q57
        have hb58 : (q53) = true := q57
        try rw [hb58]
        refine St.val (v := vF) (Yields.not_t rfl) rfl rfl rfl ?_
        refine St.val (v := vF) (Yields.pick_f rfl rfl) rfl rfl rfl ?_
        refine St.val (v := vF) (Yields.pick_t rfl rfl) rfl rfl rfl ?_
        refine spf rfl rfl rfl ?_
        refine smv rfl rfl ?_
        refine St.val (v := (.pointer (some ⟨b35, 2, none⟩))) (Yields.fieldAddr (v := (.pointer (some ⟨b35, 2, none⟩))) rfl (fun _ => by kernel_rfl)) rfl rfl rfl ?_
        refine St.val (v := (.int .i64 x28.To)) (Yields.load rfl (Loads.H1 0 rfl tc3 rfl)) rfl rfl rfl ?_
        obtain ⟨q59, e60, hm⟩ := bS hm
        refine St.call [blk b35 (.cells #[.string (bs x28.Name), .int .i64 x28.N, .int .i64 x28.To] 49 (0, 0)), blk b3 (.cells #[.int .i64 a0.Op, .int .i64 a0.A, .int .i64 a0.B, .int .i64 a0.N, .string (bs a0.Name), .slice pA0_0 a0.Args.length pc0_0, .slice pA0_1 a0.Cases.length pc0_1] 40 (0, 0))] (m_ref14_isNumber_sp e60) rfl (fun _ ha => ev1 ha rfl) rfl en38 rfl rfl rfl ?_
        rintro _ F61 _ ⟨rfl, rfl⟩ l62
        refine St.val (v := (.bool (!q59))) (Yields.not rfl) rfl rfl rfl ?_
        refine spf rfl rfl rfl ?_
        refine St.nil ?_
        obtain rfl := sI hm
        intro a w ha hs
        exact ⟨F61, (PH.le_trans l56 l62), ha.covers ⟨rfl, rfl, rfl, rfl, trivial⟩, (Among.of (Among.take 1 rfl rfl Among.none) _ hs)⟩
       replace hm := iF hm q57
       have hb63 : (q53) = false := eq_false_of_ne_true q57
       try rw [hb63]
       refine St.val (v := vT) (Yields.not_f rfl) rfl rfl rfl ?_
       refine St.val (v := vT) (Yields.pick_f rfl rfl) rfl rfl rfl ?_
       refine St.val (v := vT) (Yields.pick_t rfl rfl) rfl rfl rfl ?_
       refine spf rfl rfl rfl ?_
       refine smv rfl rfl ?_
       refine su rfl rfl rfl ?_
       refine su rfl rfl rfl ?_
       refine su rfl rfl rfl ?_
       refine su rfl rfl rfl ?_
       refine spt rfl rfl rfl ?_
       refine St.nil ?_
       obtain rfl := sI hm
       intro a w ha hs
       exact ⟨F55, l56, ha.covers ⟨rfl, rfl, rfl, rfl, trivial⟩, (Among.of (Among.take 1 rfl rfl Among.none) _ hs)⟩
      replace hm := iF hm q52
      refine St.val (v := vT) (Yields.nisnt q52 (Yields.ne rfl rfl)) rfl rfl rfl ?_
      refine St.val (v := vT) (Yields.move rfl) rfl rfl rfl ?_
      refine su rfl rfl rfl ?_
      refine su rfl rfl rfl ?_
      refine su rfl rfl rfl ?_
      refine su rfl rfl rfl ?_
      refine St.val (v := vT) (Yields.pick_t rfl rfl) rfl rfl rfl ?_
      refine St.val (v := vT) (Yields.pick_t rfl rfl) rfl rfl rfl ?_
      refine spf rfl rfl rfl ?_
      refine smv rfl rfl ?_
      refine su rfl rfl rfl ?_
      refine su rfl rfl rfl ?_
      refine su rfl rfl rfl ?_
      refine su rfl rfl rfl ?_
      refine spt rfl rfl rfl ?_
      refine St.nil ?_
      obtain rfl := sI hm
      intro a w ha hs
      exact ⟨F25, (PH.le_refl _), ha.covers ⟨rfl, rfl, rfl, rfl, trivial⟩, (Among.of (Among.take 1 rfl rfl Among.none) _ hs)⟩
     rintro a w ⟨F37, l38, ha, hs⟩
     replace hm := hk39
     refine St.use (?_ : St _ _ _ _ _ _) ha hs
     clear ha hs a w
     refine St.cond_b rfl ?_ ?_
     ·intro q64
      replace q64 : z36 = true := q64
      replace hm := iT hm q64
      refine ssr ?_
      refine sas rfl rfl ?_
      refine snn ?_
      refine St.ret ?_
      refine St.inret ?_
      refine St.thenret ?_
      refine St.thenret ?_
      refine St.inret ?_
      refine St.thenret ?_
      refine St.inret ?_
      refine St.thenret ?_
      obtain rfl := sI hm
      obtain rfl := aR ho24
      obtain rfl := aR ho18
      obtain rfl := aR ho12
      exact St.doneR1 rfl rfl ⟨rfl, rfl⟩ (fun w hs => Among.of Among.none w hs)
     intro q65
     replace q65 : ¬ (z36 = true) := bf q65
     replace hm := iF hm q65
     refine St.skip ?_
     refine St.innorm ?_
     refine St.norm ?_
     refine St.region ?_
     refine smv rfl rfl ?_
     refine sv (v := (.int .i64 ((s21 + 1 : Nat) : Int))) (Yields.addn (j := 1) rfl rfl rfl (by have q_0 := q27; have q_1 := ph0_1.bnd.2; omega)) rfl ?_
     refine sas rfl rfl ?_
     refine snn ?_
     obtain rfl := sI hm
     intro a w ha hs
     exact ⟨s21 + 1, aL ho24, F37, (PH.le_trans l26 l38), ha.covers ⟨rfl, rfl, rfl, trivial⟩, (Among.of (Among.take 0 rfl rfl Among.none) _ hs)⟩
    intro q66
    replace q66 : ¬ (((s21 : Nat) : Int) < ((a0.Cases.length : Nat) : Int)) := of_decide_eq_false q66
    replace hm := iF hm q66
    refine St.exit ?_
    refine St.thenexit ?_
    refine St.thenexit ?_
    refine St.inexit ?_
    obtain rfl := sI hm
    obtain rfl := aR ho24
    intro a w ha hs
    exact ⟨(), rfl, F25, l26, ha.covers ⟨rfl, rfl, trivial⟩, (Among.of (Among.take 0 rfl rfl Among.none) _ hs)⟩
   rintro a w ⟨z14, rfl, F15, l16, ha, hs⟩
   replace hm := aL ho18
   refine St.use (?_ : St _ _ _ _ _ _) ha hs
   clear ha hs a w
   obtain ⟨z67, hm, hk70⟩ := bS hm
   refine St.cutI (fun a w => ∃ (F68 : PH), PH.le F15 F68 ∧ Has Tryz.f39.ntmps a [(2, .bool z67)] ∧ Sat ⟨w0, fun b => m0 b ≠ none, F⟩ F68 [] w) ?_ ?_
   ·skip
    refine St.region ?_
    by_cases q71 : z4 = true
    ·replace hm := iT hm q71
     have hb72 : (z4) = true := q71
     try rw [hb72]
     refine smv rfl rfl ?_
     refine smv rfl rfl ?_
     refine St.val (v := (.pointer (some ⟨b3, 1, none⟩))) (Yields.fieldAddr (v := (.pointer (some ⟨b3, 1, none⟩))) rfl (fun _ => by kernel_rfl)) rfl rfl rfl ?_
     refine St.val (v := (.int .i64 a0.A)) (Yields.load rfl (Loads.H1 0 rfl tc3 rfl)) rfl rfl rfl ?_
     obtain ⟨q73, e74, hm⟩ := bS hm
     refine St.call [blk b3 (.cells #[.int .i64 a0.Op, .int .i64 a0.A, .int .i64 a0.B, .int .i64 a0.N, .string (bs a0.Name), .slice pA0_0 a0.Args.length pc0_0, .slice pA0_1 a0.Cases.length pc0_1] 40 (0, 0))] (m_ref14_isNumber_sp e74) rfl (fun _ ha => ev1 ha rfl) rfl en38 rfl rfl rfl ?_
     rintro _ F75 _ ⟨rfl, rfl⟩ l76
     by_cases q77 : q73 = true
     ·replace hm := iT hm q77
      have hb78 : (q73) = true := q77
      try rw [hb78]
      refine spt rfl rfl rfl ?_
      refine smv rfl rfl ?_
      refine St.val (v := (.pointer (some ⟨b3, 2, none⟩))) (Yields.fieldAddr (v := (.pointer (some ⟨b3, 2, none⟩))) rfl (fun _ => by kernel_rfl)) rfl rfl rfl ?_
      refine St.val (v := (.int .i64 a0.B)) (Yields.load rfl (Loads.H1 0 rfl tc3 rfl)) rfl rfl rfl ?_
      obtain ⟨q79, e80, hm⟩ := bS hm
      refine St.call [blk b3 (.cells #[.int .i64 a0.Op, .int .i64 a0.A, .int .i64 a0.B, .int .i64 a0.N, .string (bs a0.Name), .slice pA0_0 a0.Args.length pc0_0, .slice pA0_1 a0.Cases.length pc0_1] 40 (0, 0))] (m_ref14_isNumber_sp e80) rfl (fun _ ha => ev1 ha rfl) rfl en38 rfl rfl rfl ?_
      rintro _ F81 _ ⟨rfl, rfl⟩ l82
      refine spt rfl rfl rfl ?_
      refine sas rfl rfl ?_
      refine St.nil ?_
      obtain rfl := sI hm
      intro a w ha hs
      exact ⟨F81, (PH.le_trans l76 l82), ha.covers ⟨rfl, trivial⟩, (Among.of Among.none _ hs)⟩
     replace hm := iF hm q77
     have hb83 : (q73) = false := eq_false_of_ne_true q77
     try rw [hb83]
     refine spt rfl rfl rfl ?_
     refine smv rfl rfl ?_
     refine su rfl rfl rfl ?_
     refine su rfl rfl rfl ?_
     refine su rfl rfl rfl ?_
     refine spf rfl rfl rfl ?_
     refine sas rfl rfl ?_
     refine St.nil ?_
     obtain rfl := sI hm
     intro a w ha hs
     exact ⟨F75, l76, ha.covers ⟨rfl, trivial⟩, (Among.of Among.none _ hs)⟩
    replace hm := iF hm q71
    have hb84 : (z4) = false := eq_false_of_ne_true q71
    try rw [hb84]
    refine smv rfl rfl ?_
    refine smv rfl rfl ?_
    refine su rfl rfl rfl ?_
    refine su rfl rfl rfl ?_
    refine su rfl rfl rfl ?_
    refine spf rfl rfl rfl ?_
    refine smv rfl rfl ?_
    refine su rfl rfl rfl ?_
    refine su rfl rfl rfl ?_
    refine su rfl rfl rfl ?_
    refine spf rfl rfl rfl ?_
    refine sas rfl rfl ?_
    refine St.nil ?_
    obtain rfl := sI hm
    intro a w ha hs
    exact ⟨F15, (PH.le_refl _), ha.covers ⟨rfl, trivial⟩, (Among.of Among.none _ hs)⟩
   rintro a w ⟨F68, l69, ha, hs⟩
   replace hm := hk70
   refine St.use (?_ : St _ _ _ _ _ _) ha hs
   clear ha hs a w
   refine St.ret ?_
   refine St.inret ?_
   refine St.thenret ?_
   obtain rfl := sI hm
   obtain rfl := aR ho12
   exact St.doneR1 rfl rfl ⟨rfl, rfl⟩ (fun w hs => Among.of Among.none w hs)
  intro q85
  replace q85 : ¬ (a0.Op = 1) := of_decide_eq_false q85
  replace hm := iF hm q85
  refine ssr ?_
  refine sv (v := (.bool (decide (a0.Op = 4)))) (Yields.eq rfl rfl) rfl ?_
  refine sas rfl rfl ?_
  refine snn ?_
  refine St.cond_b rfl ?_ ?_
  ·intro q86
   replace q86 : a0.Op = 4 := of_decide_eq_true q86
   replace hm := iT hm q86
   obtain ⟨z87, hm, hk90⟩ := bS hm
   refine St.cutI (fun a w => ∃ (F88 : PH), PH.le F F88 ∧ Has Tryz.f39.ntmps a [(2, .bool z87)] ∧ Sat ⟨w0, fun b => m0 b ≠ none, F⟩ F88 [] w) ?_ ?_
   ·skip
    refine St.region ?_
    by_cases q91 : z4 = true
    ·replace hm := iT hm q91
     have hb92 : (z4) = true := q91
     try rw [hb92]
     refine smv rfl rfl ?_
     refine smv rfl rfl ?_
     refine St.val (v := (.pointer (some ⟨b3, 1, none⟩))) (Yields.fieldAddr (v := (.pointer (some ⟨b3, 1, none⟩))) rfl (fun _ => by kernel_rfl)) rfl rfl rfl ?_
     refine St.val (v := (.int .i64 a0.A)) (Yields.load rfl (Loads.H1 0 rfl tc3 rfl)) rfl rfl rfl ?_
     obtain ⟨q93, e94, hm⟩ := bS hm
     refine St.call [blk b3 (.cells #[.int .i64 a0.Op, .int .i64 a0.A, .int .i64 a0.B, .int .i64 a0.N, .string (bs a0.Name), .slice pA0_0 a0.Args.length pc0_0, .slice pA0_1 a0.Cases.length pc0_1] 40 (0, 0))] (m_ref14_isNumber_sp e94) rfl (fun _ ha => ev1 ha rfl) rfl en38 rfl rfl rfl ?_
     rintro _ F95 _ ⟨rfl, rfl⟩ l96
     by_cases q97 : q93 = true
     ·replace hm := iT hm q97
      have hb98 : (q93) = true := q97
      try rw [hb98]
      refine spt rfl rfl rfl ?_
      refine smv rfl rfl ?_
      refine St.val (v := (.pointer (some ⟨b3, 2, none⟩))) (Yields.fieldAddr (v := (.pointer (some ⟨b3, 2, none⟩))) rfl (fun _ => by kernel_rfl)) rfl rfl rfl ?_
      refine St.val (v := (.int .i64 a0.B)) (Yields.load rfl (Loads.H1 0 rfl tc3 rfl)) rfl rfl rfl ?_
      by_cases q99 : a0.B = 0
      ·replace hm := iT hm q99
       refine St.val (v := vT) (Yields.is q99 (Yields.eq rfl rfl)) rfl rfl rfl ?_
       refine spt rfl rfl rfl ?_
       refine smv rfl rfl ?_
       refine St.val (v := (.pointer (some ⟨b3, 6, none⟩))) (Yields.fieldAddr (v := (.pointer (some ⟨b3, 6, none⟩))) rfl (fun _ => by kernel_rfl)) rfl rfl rfl ?_
       refine St.val (v := (.slice pA0_1 a0.Cases.length pc0_1)) (Yields.load rfl (Loads.H1 0 rfl tc38 rfl)) rfl rfl rfl ?_
       refine St.val (v := (.int .i64 ((a0.Cases.length : Nat) : Int))) (Yields.lenSlice tu38 rfl) rfl rfl rfl ?_
       refine St.val (v := (.bool (decide (((a0.Cases.length : Nat) : Int) = 0)))) (Yields.eq rfl rfl) rfl rfl rfl ?_
       refine spt rfl rfl rfl ?_
       refine sas rfl rfl ?_
       refine St.nil ?_
       obtain rfl := sI hm
       intro a w ha hs
       exact ⟨F95, l96, ha.covers ⟨rfl, trivial⟩, (Among.of Among.none _ hs)⟩
      replace hm := iF hm q99
      refine St.val (v := vF) (Yields.isnt q99 (Yields.eq rfl rfl)) rfl rfl rfl ?_
      refine spt rfl rfl rfl ?_
      refine smv rfl rfl ?_
      refine su rfl rfl rfl ?_
      refine su rfl rfl rfl ?_
      refine su rfl rfl rfl ?_
      refine su rfl rfl rfl ?_
      refine spf rfl rfl rfl ?_
      refine sas rfl rfl ?_
      refine St.nil ?_
      obtain rfl := sI hm
      intro a w ha hs
      exact ⟨F95, l96, ha.covers ⟨rfl, trivial⟩, (Among.of Among.none _ hs)⟩
     replace hm := iF hm q97
     have hb100 : (q93) = false := eq_false_of_ne_true q97
     try rw [hb100]
     refine spt rfl rfl rfl ?_
     refine smv rfl rfl ?_
     refine su rfl rfl rfl ?_
     refine su rfl rfl rfl ?_
     refine su rfl rfl rfl ?_
     refine spf rfl rfl rfl ?_
     refine smv rfl rfl ?_
     refine su rfl rfl rfl ?_
     refine su rfl rfl rfl ?_
     refine su rfl rfl rfl ?_
     refine su rfl rfl rfl ?_
     refine spf rfl rfl rfl ?_
     refine sas rfl rfl ?_
     refine St.nil ?_
     obtain rfl := sI hm
     intro a w ha hs
     exact ⟨F95, l96, ha.covers ⟨rfl, trivial⟩, (Among.of Among.none _ hs)⟩
    replace hm := iF hm q91
    have hb101 : (z4) = false := eq_false_of_ne_true q91
    try rw [hb101]
    refine smv rfl rfl ?_
    refine smv rfl rfl ?_
    refine su rfl rfl rfl ?_
    refine su rfl rfl rfl ?_
    refine su rfl rfl rfl ?_
    refine spf rfl rfl rfl ?_
    refine smv rfl rfl ?_
    refine su rfl rfl rfl ?_
    refine su rfl rfl rfl ?_
    refine su rfl rfl rfl ?_
    refine spf rfl rfl rfl ?_
    refine smv rfl rfl ?_
    refine su rfl rfl rfl ?_
    refine su rfl rfl rfl ?_
    refine su rfl rfl rfl ?_
    refine su rfl rfl rfl ?_
    refine spf rfl rfl rfl ?_
    refine sas rfl rfl ?_
    refine St.nil ?_
    obtain rfl := sI hm
    intro a w ha hs
    exact ⟨F, (PH.le_refl _), ha.covers ⟨rfl, trivial⟩, (Among.of Among.none _ hs)⟩
   rintro a w ⟨F88, l89, ha, hs⟩
   replace hm := hk90
   refine St.use (?_ : St _ _ _ _ _ _) ha hs
   clear ha hs a w
   refine St.ret ?_
   refine St.inret ?_
   refine St.thenret ?_
   obtain rfl := sI hm
   obtain rfl := aR ho12
   exact St.doneR1 rfl rfl ⟨rfl, rfl⟩ (fun w hs => Among.of Among.none w hs)
  intro q102
  replace q102 : ¬ (a0.Op = 4) := of_decide_eq_false q102
  replace hm := iF hm q102
  obtain ⟨z103, hm, hk104⟩ := bS hm
  refine St.cutI (fun a w => Has Tryz.f39.ntmps a [(1, .pointer (some ⟨b3, 0, none⟩)), (3, .bool z4), (21, .int .i64 a0.Op), (97, .bool z103)] ∧ Sat ⟨w0, fun b => m0 b ≠ none, F⟩ F [blk b3 (.cells #[.int .i64 a0.Op, .int .i64 a0.A, .int .i64 a0.B, .int .i64 a0.N, .string (bs a0.Name), .slice pA0_0 a0.Args.length pc0_0, .slice pA0_1 a0.Cases.length pc0_1] 40 (0, 0))] w) ?_ ?_
  ·skip
   refine ssr ?_
   refine sv (v := (.bool (decide (a0.Op = 3)))) (Yields.eq rfl rfl) rfl ?_
   refine sas rfl rfl ?_
   refine snn ?_
   refine St.cond_b rfl ?_ ?_
   ·intro q105
    replace q105 : a0.Op = 3 := of_decide_eq_true q105
    replace hm := iT hm q105
    refine St.skip ?_
    obtain rfl := sI hm
    intro a w ha hs
    exact ⟨ha.covers ⟨rfl, rfl, rfl, rfl, trivial⟩, (Among.of (Among.take 0 rfl rfl Among.none) _ hs)⟩
   intro q106
   replace q106 : ¬ (a0.Op = 3) := of_decide_eq_false q106
   replace hm := iF hm q106
   refine St.region ?_
   refine sv (v := (.bool (decide (a0.Op = 5)))) (Yields.eq rfl rfl) rfl ?_
   refine sas rfl rfl ?_
   refine St.nil ?_
   obtain rfl := sI hm
   intro a w ha hs
   exact ⟨ha.covers ⟨rfl, rfl, rfl, rfl, trivial⟩, (Among.of (Among.take 0 rfl rfl Among.none) _ hs)⟩
  rintro a w ⟨ha, hs⟩
  replace hm := hk104
  refine St.use (?_ : St _ _ _ _ _ _) ha hs
  clear ha hs a w
  refine St.cond_b rfl ?_ ?_
  ·intro q107
   replace q107 : z103 = true := q107
   replace hm := iT hm q107
   obtain ⟨z108, hm, hk109⟩ := bS hm
   refine St.cutI (fun a w => Has Tryz.f39.ntmps a [(2, .bool z108)] ∧ Sat ⟨w0, fun b => m0 b ≠ none, F⟩ F [] w) ?_ ?_
   ·skip
    refine St.region ?_
    by_cases q110 : z4 = true
    ·replace hm := iT hm q110
     have hb111 : (z4) = true := q110
     try rw [hb111]
     refine smv rfl rfl ?_
     refine smv rfl rfl ?_
     refine St.val (v := (.pointer (some ⟨b3, 1, none⟩))) (Yields.fieldAddr (v := (.pointer (some ⟨b3, 1, none⟩))) rfl (fun _ => by kernel_rfl)) rfl rfl rfl ?_
     refine St.val (v := (.int .i64 a0.A)) (Yields.load rfl (Loads.H1 0 rfl tc3 rfl)) rfl rfl rfl ?_
     by_cases q112 : a0.A = 0
     ·replace hm := iT hm q112
      refine St.val (v := vT) (Yields.is q112 (Yields.eq rfl rfl)) rfl rfl rfl ?_
      refine spt rfl rfl rfl ?_
      refine smv rfl rfl ?_
      refine St.val (v := (.pointer (some ⟨b3, 2, none⟩))) (Yields.fieldAddr (v := (.pointer (some ⟨b3, 2, none⟩))) rfl (fun _ => by kernel_rfl)) rfl rfl rfl ?_
      refine St.val (v := (.int .i64 a0.B)) (Yields.load rfl (Loads.H1 0 rfl tc3 rfl)) rfl rfl rfl ?_
      by_cases q113 : a0.B = 0
      ·replace hm := iT hm q113
       refine St.val (v := vT) (Yields.is q113 (Yields.eq rfl rfl)) rfl rfl rfl ?_
       refine spt rfl rfl rfl ?_
       refine smv rfl rfl ?_
       refine St.val (v := (.pointer (some ⟨b3, 6, none⟩))) (Yields.fieldAddr (v := (.pointer (some ⟨b3, 6, none⟩))) rfl (fun _ => by kernel_rfl)) rfl rfl rfl ?_
       refine St.val (v := (.slice pA0_1 a0.Cases.length pc0_1)) (Yields.load rfl (Loads.H1 0 rfl tc38 rfl)) rfl rfl rfl ?_
       refine St.val (v := (.int .i64 ((a0.Cases.length : Nat) : Int))) (Yields.lenSlice tu38 rfl) rfl rfl rfl ?_
       refine St.val (v := (.bool (decide (((a0.Cases.length : Nat) : Int) = 0)))) (Yields.eq rfl rfl) rfl rfl rfl ?_
       refine spt rfl rfl rfl ?_
       refine sas rfl rfl ?_
       refine St.nil ?_
       obtain rfl := sI hm
       intro a w ha hs
       exact ⟨ha.covers ⟨rfl, trivial⟩, (Among.of Among.none _ hs)⟩
      replace hm := iF hm q113
      refine St.val (v := vF) (Yields.isnt q113 (Yields.eq rfl rfl)) rfl rfl rfl ?_
      refine spt rfl rfl rfl ?_
      refine smv rfl rfl ?_
      refine su rfl rfl rfl ?_
      refine su rfl rfl rfl ?_
      refine su rfl rfl rfl ?_
      refine su rfl rfl rfl ?_
      refine spf rfl rfl rfl ?_
      refine sas rfl rfl ?_
      refine St.nil ?_
      obtain rfl := sI hm
      intro a w ha hs
      exact ⟨ha.covers ⟨rfl, trivial⟩, (Among.of Among.none _ hs)⟩
     replace hm := iF hm q112
     refine St.val (v := vF) (Yields.isnt q112 (Yields.eq rfl rfl)) rfl rfl rfl ?_
     refine spt rfl rfl rfl ?_
     refine smv rfl rfl ?_
     refine su rfl rfl rfl ?_
     refine su rfl rfl rfl ?_
     refine su rfl rfl rfl ?_
     refine spf rfl rfl rfl ?_
     refine smv rfl rfl ?_
     refine su rfl rfl rfl ?_
     refine su rfl rfl rfl ?_
     refine su rfl rfl rfl ?_
     refine su rfl rfl rfl ?_
     refine spf rfl rfl rfl ?_
     refine sas rfl rfl ?_
     refine St.nil ?_
     obtain rfl := sI hm
     intro a w ha hs
     exact ⟨ha.covers ⟨rfl, trivial⟩, (Among.of Among.none _ hs)⟩
    replace hm := iF hm q110
    have hb114 : (z4) = false := eq_false_of_ne_true q110
    try rw [hb114]
    refine smv rfl rfl ?_
    refine smv rfl rfl ?_
    refine su rfl rfl rfl ?_
    refine su rfl rfl rfl ?_
    refine su rfl rfl rfl ?_
    refine spf rfl rfl rfl ?_
    refine smv rfl rfl ?_
    refine su rfl rfl rfl ?_
    refine su rfl rfl rfl ?_
    refine su rfl rfl rfl ?_
    refine spf rfl rfl rfl ?_
    refine smv rfl rfl ?_
    refine su rfl rfl rfl ?_
    refine su rfl rfl rfl ?_
    refine su rfl rfl rfl ?_
    refine su rfl rfl rfl ?_
    refine spf rfl rfl rfl ?_
    refine sas rfl rfl ?_
    refine St.nil ?_
    obtain rfl := sI hm
    intro a w ha hs
    exact ⟨ha.covers ⟨rfl, trivial⟩, (Among.of Among.none _ hs)⟩
   rintro a w ⟨ha, hs⟩
   replace hm := hk109
   refine St.use (?_ : St _ _ _ _ _ _) ha hs
   clear ha hs a w
   refine St.ret ?_
   refine St.inret ?_
   refine St.thenret ?_
   obtain rfl := sI hm
   obtain rfl := aR ho12
   exact St.doneR1 rfl rfl ⟨rfl, rfl⟩ (fun w hs => Among.of Among.none w hs)
  intro q115
  replace q115 : ¬ (z103 = true) := bf q115
  replace hm := iF hm q115
  refine ssr ?_
  refine sv (v := (.bool (decide (a0.Op = 2)))) (Yields.eq rfl rfl) rfl ?_
  refine sas rfl rfl ?_
  refine snn ?_
  refine St.cond_b rfl ?_ ?_
  ·intro q116
   replace q116 : a0.Op = 2 := of_decide_eq_true q116
   replace hm := iT hm q116
   refine St.seq ?_
   obtain ⟨z117, hm, hk120⟩ := bS hm
   refine St.cutI (fun a w => ∃ (F118 : PH), PH.le F F118 ∧ Has Tryz.f39.ntmps a [(1, .pointer (some ⟨b3, 0, none⟩)), (143, .bool z117)] ∧ Sat ⟨w0, fun b => m0 b ≠ none, F⟩ F118 [blk b3 (.cells #[.int .i64 a0.Op, .int .i64 a0.A, .int .i64 a0.B, .int .i64 a0.N, .string (bs a0.Name), .slice pA0_0 a0.Args.length pc0_0, .slice pA0_1 a0.Cases.length pc0_1] 40 (0, 0))] w) ?_ ?_
   ·skip
    refine St.region ?_
    refine sfa (v := (.pointer (some ⟨b3, 2, none⟩))) rfl (fun _ => by kernel_rfl) rfl ?_
    refine sv (v := (.int .i64 a0.B)) (Yields.load rfl (Loads.H1 0 rfl tc3 rfl)) rfl ?_
    by_cases q121 : a0.B = 0
    ·replace hm := iT hm q121
     refine sv (v := vF) (Yields.nis q121 (Yields.ne rfl rfl)) rfl ?_
     refine smv rfl rfl ?_
     refine St.val (v := (.pointer (some ⟨b3, 6, none⟩))) (Yields.fieldAddr (v := (.pointer (some ⟨b3, 6, none⟩))) rfl (fun _ => by kernel_rfl)) rfl rfl rfl ?_
     refine St.val (v := (.slice pA0_1 a0.Cases.length pc0_1)) (Yields.load rfl (Loads.H1 0 rfl tc38 rfl)) rfl rfl rfl ?_
     refine St.val (v := (.int .i64 ((a0.Cases.length : Nat) : Int))) (Yields.lenSlice tu38 rfl) rfl rfl rfl ?_
     by_cases q122 : ((a0.Cases.length : Nat) : Int) > 0
     ·replace hm := iT hm q122
      refine St.val (v := vT) (Yields.is q122 (Yields.gt rfl rfl)) rfl rfl rfl ?_
      refine spf rfl rfl rfl ?_
      refine smv rfl rfl ?_
      refine su rfl rfl rfl ?_
      refine su rfl rfl rfl ?_
      refine su rfl rfl rfl ?_
      refine su rfl rfl rfl ?_
      refine spt rfl rfl rfl ?_
      refine smv rfl rfl ?_
      refine su rfl rfl rfl ?_
      refine su rfl rfl rfl ?_
      refine su rfl rfl rfl ?_
      refine su rfl rfl rfl ?_
      refine St.unwanted trivial rfl rfl ?_
      refine St.unwanted trivial rfl rfl ?_
      refine St.unwanted trivial rfl rfl ?_
      refine su rfl rfl rfl ?_
      refine spt rfl rfl rfl ?_
      refine St.nil ?_
      obtain rfl := sI hm
      intro a w ha hs
      exact ⟨F, (PH.le_refl _), ha.covers ⟨rfl, rfl, trivial⟩, (Among.of (Among.take 0 rfl rfl Among.none) _ hs)⟩
     replace hm := iF hm q122
     refine St.val (v := vF) (Yields.isnt q122 (Yields.gt rfl rfl)) rfl rfl rfl ?_
     refine spf rfl rfl rfl ?_
     refine smv rfl rfl ?_
     refine St.val (v := (.pointer (some ⟨b3, 5, none⟩))) (Yields.fieldAddr (v := (.pointer (some ⟨b3, 5, none⟩))) rfl (fun _ => by kernel_rfl)) rfl rfl rfl ?_
     refine St.val (v := (.slice pA0_0 a0.Args.length pc0_0)) (Yields.load rfl (Loads.H1 0 rfl tc37 rfl)) rfl rfl rfl ?_
     obtain ⟨q123, e124, hm⟩ := bS hm
     refine St.call [blk b3 (.cells #[.int .i64 a0.Op, .int .i64 a0.A, .int .i64 a0.B, .int .i64 a0.N, .string (bs a0.Name), .slice pA0_0 a0.Args.length pc0_0, .slice pA0_1 a0.Cases.length pc0_1] 40 (0, 0))] (m_ref14_areNumbers_sp ph0_0 e124) rfl (fun _ ha => ev1 ha rfl) rfl en66 rfl rfl rfl ?_
     rintro _ F125 _ ⟨rfl, rfl⟩ l126
     by_cases q127 : q123 = true
     ·replace hm := iT hm q127
      have hb128 : (q123) = true := q127
      try rw [hb128]
      refine St.val (v := vF) (Yields.not_t rfl) rfl rfl rfl ?_
      refine spf rfl rfl rfl ?_
      refine smv rfl rfl ?_
      refine St.val (v := (.pointer (some ⟨b3, 3, none⟩))) (Yields.fieldAddr (v := (.pointer (some ⟨b3, 3, none⟩))) rfl (fun _ => by kernel_rfl)) rfl rfl rfl ?_
      refine St.val (v := (.int .i64 a0.N)) (Yields.load rfl (Loads.H1 0 rfl tc3 rfl)) rfl rfl rfl ?_
      by_cases q129 : a0.N = 2
      ·replace hm := iT hm q129
       refine St.val (v := vF) (Yields.nis q129 (Yields.ne rfl rfl)) rfl rfl rfl ?_
       refine St.val (v := vF) (Yields.move rfl) rfl rfl rfl ?_
       refine su rfl rfl rfl ?_
       refine su rfl rfl rfl ?_
       refine su rfl rfl rfl ?_
       refine St.val (v := vF) (Yields.pick_f rfl rfl) rfl rfl rfl ?_
       refine spf rfl rfl rfl ?_
       refine St.nil ?_
       obtain rfl := sI hm
       intro a w ha hs
       exact ⟨F125, l126, ha.covers ⟨rfl, rfl, trivial⟩, (Among.of (Among.take 0 rfl rfl Among.none) _ hs)⟩
      replace hm := iF hm q129
      refine St.val (v := vT) (Yields.nisnt q129 (Yields.ne rfl rfl)) rfl rfl rfl ?_
      refine St.val (v := vT) (Yields.move rfl) rfl rfl rfl ?_
      refine St.val (v := (.pointer (some ⟨b3, 1, none⟩))) (Yields.fieldAddr (v := (.pointer (some ⟨b3, 1, none⟩))) rfl (fun _ => by kernel_rfl)) rfl rfl rfl ?_
      refine St.val (v := (.int .i64 a0.A)) (Yields.load rfl (Loads.H1 0 rfl tc3 rfl)) rfl rfl rfl ?_
      refine St.val (v := (.bool (!decide (a0.A = 0)))) (Yields.ne rfl rfl) rfl rfl rfl ?_
      refine St.val (v := (.bool (!decide (a0.A = 0)))) (Yields.pick_t rfl rfl) rfl rfl rfl ?_
      refine spf rfl rfl rfl ?_
      refine St.nil ?_
      obtain rfl := sI hm
      intro a w ha hs
      exact ⟨F125, l126, ha.covers ⟨rfl, rfl, trivial⟩, (Among.of (Among.take 0 rfl rfl Among.none) _ hs)⟩
     replace hm := iF hm q127
     have hb130 : (q123) = false := eq_false_of_ne_true q127
     try rw [hb130]
     refine St.val (v := vT) (Yields.not_f rfl) rfl rfl rfl ?_
     refine spf rfl rfl rfl ?_
     refine smv rfl rfl ?_
     refine su rfl rfl rfl ?_
     refine su rfl rfl rfl ?_
     refine su rfl rfl rfl ?_
     refine su rfl rfl rfl ?_
     refine St.unwanted trivial rfl rfl ?_
     refine St.unwanted trivial rfl rfl ?_
     refine St.unwanted trivial rfl rfl ?_
     refine su rfl rfl rfl ?_
     refine spt rfl rfl rfl ?_
     refine St.nil ?_
     obtain rfl := sI hm
     intro a w ha hs
     exact ⟨F125, l126, ha.covers ⟨rfl, rfl, trivial⟩, (Among.of (Among.take 0 rfl rfl Among.none) _ hs)⟩
    replace hm := iF hm q121
    refine sv (v := vT) (Yields.nisnt q121 (Yields.ne rfl rfl)) rfl ?_
    refine smv rfl rfl ?_
    refine su rfl rfl rfl ?_
    refine su rfl rfl rfl ?_
    refine su rfl rfl rfl ?_
    refine su rfl rfl rfl ?_
    refine spt rfl rfl rfl ?_
    refine smv rfl rfl ?_
    refine su rfl rfl rfl ?_
    refine su rfl rfl rfl ?_
    refine su rfl rfl rfl ?_
    refine su rfl rfl rfl ?_
    refine spt rfl rfl rfl ?_
    refine smv rfl rfl ?_
    refine su rfl rfl rfl ?_
    refine su rfl rfl rfl ?_
    refine su rfl rfl rfl ?_
    refine su rfl rfl rfl ?_
    refine St.unwanted trivial rfl rfl ?_
    refine St.unwanted trivial rfl rfl ?_
    refine St.unwanted trivial rfl rfl ?_
    refine su rfl rfl rfl ?_
    refine spt rfl rfl rfl ?_
    refine St.nil ?_
    obtain rfl := sI hm
    intro a w ha hs
    exact ⟨F, (PH.le_refl _), ha.covers ⟨rfl, rfl, trivial⟩, (Among.of (Among.take 0 rfl rfl Among.none) _ hs)⟩
   rintro a w ⟨F118, l119, ha, hs⟩
   replace hm := hk120
   refine St.use (?_ : St _ _ _ _ _ _) ha hs
   clear ha hs a w
   refine St.cond_b rfl ?_ ?_
   ·intro q131
    replace q131 : z117 = true := q131
    replace hm := iT hm q131
    refine ssr ?_
    refine sas rfl rfl ?_
    refine snn ?_
    refine St.ret ?_
    refine St.thenret ?_
    refine St.inret ?_
    refine St.thenret ?_
    obtain rfl := sI hm
    obtain rfl := aR ho12
    exact St.doneR1 rfl rfl ⟨rfl, rfl⟩ (fun w hs => Among.of Among.none w hs)
   intro q132
   replace q132 : ¬ (z117 = true) := bf q132
   replace hm := iF hm q132
   refine skn ?_
   refine ssr ?_
   refine sfa (v := (.pointer (some ⟨b3, 3, none⟩))) rfl (fun _ => by kernel_rfl) rfl ?_
   refine sv (v := (.int .i64 a0.N)) (Yields.load rfl (Loads.H1 0 rfl tc3 rfl)) rfl ?_
   refine snn ?_
   refine St.block ?_
   refine ssr ?_
   refine sv (v := (.bool (decide (a0.N = 1)))) (Yields.eq rfl rfl) rfl ?_
   refine sas rfl rfl ?_
   refine snn ?_
   refine St.cond_b rfl ?_ ?_
   ·intro q133
    replace q133 : a0.N = 1 := of_decide_eq_true q133
    replace hm := iT hm q133
    refine ssr ?_
    refine sfa (v := (.pointer (some ⟨b3, 4, none⟩))) rfl (fun _ => by kernel_rfl) rfl ?_
    refine sv (v := (.string (bs a0.Name))) (Yields.load rfl (Loads.H1 0 rfl tc9 rfl)) rfl ?_
    obtain ⟨q134, e135, hm⟩ := bS hm
    refine St.call [blk b3 (.cells #[.int .i64 a0.Op, .int .i64 a0.A, .int .i64 a0.B, .int .i64 a0.N, .string (bs a0.Name), .slice pA0_0 a0.Args.length pc0_0, .slice pA0_1 a0.Cases.length pc0_1] 40 (0, 0))] (m_ref08_IsGreat_sp e135) rfl (fun _ ha => ev1 ha rfl) rfl en65 rfl rfl trivial ?_
    rintro _ F136 _ ⟨rfl, rfl⟩ l137
    refine sas rfl rfl ?_
    refine snn ?_
    refine St.ret ?_
    refine St.inret ?_
    refine St.inret ?_
    refine St.thenret ?_
    obtain rfl := sI hm
    obtain rfl := aR ho12
    exact St.doneR1 rfl rfl ⟨rfl, rfl⟩ (fun w hs => Among.of Among.none w hs)
   intro q138
   replace q138 : ¬ (a0.N = 1) := of_decide_eq_false q138
   replace hm := iF hm q138
   refine ssr ?_
   refine sv (v := (.bool (decide (a0.N = 3)))) (Yields.eq rfl rfl) rfl ?_
   refine sas rfl rfl ?_
   refine snn ?_
   refine St.cond_b rfl ?_ ?_
   ·intro q139
    replace q139 : a0.N = 3 := of_decide_eq_true q139
    replace hm := iT hm q139
    refine ssr ?_
    refine sfa (v := (.pointer (some ⟨b3, 4, none⟩))) rfl (fun _ => by kernel_rfl) rfl ?_
    refine sv (v := (.string (bs a0.Name))) (Yields.load rfl (Loads.H1 0 rfl tc9 rfl)) rfl ?_
    obtain ⟨q140, e141, hm⟩ := bS hm
    refine St.call [blk b3 (.cells #[.int .i64 a0.Op, .int .i64 a0.A, .int .i64 a0.B, .int .i64 a0.N, .string (bs a0.Name), .slice pA0_0 a0.Args.length pc0_0, .slice pA0_1 a0.Cases.length pc0_1] 40 (0, 0))] (m_ref08_IsCore_sp e141) rfl (fun _ ha => ev1 ha rfl) rfl en37 rfl rfl trivial ?_
    rintro _ F142 _ ⟨rfl, rfl⟩ l143
    refine sas rfl rfl ?_
    refine snn ?_
    refine St.ret ?_
    refine St.inret ?_
    refine St.inret ?_
    refine St.thenret ?_
    obtain rfl := sI hm
    obtain rfl := aR ho12
    exact St.doneR1 rfl rfl ⟨rfl, rfl⟩ (fun w hs => Among.of Among.none w hs)
   intro q144
   replace q144 : ¬ (a0.N = 3) := of_decide_eq_false q144
   replace hm := iF hm q144
   refine ssr ?_
   refine sv (v := (.bool (decide (a0.N = 2)))) (Yields.eq rfl rfl) rfl ?_
   refine sas rfl rfl ?_
   refine snn ?_
   refine St.cond_b rfl ?_ ?_
   ·intro q145
    replace q145 : a0.N = 2 := of_decide_eq_true q145
    replace hm := iT hm q145
    obtain ⟨z146, hm, hk149⟩ := bS hm
    refine St.cutI (fun a w => ∃ (F147 : PH), PH.le F118 F147 ∧ Has Tryz.f39.ntmps a [(2, .bool z146)] ∧ Sat ⟨w0, fun b => m0 b ≠ none, F⟩ F147 [] w) ?_ ?_
    ·skip
     refine St.region ?_
     refine sfa (v := (.pointer (some ⟨b3, 4, none⟩))) rfl (fun _ => by kernel_rfl) rfl ?_
     refine sv (v := (.string (bs a0.Name))) (Yields.load rfl (Loads.H1 0 rfl tc9 rfl)) rfl ?_
     by_cases q150 : a0.Name = ([] : List UInt8)
     ·replace hm := iT hm q150
      refine sv (v := vT) (Yields.is q150 (Yields.eqStr rfl rfl)) rfl ?_
      refine smv rfl rfl ?_
      refine St.val (v := (.pointer (some ⟨b3, 5, none⟩))) (Yields.fieldAddr (v := (.pointer (some ⟨b3, 5, none⟩))) rfl (fun _ => by kernel_rfl)) rfl rfl rfl ?_
      refine St.val (v := (.slice pA0_0 a0.Args.length pc0_0)) (Yields.load rfl (Loads.H1 0 rfl tc37 rfl)) rfl rfl rfl ?_
      refine St.val (v := (.int .i64 ((a0.Args.length : Nat) : Int))) (Yields.lenSlice tu37 rfl) rfl rfl rfl ?_
      by_cases q151 : ((a0.Args.length : Nat) : Int) = 0
      ·replace hm := iT hm q151
       refine St.val (v := vT) (Yields.is q151 (Yields.eq rfl rfl)) rfl rfl rfl ?_
       refine spt rfl rfl rfl ?_
       refine smv rfl rfl ?_
       refine St.val (v := (.pointer (some ⟨b3, 1, none⟩))) (Yields.fieldAddr (v := (.pointer (some ⟨b3, 1, none⟩))) rfl (fun _ => by kernel_rfl)) rfl rfl rfl ?_
       refine St.val (v := (.int .i64 a0.A)) (Yields.load rfl (Loads.H1 0 rfl tc3 rfl)) rfl rfl rfl ?_
       obtain ⟨q152, e153, hm⟩ := bS hm
       refine St.call [blk b3 (.cells #[.int .i64 a0.Op, .int .i64 a0.A, .int .i64 a0.B, .int .i64 a0.N, .string (bs a0.Name), .slice pA0_0 a0.Args.length pc0_0, .slice pA0_1 a0.Cases.length pc0_1] 40 (0, 0))] (m_ref14_isInt_sp e153) rfl (fun _ ha => ev1 ha rfl) rfl en64 rfl rfl rfl ?_
       rintro _ F154 _ ⟨rfl, rfl⟩ l155
       refine spt rfl rfl rfl ?_
       refine sas rfl rfl ?_
       refine St.nil ?_
       obtain rfl := sI hm
       intro a w ha hs
       exact ⟨F154, l155, ha.covers ⟨rfl, trivial⟩, (Among.of Among.none _ hs)⟩
      replace hm := iF hm q151
      refine St.val (v := vF) (Yields.isnt q151 (Yields.eq rfl rfl)) rfl rfl rfl ?_
      refine spt rfl rfl rfl ?_
      refine smv rfl rfl ?_
      refine su rfl rfl rfl ?_
      refine su rfl rfl rfl ?_
      refine su rfl rfl rfl ?_
      refine spf rfl rfl rfl ?_
      refine sas rfl rfl ?_
      refine St.nil ?_
      obtain rfl := sI hm
      intro a w ha hs
      exact ⟨F118, (PH.le_refl _), ha.covers ⟨rfl, trivial⟩, (Among.of Among.none _ hs)⟩
     replace hm := iF hm q150
     refine sv (v := vF) (Yields.isnt q150 (Yields.eqStr rfl rfl)) rfl ?_
     refine smv rfl rfl ?_
     refine su rfl rfl rfl ?_
     refine su rfl rfl rfl ?_
     refine su rfl rfl rfl ?_
     refine su rfl rfl rfl ?_
     refine spf rfl rfl rfl ?_
     refine smv rfl rfl ?_
     refine su rfl rfl rfl ?_
     refine su rfl rfl rfl ?_
     refine su rfl rfl rfl ?_
     refine spf rfl rfl rfl ?_
     refine sas rfl rfl ?_
     refine St.nil ?_
     obtain rfl := sI hm
     intro a w ha hs
     exact ⟨F118, (PH.le_refl _), ha.covers ⟨rfl, trivial⟩, (Among.of Among.none _ hs)⟩
    rintro a w ⟨F147, l148, ha, hs⟩
    replace hm := hk149
    refine St.use (?_ : St _ _ _ _ _ _) ha hs
    clear ha hs a w
    refine St.ret ?_
    refine St.inret ?_
    refine St.inret ?_
    refine St.thenret ?_
    obtain rfl := sI hm
    obtain rfl := aR ho12
    exact St.doneR1 rfl rfl ⟨rfl, rfl⟩ (fun w hs => Among.of Among.none w hs)
   intro q156
   replace q156 : ¬ (a0.N = 2) := of_decide_eq_false q156
   replace hm := iF hm q156
   obtain ⟨z157, hm, hk158⟩ := bS hm
   refine St.cutI (fun a w => Has Tryz.f39.ntmps a [(1, .pointer (some ⟨b3, 0, none⟩)), (145, .int .i64 a0.N), (172, .bool z157)] ∧ Sat ⟨w0, fun b => m0 b ≠ none, F⟩ F118 [blk b3 (.cells #[.int .i64 a0.Op, .int .i64 a0.A, .int .i64 a0.B, .int .i64 a0.N, .string (bs a0.Name), .slice pA0_0 a0.Args.length pc0_0, .slice pA0_1 a0.Cases.length pc0_1] 40 (0, 0))] w) ?_ ?_
   ·skip
    refine ssr ?_
    refine sv (v := (.bool (decide (a0.N = 4)))) (Yields.eq rfl rfl) rfl ?_
    refine sas rfl rfl ?_
    refine snn ?_
    refine St.cond_b rfl ?_ ?_
    ·intro q159
     replace q159 : a0.N = 4 := of_decide_eq_true q159
     replace hm := iT hm q159
     refine St.skip ?_
     obtain rfl := sI hm
     intro a w ha hs
     exact ⟨ha.covers ⟨rfl, rfl, rfl, trivial⟩, (Among.of (Among.take 0 rfl rfl Among.none) _ hs)⟩
    intro q160
    replace q160 : ¬ (a0.N = 4) := of_decide_eq_false q160
    replace hm := iF hm q160
    refine St.region ?_
    refine sv (v := (.bool (decide (a0.N = 5)))) (Yields.eq rfl rfl) rfl ?_
    refine sas rfl rfl ?_
    refine St.nil ?_
    obtain rfl := sI hm
    intro a w ha hs
    exact ⟨ha.covers ⟨rfl, rfl, rfl, trivial⟩, (Among.of (Among.take 0 rfl rfl Among.none) _ hs)⟩
   rintro a w ⟨ha, hs⟩
   replace hm := hk158
   refine St.use (?_ : St _ _ _ _ _ _) ha hs
   clear ha hs a w
   refine St.cond_b rfl ?_ ?_
   ·intro q161
    replace q161 : z157 = true := q161
    replace hm := iT hm q161
    refine ssr ?_
    refine sfa (v := (.pointer (some ⟨b3, 4, none⟩))) rfl (fun _ => by kernel_rfl) rfl ?_
    refine sv (v := (.string (bs a0.Name))) (Yields.load rfl (Loads.H1 0 rfl tc9 rfl)) rfl ?_
    refine sv (v := (.bool (decide (a0.Name = ([] : List UInt8))))) (Yields.eqStr rfl rfl) rfl ?_
    refine sas rfl rfl ?_
    refine snn ?_
    refine St.ret ?_
    refine St.inret ?_
    refine St.inret ?_
    refine St.thenret ?_
    obtain rfl := sI hm
    obtain rfl := aR ho12
    exact St.doneR1 rfl rfl ⟨rfl, rfl⟩ (fun w hs => Among.of Among.none w hs)
   intro q162
   replace q162 : ¬ (z157 = true) := bf q162
   replace hm := iF hm q162
   refine ssr ?_
   refine sv (v := (.bool (decide (a0.N = 7)))) (Yields.eq rfl rfl) rfl ?_
   refine sas rfl rfl ?_
   refine snn ?_
   refine St.cond_b rfl ?_ ?_
   ·intro q163
    replace q163 : a0.N = 7 := of_decide_eq_true q163
    replace hm := iT hm q163
    obtain ⟨z164, hm, hk165⟩ := bS hm
    refine St.cutI (fun a w => Has Tryz.f39.ntmps a [(2, .bool z164)] ∧ Sat ⟨w0, fun b => m0 b ≠ none, F⟩ F118 [] w) ?_ ?_
    ·skip
     refine St.region ?_
     refine sfa (v := (.pointer (some ⟨b3, 4, none⟩))) rfl (fun _ => by kernel_rfl) rfl ?_
     refine sv (v := (.string (bs a0.Name))) (Yields.load rfl (Loads.H1 0 rfl tc9 rfl)) rfl ?_
     by_cases q166 : a0.Name = ([] : List UInt8)
     ·replace hm := iT hm q166
      refine sv (v := vT) (Yields.is q166 (Yields.eqStr rfl rfl)) rfl ?_
      refine smv rfl rfl ?_
      refine St.val (v := (.pointer (some ⟨b3, 5, none⟩))) (Yields.fieldAddr (v := (.pointer (some ⟨b3, 5, none⟩))) rfl (fun _ => by kernel_rfl)) rfl rfl rfl ?_
      refine St.val (v := (.slice pA0_0 a0.Args.length pc0_0)) (Yields.load rfl (Loads.H1 0 rfl tc37 rfl)) rfl rfl rfl ?_
      refine St.val (v := (.int .i64 ((a0.Args.length : Nat) : Int))) (Yields.lenSlice tu37 rfl) rfl rfl rfl ?_
      refine St.val (v := (.bool (decide (((a0.Args.length : Nat) : Int) = 0)))) (Yields.eq rfl rfl) rfl rfl rfl ?_
      refine spt rfl rfl rfl ?_
      refine sas rfl rfl ?_
      refine St.nil ?_
      obtain rfl := sI hm
      intro a w ha hs
      exact ⟨ha.covers ⟨rfl, trivial⟩, (Among.of Among.none _ hs)⟩
     replace hm := iF hm q166
     refine sv (v := vF) (Yields.isnt q166 (Yields.eqStr rfl rfl)) rfl ?_
     refine smv rfl rfl ?_
     refine su rfl rfl rfl ?_
     refine su rfl rfl rfl ?_
     refine su rfl rfl rfl ?_
     refine su rfl rfl rfl ?_
     refine spf rfl rfl rfl ?_
     refine sas rfl rfl ?_
     refine St.nil ?_
     obtain rfl := sI hm
     intro a w ha hs
     exact ⟨ha.covers ⟨rfl, trivial⟩, (Among.of Among.none _ hs)⟩
    rintro a w ⟨ha, hs⟩
    replace hm := hk165
    refine St.use (?_ : St _ _ _ _ _ _) ha hs
    clear ha hs a w
    refine St.ret ?_
    refine St.inret ?_
    refine St.inret ?_
    refine St.thenret ?_
    obtain rfl := sI hm
    obtain rfl := aR ho12
    exact St.doneR1 rfl rfl ⟨rfl, rfl⟩ (fun w hs => Among.of Among.none w hs)
   intro q167
   replace q167 : ¬ (a0.N = 7) := of_decide_eq_false q167
   replace hm := iF hm q167
   refine St.skip ?_
   refine St.innorm ?_
   refine St.innorm ?_
   obtain rfl := sI hm
   intro a w ha hs
   exact ⟨(), rfl, F118, l119, ha.covers trivial, (Among.of Among.none _ hs)⟩
  intro q168
  replace q168 : ¬ (a0.Op = 2) := of_decide_eq_false q168
  replace hm := iF hm q168
  refine St.skip ?_
  refine St.innorm ?_
  obtain rfl := sI hm
  intro a w ha hs
  exact ⟨(), rfl, F, (PH.le_refl _), ha.covers trivial, (Among.of Among.none _ hs)⟩
 rintro a w ⟨z8, rfl, F9, l10, ha, hs⟩
 replace hm := aL ho12
 refine St.use (?_ : St _ _ _ _ _ _) ha hs
 clear ha hs a w
 refine ssr ?_
 refine sas rfl rfl ?_
 refine snn ?_
 refine St.ret ?_
 obtain rfl := sI hm
 exact St.doneR1 rfl rfl ⟨rfl, rfl⟩ (fun w hs => Among.of Among.none w hs)
theorem m_ref14_isTold_sp {F : PH} {g : Nat} {a0 : List DCode} {pA0 : Option Addr} {pc0 : Nat} (ph0 : Fsl 48 KDCode F pA0 pc0 a0) {r : Bool} (hm : m_ref14_isTold g a0 = some r) :
  CallSp Tryz.prog 19 #[.slice pA0 a0.length pc0] F [] (fun u F' H' => u = (.bool r) ∧ H' = []) := by

 unfold m_ref14_isTold at hm
 refine CallSp.enter (args := [.slice pA0 a0.length pc0]) Tryz.func19 rfl rfl ?_
 intro w0 m0 hm0
 refine ssr ?_
 refine sas rfl rfl ?_
 refine snn ?_
 obtain ⟨o5, hm, ho6⟩ := jS hm
 refine St.cutI (fun a w => ∃ z2 : Unit, o5 = .inl z2 ∧ ∃ (F3 : PH), PH.le F F3 ∧ Has Tryz.f19.ntmps a [] ∧ Sat ⟨w0, fun b => m0 b ≠ none, F⟩ F3 [] w) ?_ ?_
 ·skip
  refine ssr ?_
  refine sas rfl rfl ?_
  refine snn ?_
  refine St.block ?_
  refine St.loopM hm (fun s9 a w => ∃ (F13 : PH), PH.le F F13 ∧ Has Tryz.f19.ntmps a [(0, .slice pA0 a0.length pc0), (3, .int .i64 ((s9 : Nat) : Int))] ∧ Sat ⟨w0, fun b => m0 b ≠ none, F⟩ F13 [] w) ?_ ?_
  ·skip
   intro a w ha hs
   exact ⟨F, (PH.le_refl _), ha.covers ⟨rfl, rfl, trivial⟩, (Among.of Among.none _ hs)⟩
  rintro s9 o10 co11 hm ho12 a w ⟨F13, l14, ha, hs⟩
  refine St.use (?_ : St _ _ _ _ _ _) ha hs
  clear ha hs a w
  refine St.seq ?_
  refine ssr ?_
  refine smv rfl rfl ?_
  refine smv rfl rfl ?_
  refine sv (v := (.int .i64 ((a0.length : Nat) : Int))) (Yields.lenSlice tu22 rfl) rfl ?_
  refine sv (v := (.bool (decide (((s9 : Nat) : Int) < ((a0.length : Nat) : Int))))) (Yields.lt rfl rfl) rfl ?_
  refine snn ?_
  refine St.cond_b rfl ?_ ?_
  ·intro q15
   replace q15 : ((s9 : Nat) : Int) < ((a0.length : Nat) : Int) := of_decide_eq_true q15
   replace hm := iT hm q15
   refine skn ?_
   obtain ⟨o19, hm, ho20⟩ := jS hm
   refine St.cutI (fun a w => ∃ z16 : Unit, o19 = .inl z16 ∧ ∃ (F17 : PH), PH.le F13 F17 ∧ Has Tryz.f19.ntmps a [(0, .slice pA0 a0.length pc0), (3, .int .i64 ((s9 : Nat) : Int))] ∧ Sat ⟨w0, fun b => m0 b ≠ none, F⟩ F17 [] w) ?_ ?_
   ·skip
    refine St.block ?_
    refine St.seq ?_
    obtain ⟨z21, hm, hk24⟩ := bS hm
    refine St.cutI (fun a w => ∃ (F22 : PH), PH.le F13 F22 ∧ Has Tryz.f19.ntmps a [(0, .slice pA0 a0.length pc0), (3, .int .i64 ((s9 : Nat) : Int)), (26, .bool z21)] ∧ Sat ⟨w0, fun b => m0 b ≠ none, F⟩ F22 [] w) ?_ ?_
    ·skip
     refine St.region ?_
     refine smv rfl rfl ?_
     refine smv rfl rfl ?_
     obtain ⟨x25, e26, hm⟩ := bS hm
     obtain ⟨p27, cs28, jx29, R30, k31⟩ := (Fsl.mono l14 ph0).nidx e26
     obtain ⟨A32, c33, rfl, h34⟩ := DCode.opn R30
     refine sv (v := (.pointer (some p27))) (Yields.idx jx29 ts22 rfl rfl) rfl ?_
     refine sfa (v := (.pointer (some p27))) rfl (fun _ => by kernel_rfl) rfl ?_
     refine sv (v := (.string (bs x25.Name))) (Yields.load rfl (Loads.Fat k31 tc9 rfl)) rfl ?_
     obtain ⟨q36, e37, hm⟩ := bS hm
     refine St.call [] (m_ref08_IsCore_sp e37) rfl (fun _ ha => ev1 ha rfl) rfl en37 rfl rfl trivial ?_
     rintro _ F38 _ ⟨rfl, rfl⟩ l39
     by_cases q40 : q36 = true
     ·replace hm := iT hm q40
      have hb41 : (q36) = true := q40
      try rw [hb41]
      refine sv (v := vF) (Yields.not_t rfl) rfl ?_
      refine smv rfl rfl ?_
      refine St.val (v := (.slice pA0 a0.length pc0)) (Yields.move rfl) rfl rfl rfl ?_
      refine St.val (v := (.int .i64 ((s9 : Nat) : Int))) (Yields.move rfl) rfl rfl rfl ?_
      obtain ⟨x42, e43, hm⟩ := bS hm
      obtain ⟨p44, cs45, jx46, R47, k48⟩ := (Fsl.mono (PH.le_trans l14 l39) ph0).nidx e43
      obtain ⟨A49, c50, rfl, h51⟩ := DCode.opn R47
      refine St.val (v := (.pointer (some p44))) (Yields.idx jx46 ts22 rfl rfl) rfl rfl rfl ?_
      refine St.val (v := (.pointer (some (p44.add 1)))) (Yields.fieldAddr (v := (.pointer (some (p44.add 1)))) rfl (fun _ => by kernel_rfl)) rfl rfl rfl ?_
      refine St.val (v := (.int .i64 x42.Arity)) (Yields.load rfl (Loads.Fatk 1 k48 tc3 rfl)) rfl rfl rfl ?_
      obtain ⟨q53, e54, hm⟩ := bS hm
      refine St.call [] (m_ref14_isNumber_sp e54) rfl (fun _ ha => ev1 ha rfl) rfl en38 rfl rfl rfl ?_
      rintro _ F55 _ ⟨rfl, rfl⟩ l56
      refine St.val (v := (.bool (!q53))) (Yields.not rfl) rfl rfl rfl ?_
      refine spf rfl rfl rfl ?_
      refine St.nil ?_
      obtain rfl := sI hm
      intro a w ha hs
      exact ⟨F55, (PH.le_trans l39 l56), ha.covers ⟨rfl, rfl, rfl, trivial⟩, (Among.of Among.none _ hs)⟩
     replace hm := iF hm q40
     have hb57 : (q36) = false := eq_false_of_ne_true q40
     try rw [hb57]
     refine sv (v := vT) (Yields.not_f rfl) rfl ?_
     refine smv rfl rfl ?_
     refine su rfl rfl rfl ?_
     refine su rfl rfl rfl ?_
     refine su rfl rfl rfl ?_
     refine su rfl rfl rfl ?_
     refine su rfl rfl rfl ?_
     refine su rfl rfl rfl ?_
     refine su rfl rfl rfl ?_
     refine spt rfl rfl rfl ?_
     refine St.nil ?_
     obtain rfl := sI hm
     intro a w ha hs
     exact ⟨F38, l39, ha.covers ⟨rfl, rfl, rfl, trivial⟩, (Among.of Among.none _ hs)⟩
    rintro a w ⟨F22, l23, ha, hs⟩
    replace hm := hk24
    refine St.use (?_ : St _ _ _ _ _ _) ha hs
    clear ha hs a w
    refine St.cond_b rfl ?_ ?_
    ·intro q58
     replace q58 : z21 = true := q58
     replace hm := iT hm q58
     refine ssr ?_
     refine sas rfl rfl ?_
     refine snn ?_
     refine St.ret ?_
     refine St.thenret ?_
     refine St.inret ?_
     refine St.thenret ?_
     refine St.thenret ?_
     refine St.inret ?_
     refine St.thenret ?_
     obtain rfl := sI hm
     obtain rfl := aR ho20
     obtain rfl := aR ho12
     obtain rfl := aR ho6
     exact St.doneR1 rfl rfl ⟨rfl, rfl⟩ (fun w hs => Among.of Among.none w hs)
    intro q59
    replace q59 : ¬ (z21 = true) := bf q59
    replace hm := iF hm q59
    refine skn ?_
    refine ssr ?_
    refine sas rfl rfl ?_
    refine snn ?_
    refine St.block ?_
    refine St.loopM hm (fun s62 a w => ∃ (F66 : PH), PH.le F22 F66 ∧ Has Tryz.f19.ntmps a [(0, .slice pA0 a0.length pc0), (3, .int .i64 ((s9 : Nat) : Int)), (4, .int .i64 ((s62 : Nat) : Int))] ∧ Sat ⟨w0, fun b => m0 b ≠ none, F⟩ F66 [] w) ?_ ?_
    ·skip
     intro a w ha hs
     exact ⟨F22, (PH.le_refl _), ha.covers ⟨rfl, rfl, rfl, trivial⟩, (Among.of Among.none _ hs)⟩
    rintro s62 o63 co64 hm ho65 a w ⟨F66, l67, ha, hs⟩
    refine St.use (?_ : St _ _ _ _ _ _) ha hs
    clear ha hs a w
    refine St.seq ?_
    refine ssr ?_
    refine smv rfl rfl ?_
    refine smv rfl rfl ?_
    refine smv rfl rfl ?_
    obtain ⟨x68, e69, hm⟩ := bS hm
    obtain ⟨p70, cs71, jx72, R73, k74⟩ := (Fsl.mono (PH.le_trans l14 (PH.le_trans l23 l67)) ph0).nidx e69
    obtain ⟨A75, c76, rfl, h77⟩ := DCode.opn R73
    refine sv (v := (.pointer (some p70))) (Yields.idx jx72 ts22 rfl rfl) rfl ?_
    refine sfa (v := (.pointer (some (p70.add 2)))) rfl (fun _ => by kernel_rfl) rfl ?_
    refine sv (v := (.slice A75 x68.L.length c76)) (Yields.load rfl (Loads.Fatk 2 k74 tc34 rfl)) rfl ?_
    refine sv (v := (.int .i64 ((x68.L.length : Nat) : Int))) (Yields.lenSlice tu34 rfl) rfl ?_
    refine sv (v := (.bool (decide (((s62 : Nat) : Int) < ((x68.L.length : Nat) : Int))))) (Yields.lt rfl rfl) rfl ?_
    refine snn ?_
    refine St.cond_b rfl ?_ ?_
    ·intro q79
     replace q79 : ((s62 : Nat) : Int) < ((x68.L.length : Nat) : Int) := of_decide_eq_true q79
     replace hm := iT hm q79
     refine skn ?_
     refine St.seq ?_
     refine St.block ?_
     refine ssr ?_
     refine smv rfl rfl ?_
     refine smv rfl rfl ?_
     obtain ⟨x80, e81, hm⟩ := bS hm
     obtain ⟨p82, cs83, jx84, R85, k86⟩ := (Fsl.mono (PH.le_trans l14 (PH.le_trans l23 l67)) ph0).nidx e81
     obtain ⟨A87, c88, rfl, h89⟩ := DCode.opn R85
     refine sv (v := (.pointer (some p82))) (Yields.idx jx84 ts22 rfl rfl) rfl ?_
     refine sfa (v := (.pointer (some (p82.add 2)))) rfl (fun _ => by kernel_rfl) rfl ?_
     refine sv (v := (.slice A87 x80.L.length c88)) (Yields.load rfl (Loads.Fatk 2 k86 tc34 rfl)) rfl ?_
     refine smv rfl rfl ?_
     obtain ⟨x91, e92, hm⟩ := bS hm
     obtain ⟨p93, cs94, jx95, R96, k97⟩ := h89.nidx e92
     obtain ⟨A98, c99, A101, c102, rfl, h100, h103⟩ := DInstr.opn R96
     refine sv (v := (.pointer (some p93))) (Yields.idx jx95 ts34 rfl rfl) rfl ?_
     refine sv (v := (.agg #[.int .i64 x91.Op, .int .i64 x91.A, .int .i64 x91.B, .int .i64 x91.N, .string (bs x91.Name), .slice A98 x91.Args.length c99, .slice A101 x91.Cases.length c102])) (Yields.load rfl (Loads.Fatn0 k97 ta40)) rfl ?_
     obtain ⟨q106, e107, hm⟩ := bS hm
     refine St.call [] (m_ref14_isWritten_sp (a0 := x91) h100 h103 e107) rfl (fun _ ha => ev1 ha rfl) rfl en39 rfl rfl trivial ?_
     rintro _ F108 _ ⟨rfl, rfl⟩ l109
     refine sv (v := (.bool (!q106))) (Yields.not rfl) rfl ?_
     refine snn ?_
     refine St.cond_b rfl ?_ ?_
     ·intro q110
      replace q110 : ¬ (q106 = true) := nb_t q110
      replace hm := iF hm q110
      refine ssr ?_
      refine sas rfl rfl ?_
      refine snn ?_
      refine St.ret ?_
      refine St.inret ?_
      refine St.thenret ?_
      refine St.thenret ?_
      refine St.inret ?_
      refine St.inret ?_
      refine St.thenret ?_
      refine St.thenret ?_
      refine St.inret ?_
      refine St.thenret ?_
      obtain rfl := sI hm
      obtain rfl := aR ho65
      obtain rfl := aR ho20
      obtain rfl := aR ho12
      obtain rfl := aR ho6
      exact St.doneR1 rfl rfl ⟨rfl, rfl⟩ (fun w hs => Among.of Among.none w hs)
     intro q111
     replace q111 : q106 = true := nb_f q111
     replace hm := iT hm q111
     refine St.skip ?_
     refine St.innorm ?_
     refine St.norm ?_
     refine St.region ?_
     refine smv rfl rfl ?_
     refine sv (v := (.int .i64 ((s62 + 1 : Nat) : Int))) (Yields.addn (j := 1) rfl rfl rfl (by have q_0 := q79; have q_1 := h77.bnd.2; omega)) rfl ?_
     refine sas rfl rfl ?_
     refine snn ?_
     obtain rfl := sI hm
     intro a w ha hs
     exact ⟨s62 + 1, aL ho65, F108, (PH.le_trans l67 l109), ha.covers ⟨rfl, rfl, rfl, trivial⟩, (Among.of Among.none _ hs)⟩
    intro q112
    replace q112 : ¬ (((s62 : Nat) : Int) < ((x68.L.length : Nat) : Int)) := of_decide_eq_false q112
    replace hm := iF hm q112
    refine St.exit ?_
    refine St.thenexit ?_
    refine St.thenexit ?_
    refine St.inexit ?_
    refine St.innorm ?_
    obtain rfl := sI hm
    obtain rfl := aR ho65
    intro a w ha hs
    exact ⟨(), rfl, F66, (PH.le_trans l23 l67), ha.covers ⟨rfl, rfl, trivial⟩, (Among.of Among.none _ hs)⟩
   rintro a w ⟨z16, rfl, F17, l18, ha, hs⟩
   replace hm := aL ho20
   refine St.use (?_ : St _ _ _ _ _ _) ha hs
   clear ha hs a w
   refine St.region ?_
   refine smv rfl rfl ?_
   refine sv (v := (.int .i64 ((s9 + 1 : Nat) : Int))) (Yields.addn (j := 1) rfl rfl rfl (by have q_0 := q15; have q_1 := ph0.bnd.2; omega)) rfl ?_
   refine sas rfl rfl ?_
   refine snn ?_
   obtain rfl := sI hm
   intro a w ha hs
   exact ⟨s9 + 1, aL ho12, F17, (PH.le_trans l14 l18), ha.covers ⟨rfl, rfl, trivial⟩, (Among.of Among.none _ hs)⟩
  intro q113
  replace q113 : ¬ (((s9 : Nat) : Int) < ((a0.length : Nat) : Int)) := of_decide_eq_false q113
  replace hm := iF hm q113
  refine St.exit ?_
  refine St.thenexit ?_
  refine St.thenexit ?_
  refine St.inexit ?_
  obtain rfl := sI hm
  obtain rfl := aR ho12
  intro a w ha hs
  exact ⟨(), rfl, F13, l14, ha.covers trivial, (Among.of Among.none _ hs)⟩
 rintro a w ⟨z2, rfl, F3, l4, ha, hs⟩
 replace hm := aL ho6
 refine St.use (?_ : St _ _ _ _ _ _) ha hs
 clear ha hs a w
 refine ssr ?_
 refine sas rfl rfl ?_
 refine snn ?_
 refine St.ret ?_
 obtain rfl := sI hm
 exact St.doneR1 rfl rfl ⟨rfl, rfl⟩ (fun w hs => Among.of Among.none w hs)
end Go.Proofs.YtefclodjekeeiaaGreatDoor
