/- Each function does what its plain words tell. -/
import Derived.Test.YtefclodjekeeiaaGreatDoorKi
import Derived.Test.YtefclodjekeeiaaGreatDoorExt
namespace Go.Proofs.YtefclodjekeeiaaGreatDoor
open Go Go.Sy Go.RowKit
set_option linter.unusedVariables false
open Go.Mir
theorem m_stringslite_HasSuffix_sp {F : PH} {g : Nat} {a0 : List UInt8} {a1 : List UInt8} {r : Bool} (hm : m_stringslite_HasSuffix g a0 a1 = some r) :
  CallSp Tryz.prog 49 #[.string (bs a0), .string (bs a1)] F [] (fun u F' H' => u = (.bool r) ∧ H' = []) := by

 unfold m_stringslite_HasSuffix at hm
 refine CallSp.enter (args := [.string (bs a0), .string (bs a1)]) Tryz.func49 rfl rfl ?_
 intro w0 m0 hm0
 refine ssr ?_
 refine sas rfl rfl ?_
 refine snn ?_
 obtain ⟨z1, hm, hk2⟩ := bS hm
 refine St.cutI (fun a w => Has Tryz.f49.ntmps a [(4, .bool z1)] ∧ Sat ⟨w0, fun b => m0 b ≠ none, F⟩ F [] w) ?_ ?_
 ·skip
  refine St.region ?_
  refine smv rfl rfl ?_
  refine sv (v := (.int .i64 ((a0.length : Nat) : Int))) (Yields.lenStr tu9 rfl) rfl ?_
  refine smv rfl rfl ?_
  refine sv (v := (.int .i64 ((a1.length : Nat) : Int))) (Yields.lenStr tu9 rfl) rfl ?_
  by_cases q3 : ((a0.length : Nat) : Int) ≥ ((a1.length : Nat) : Int)
  ·replace hm := iT hm q3
   refine sv (v := vT) (Yields.is q3 (Yields.ge rfl rfl)) rfl ?_
   refine smv rfl rfl ?_
   refine St.val (v := (.string (bs a0))) (Yields.move rfl) rfl rfl rfl ?_
   refine St.val (v := (.string (bs a0))) (Yields.move rfl) rfl rfl rfl ?_
   refine St.val (v := (.int .i64 ((a0.length : Nat) : Int))) (Yields.lenStr tu9 rfl) rfl rfl rfl ?_
   refine St.val (v := (.string (bs a1))) (Yields.move rfl) rfl rfl rfl ?_
   refine St.val (v := (.int .i64 ((a1.length : Nat) : Int))) (Yields.lenStr tu9 rfl) rfl rfl rfl ?_
   obtain ⟨x4, e5, hm⟩ := bS hm
   obtain ⟨x6, e7, hm⟩ := bS hm
   refine St.val (v := (.int .i64 (((a0.length : Nat) : Int) - ((a1.length : Nat) : Int)))) (Yields.sub rfl rfl (by have q_0 := (Mir.small_le e5); have q_1 := (Mir.small_le e7); omega) (by have q_0 := (Mir.small_le e5); have q_1 := (Mir.small_le e7); omega)) rfl rfl rfl ?_
   obtain ⟨x8, e9, hm⟩ := bS hm
   refine St.val (v := (.string (bs x8))) (Yields.subSD e9 tu9 rfl rfl) rfl rfl rfl ?_
   refine St.val (v := (.string (bs a1))) (Yields.move rfl) rfl rfl rfl ?_
   refine St.val (v := (.bool (decide (x8 = a1)))) (Yields.eqStr rfl rfl) rfl rfl rfl ?_
   refine spt rfl rfl rfl ?_
   refine sas rfl rfl ?_
   refine St.nil ?_
   obtain rfl := sI hm
   intro a w ha hs
   exact ⟨ha.covers ⟨rfl, trivial⟩, (Among.of Among.none _ hs)⟩
  replace hm := iF hm q3
  refine sv (v := vF) (Yields.isnt q3 (Yields.ge rfl rfl)) rfl ?_
  refine smv rfl rfl ?_
  refine su rfl rfl rfl ?_
  refine su rfl rfl rfl ?_
  refine su rfl rfl rfl ?_
  refine su rfl rfl rfl ?_
  refine su rfl rfl rfl ?_
  refine su rfl rfl rfl ?_
  refine su rfl rfl rfl ?_
  refine su rfl rfl rfl ?_
  refine su rfl rfl rfl ?_
  refine spf rfl rfl rfl ?_
  refine sas rfl rfl ?_
  refine St.nil ?_
  obtain rfl := sI hm
  intro a w ha hs
  exact ⟨ha.covers ⟨rfl, trivial⟩, (Among.of Among.none _ hs)⟩
 rintro a w ⟨ha, hs⟩
 replace hm := hk2
 refine St.use (?_ : St _ _ _ _ _ _) ha hs
 clear ha hs a w
 refine St.ret ?_
 obtain rfl := sI hm
 exact St.doneR1 rfl rfl ⟨rfl, rfl⟩ (fun w hs => Among.of Among.none w hs)
theorem m_stringslite_TrimSuffix_sp {F : PH} {g : Nat} {a0 : List UInt8} {a1 : List UInt8} {r : List UInt8} (hm : m_stringslite_TrimSuffix g a0 a1 = some r) :
  CallSp Tryz.prog 23 #[.string (bs a0), .string (bs a1)] F [] (fun u F' H' => u = (.string (bs r)) ∧ H' = []) := by

 unfold m_stringslite_TrimSuffix at hm
 refine CallSp.enter (args := [.string (bs a0), .string (bs a1)]) Tryz.func23 rfl rfl ?_
 intro w0 m0 hm0
 refine ssr ?_
 refine sas rfl rfl ?_
 refine snn ?_
 refine St.seq ?_
 refine ssr ?_
 refine smv rfl rfl ?_
 refine smv rfl rfl ?_
 obtain ⟨q1, e2, hm⟩ := bS hm
 refine St.call [] (m_stringslite_HasSuffix_sp e2) rfl (fun _ ha => ev2 ha rfl rfl) rfl en49 rfl rfl trivial ?_
 rintro _ F3 _ ⟨rfl, rfl⟩ l4
 refine snn ?_
 refine St.cond_b rfl ?_ ?_
 ·intro q5
  replace q5 : q1 = true := q5
  replace hm := iT hm q5
  refine ssr ?_
  refine smv rfl rfl ?_
  refine smv rfl rfl ?_
  refine sv (v := (.int .i64 ((a0.length : Nat) : Int))) (Yields.lenStr tu9 rfl) rfl ?_
  refine smv rfl rfl ?_
  refine sv (v := (.int .i64 ((a1.length : Nat) : Int))) (Yields.lenStr tu9 rfl) rfl ?_
  obtain ⟨x6, e7, hm⟩ := bS hm
  obtain ⟨x8, e9, hm⟩ := bS hm
  refine sv (v := (.int .i64 (((a0.length : Nat) : Int) - ((a1.length : Nat) : Int)))) (Yields.sub rfl rfl (by have q_0 := (Mir.small_le e7); have q_1 := (Mir.small_le e9); omega) (by have q_0 := (Mir.small_le e7); have q_1 := (Mir.small_le e9); omega)) rfl ?_
  obtain ⟨x10, e11, hm⟩ := bS hm
  refine sv (v := (.string (bs x10))) (Yields.subST e11 tu9 rfl rfl) rfl ?_
  refine sas rfl rfl ?_
  refine snn ?_
  refine St.ret ?_
  refine St.thenret ?_
  obtain rfl := sI hm
  exact St.doneR1 rfl rfl ⟨rfl, rfl⟩ (fun w hs => Among.of Among.none w hs)
 intro q12
 replace q12 : ¬ (q1 = true) := bf q12
 replace hm := iF hm q12
 refine skn ?_
 refine ssr ?_
 refine smv rfl rfl ?_
 refine sas rfl rfl ?_
 refine snn ?_
 refine St.ret ?_
 obtain rfl := sI hm
 exact St.doneR1 rfl rfl ⟨rfl, rfl⟩ (fun w hs => Among.of Among.none w hs)
theorem m_strings_TrimSuffix_sp {F : PH} {g : Nat} {a0 : List UInt8} {a1 : List UInt8} {r : List UInt8} (hm : m_strings_TrimSuffix g a0 a1 = some r) :
  CallSp Tryz.prog 9 #[.string (bs a0), .string (bs a1)] F [] (fun u F' H' => u = (.string (bs r)) ∧ H' = []) := by

 unfold m_strings_TrimSuffix at hm
 refine CallSp.enter (args := [.string (bs a0), .string (bs a1)]) Tryz.func9 rfl rfl ?_
 intro w0 m0 hm0
 refine ssr ?_
 refine sas rfl rfl ?_
 refine snn ?_
 refine ssr ?_
 refine smv rfl rfl ?_
 refine smv rfl rfl ?_
 obtain ⟨q1, e2, hm⟩ := bS hm
 refine St.call [] (m_stringslite_TrimSuffix_sp e2) rfl (fun _ ha => ev2 ha rfl rfl) rfl en23 rfl rfl trivial ?_
 rintro _ F3 _ ⟨rfl, rfl⟩ l4
 refine sas rfl rfl ?_
 refine snn ?_
 refine St.ret ?_
 obtain rfl := sI hm
 exact St.doneR1 rfl rfl ⟨rfl, rfl⟩ (fun w hs => Among.of Among.none w hs)
theorem m_strings_genSplit_sp {F : PH} {g : Nat} {a0 : List UInt8} {a1 : List UInt8} {a2 : Int} {a3 : Int} {r : List (List UInt8)} (hm : m_strings_genSplit g a0 a1 a2 a3 = some r) :
  CallSp Tryz.prog 22 #[.string (bs a0), .string (bs a1), .int .i64 a2, .int .i64 a3] F [] (fun u F' H' => ∃ (B0 : Option Addr) (d0 : Nat), u = (.slice B0 r.length d0) ∧ Fsl 16 Kind.str F' B0 d0 r ∧ H' = []) := by

 unfold m_strings_genSplit at hm
 refine CallSp.enter (args := [.string (bs a0), .string (bs a1), .int .i64 a2, .int .i64 a3]) Tryz.func22 rfl rfl ?_
 intro w0 m0 hm0
 refine ssr ?_
 refine sas rfl rfl ?_
 refine snn ?_
 refine St.seq ?_
 refine ssr ?_
 refine smv rfl rfl ?_
 refine sv (v := (.bool (decide (a3 = 0)))) (Yields.eq rfl rfl) rfl ?_
 refine snn ?_
 refine St.cond_b rfl ?_ ?_
 ·intro q1
  replace q1 : a3 = 0 := of_decide_eq_true q1
  replace hm := iT hm q1
  refine ssr ?_
  refine sas rfl rfl ?_
  refine snn ?_
  refine St.ret ?_
  refine St.thenret ?_
  obtain rfl := sI hm
  exact St.doneR1 rfl rfl ⟨none, 0, rfl, Fsl.nil, rfl⟩ (fun w hs => Among.of Among.none w hs)
 intro q2
 replace q2 : ¬ (a3 = 0) := of_decide_eq_false q2
 replace hm := iF hm q2
 refine skn ?_
 refine St.seq ?_
 refine ssr ?_
 refine smv rfl rfl ?_
 refine sv (v := (.bool (decide (a1 = ([] : List UInt8))))) (Yields.eqStr rfl rfl) rfl ?_
 refine snn ?_
 refine St.cond_b rfl ?_ ?_
 ·intro q3
  replace q3 : a1 = ([] : List UInt8) := of_decide_eq_true q3
  replace hm := iT hm q3
  refine ssr ?_
  refine smv rfl rfl ?_
  refine smv rfl rfl ?_
  exact nomatch (show (none : Option _) = some _ from hm)
 intro q4
 replace q4 : ¬ (a1 = ([] : List UInt8)) := of_decide_eq_false q4
 replace hm := iF hm q4
 refine skn ?_
 obtain ⟨z5, hm, hk8⟩ := bS hm
 refine St.cutI (fun a w => ∃ (F6 : PH), PH.le F F6 ∧ Has Tryz.f22.ntmps a [(0, .string (bs a0)), (1, .string (bs a1)), (2, .int .i64 a2), (3, .int .i64 z5)] ∧ Sat ⟨w0, fun b => m0 b ≠ none, F⟩ F6 [] w) ?_ ?_
 ·skip
  refine ssr ?_
  refine smv rfl rfl ?_
  refine sv (v := (.bool (decide (a3 < 0)))) (Yields.lt rfl rfl) rfl ?_
  refine snn ?_
  refine St.cond_b rfl ?_ ?_
  ·intro q9
   replace q9 : a3 < 0 := of_decide_eq_true q9
   replace hm := iT hm q9
   refine St.region ?_
   refine smv rfl rfl ?_
   refine smv rfl rfl ?_
   obtain ⟨q10, e11, hm⟩ := bS hm
   refine St.call [] (x_count47_sp e11) rfl (fun _ ha => ev2 ha rfl rfl) rfl en47 rfl rfl trivial ?_
   rintro _ F12 _ ⟨rfl, rfl⟩ l13
   refine sv (v := (.int .i64 (Mir.w64 (q10 + 1)))) (Yields.addw rfl rfl) rfl ?_
   refine sas rfl rfl ?_
   refine St.nil ?_
   obtain rfl := sI hm
   intro a w ha hs
   exact ⟨F12, l13, ha.covers ⟨rfl, rfl, rfl, rfl, trivial⟩, (Among.of Among.none _ hs)⟩
  intro q14
  replace q14 : ¬ (a3 < 0) := of_decide_eq_false q14
  replace hm := iF hm q14
  refine St.skip ?_
  obtain rfl := sI hm
  intro a w ha hs
  exact ⟨F, (PH.le_refl _), ha.covers ⟨rfl, rfl, rfl, rfl, trivial⟩, (Among.of Among.none _ hs)⟩
 rintro a w ⟨F6, l7, ha, hs⟩
 replace hm := hk8
 refine St.use (?_ : St _ _ _ _ _ _) ha hs
 clear ha hs a w
 refine ssr ?_
 refine smv rfl rfl ?_
 refine smv rfl rfl ?_
 refine sv (v := (.int .i64 ((a0.length : Nat) : Int))) (Yields.lenStr tu9 rfl) rfl ?_
 obtain ⟨x15, e16, hm⟩ := bS hm
 refine sv (v := (.int .i64 ((a0.length + 1 : Nat) : Int))) (Yields.addn (j := 1) rfl rfl rfl (by have q_0 := (Mir.small_le e16); omega)) rfl ?_
 refine sv (v := (.int .i64 (if ((a0.length + 1 : Nat) : Int) < z5 then ((a0.length + 1 : Nat) : Int) else z5))) (Yields.min2 rfl rfl) rfl ?_
 refine sas rfl rfl ?_
 refine snn ?_
 refine ssr ?_
 refine smv rfl rfl ?_
 obtain ⟨x17, e18, hm⟩ := bS hm
 refine St.makeK (D := Kind.str) e18 ts29 tz9 rfl rfl rfl rfl rfl rfl trivial ?_
 intro g19 c20 cells21 h22 b23
 refine sas rfl rfl ?_
 refine snn ?_
 refine ssr ?_
 refine smv rfl rfl ?_
 refine sv (v := (.int .i64 (Mir.w64 ((if ((a0.length + 1 : Nat) : Int) < z5 then ((a0.length + 1 : Nat) : Int) else z5) - 1)))) (Yields.subw rfl rfl) rfl ?_
 refine sas rfl rfl ?_
 refine snn ?_
 refine ssr ?_
 refine sas rfl rfl ?_
 refine snn ?_
 obtain ⟨z25, hm, hk34⟩ := bS hm
 refine St.cutI (fun a w => ∃ (A29 : Option Addr) (c30 : Nat) (cells32 : List Value) (F26 : PH), PH.le F6 F26 ∧ Cat Kind.str F26 cells32 z25.2.1 ∧ Bnd 16 z25.2.1 ∧ Has Tryz.f22.ntmps a [(0, .string (bs z25.1)), (9, .slice A29 z25.2.1.length c30), (10, .int .i64 z25.2.2)] ∧ Sat ⟨w0, fun b => m0 b ≠ none, F⟩ F26 [rowo A29 z25.2.1.length c30 9 1 cells32] w) ?_ ?_
 ·skip
  refine St.block ?_
  refine St.loopM hm (fun s55 a w => ∃ (A60 : Option Addr) (c61 : Nat) (cells63 : List Value) (F65 : PH), PH.le F6 F65 ∧ Cat Kind.str F65 cells63 s55.2.1 ∧ Bnd 16 s55.2.1 ∧ Has Tryz.f22.ntmps a [(0, .string (bs s55.1)), (1, .string (bs a1)), (2, .int .i64 a2), (3, .int .i64 (Mir.w64 ((if ((a0.length + 1 : Nat) : Int) < z5 then ((a0.length + 1 : Nat) : Int) else z5) - 1))), (9, .slice A60 s55.2.1.length c61), (10, .int .i64 s55.2.2)] ∧ Sat ⟨w0, fun b => m0 b ≠ none, F⟩ F65 [rowo A60 s55.2.1.length c61 9 1 cells63] w) ?_ ?_
  ·skip
   intro a w ha hs
   exact ⟨(some ⟨g19, 0, none⟩), c20, cells21, F6, (PH.le_refl _), h22, b23, ha.covers ⟨rfl, rfl, rfl, rfl, rfl, rfl, trivial⟩, (Among.of (Among.take 0 rfl rfl Among.none) _ hs)⟩
  rintro s55 o56 co57 hm ho58 a w ⟨A60, c61, cells63, F65, l66, h62, b64, ha, hs⟩
  refine St.use (?_ : St _ _ _ _ _ _) ha hs
  clear ha hs a w
  refine St.seq ?_
  refine ssr ?_
  refine smv rfl rfl ?_
  refine smv rfl rfl ?_
  refine sv (v := (.bool (decide (s55.2.2 < Mir.w64 ((if ((a0.length + 1 : Nat) : Int) < z5 then ((a0.length + 1 : Nat) : Int) else z5) - 1))))) (Yields.lt rfl rfl) rfl ?_
  refine snn ?_
  refine St.cond_b rfl ?_ ?_
  ·intro q67
   replace q67 : s55.2.2 < Mir.w64 ((if ((a0.length + 1 : Nat) : Int) < z5 then ((a0.length + 1 : Nat) : Int) else z5) - 1) := of_decide_eq_true q67
   replace hm := iT hm q67
   refine skn ?_
   refine St.block ?_
   refine ssr ?_
   refine smv rfl rfl ?_
   refine smv rfl rfl ?_
   obtain ⟨q68, e69, hm⟩ := bS hm
   refine St.call [rowo A60 s55.2.1.length c61 9 1 cells63] (x_index48_sp e69) rfl (fun _ ha => ev2 ha rfl rfl) rfl en48 rfl rfl trivial ?_
   rintro _ F70 _ ⟨rfl, rfl⟩ l71
   refine sas rfl rfl ?_
   refine snn ?_
   refine St.seq ?_
   refine ssr ?_
   refine smv rfl rfl ?_
   refine sv (v := (.bool (decide (q68 < 0)))) (Yields.lt rfl rfl) rfl ?_
   refine snn ?_
   refine St.cond_b rfl ?_ ?_
   ·intro q72
    replace q72 : q68 < 0 := of_decide_eq_true q72
    replace hm := iT hm q72
    refine St.exit ?_
    refine St.thenexit ?_
    refine St.inpass rfl ?_
    refine St.thenexit ?_
    refine St.inexit ?_
    obtain rfl := sI hm
    obtain rfl := aR ho58
    intro a w ha hs
    exact ⟨A60, c61, cells63, F70, (PH.le_trans l66 l71), (Cat.mono l71 h62), b64, ha.covers ⟨rfl, rfl, rfl, trivial⟩, (Among.of (Among.take 0 rfl rfl Among.none) _ hs)⟩
   intro q73
   replace q73 : ¬ (q68 < 0) := of_decide_eq_false q73
   replace hm := iF hm q73
   refine skn ?_
   refine ssr ?_
   refine smv rfl rfl ?_
   refine smv rfl rfl ?_
   refine smv rfl rfl ?_
   refine smv rfl rfl ?_
   refine smv rfl rfl ?_
   refine sv (v := (.int .i64 (Mir.w64 (q68 + a2)))) (Yields.addw rfl rfl) rfl ?_
   obtain ⟨x74, e75, hm⟩ := bS hm
   refine sv (v := (.string (bs x74))) (Yields.subST e75 tu9 rfl rfl) rfl ?_
   obtain ⟨x76, e77, hm⟩ := bS hm
   obtain ⟨jx78, jx79, cs80, R81, k82⟩ := (Cat.mono l71 h62).idx e77
   obtain rfl := R81
   refine St.rowo_at 0 rfl (by omega) ?_
   intro hA83
   refine sv (v := (.pointer (some ⟨bk A60, bo A60 + s55.2.2.toNat * 1, none⟩))) (Yields.idx (IdxAt.own hA83 jx78 jx79) ts29 rfl rfl) rfl ?_
   obtain ⟨x86, e87, hm⟩ := bS hm
   refine St.putK1 (R := []) e87 (Cat.mono l71 h62) (show (Kind.str).R _ [.string (bs x74)] x74 from rfl) rfl rfl rfl 0 rfl rfl tc9 rfl trivial ?_
   intro cells85 h84
   try rw [upd_len e87]
   refine snn ?_
   refine ssr ?_
   refine smv rfl rfl ?_
   refine smv rfl rfl ?_
   refine smv rfl rfl ?_
   refine sv (v := (.int .i64 ((a1.length : Nat) : Int))) (Yields.lenStr tu9 rfl) rfl ?_
   obtain ⟨x88, e89, hm⟩ := bS hm
   refine sv (v := (.int .i64 (Mir.w64 (q68 + ((a1.length : Nat) : Int))))) (Yields.addw rfl rfl) rfl ?_
   obtain ⟨x90, e91, hm⟩ := bS hm
   refine sv (v := (.string (bs x90))) (Yields.subSD e91 tu9 rfl rfl) rfl ?_
   refine sas rfl rfl ?_
   refine snn ?_
   refine St.region ?_
   refine smv rfl rfl ?_
   refine sv (v := (.int .i64 (Mir.w64 (s55.2.2 + 1)))) (Yields.addw rfl rfl) rfl ?_
   refine sas rfl rfl ?_
   refine St.nil ?_
   refine St.innorm ?_
   refine St.norm ?_
   obtain rfl := sI hm
   intro a w ha hs
   exact ⟨(x90, x86, Mir.w64 (s55.2.2 + 1)), aL ho58, A60, c61, cells85, F70, (PH.le_trans l66 l71), h84, (Bnd.of_upd b64 e87), ha.covers ⟨rfl, rfl, rfl, rfl, rfl, rfl, trivial⟩, (Among.of (Among.take 0 rfl rfl Among.none) _ hs)⟩
  intro q92
  replace q92 : ¬ (s55.2.2 < Mir.w64 ((if ((a0.length + 1 : Nat) : Int) < z5 then ((a0.length + 1 : Nat) : Int) else z5) - 1)) := of_decide_eq_false q92
  replace hm := iF hm q92
  refine St.exit ?_
  refine St.thenexit ?_
  refine St.thenexit ?_
  refine St.inexit ?_
  obtain rfl := sI hm
  obtain rfl := aR ho58
  intro a w ha hs
  exact ⟨A60, c61, cells63, F65, l66, h62, b64, ha.covers ⟨rfl, rfl, rfl, trivial⟩, (Among.of (Among.take 0 rfl rfl Among.none) _ hs)⟩
 rintro a w ⟨A29, c30, cells32, F26, l27, h31, b33, ha, hs⟩
 replace hm := hk34
 refine St.use (?_ : St _ _ _ _ _ _) ha hs
 clear ha hs a w
 refine ssr ?_
 refine smv rfl rfl ?_
 refine smv rfl rfl ?_
 refine smv rfl rfl ?_
 obtain ⟨x93, e94, hm⟩ := bS hm
 obtain ⟨jx95, jx96, cs97, R98, k99⟩ := h31.idx e94
 obtain rfl := R98
 refine St.rowo_at 0 rfl (by omega) ?_
 intro hA100
 refine sv (v := (.pointer (some ⟨bk A29, bo A29 + z25.2.2.toNat * 1, none⟩))) (Yields.idx (IdxAt.own hA100 jx95 jx96) ts29 rfl rfl) rfl ?_
 obtain ⟨x103, e104, hm⟩ := bS hm
 refine St.putK1 (R := []) e104 h31 (show (Kind.str).R _ [.string (bs z25.1)] z25.1 from rfl) rfl rfl rfl 0 rfl rfl tc9 rfl trivial ?_
 intro cells102 h101
 try rw [upd_len e104]
 refine snn ?_
 refine ssr ?_
 refine smv rfl rfl ?_
 refine smv rfl rfl ?_
 refine sv (v := (.int .i64 (Mir.w64 (z25.2.2 + 1)))) (Yields.addw rfl rfl) rfl ?_
 obtain ⟨x105, e106, hm⟩ := bS hm
 refine St.rowo_len 0 rfl ?_
 intro hk107
 obtain ⟨A108, c109, s110, hw111⟩ := subOwn (D := Kind.str) A29 9 hk107 e106
 refine sv (v := (.slice A108 x105.length c109)) (Yields.subT s110 ts29 rfl rfl) rfl ?_
 refine St.shrink (R := []) 0 rfl rfl h101 hw111 ?_
 intro cells113 h114
 refine sas rfl rfl ?_
 refine snn ?_
 refine St.ret ?_
 refine St.frz 0 rfl rfl rfl h114 (Bnd.of_sub (Bnd.of_upd b33 e104) e106) ?_
 intro F115 l116 h117
 obtain rfl := sI hm
 exact St.doneR1 rfl rfl ⟨A108, c109, rfl, h117, rfl⟩ (fun w hs => Among.of Among.none w hs)
theorem m_strings_Split_sp {F : PH} {g : Nat} {a0 : List UInt8} {a1 : List UInt8} {r : List (List UInt8)} (hm : m_strings_Split g a0 a1 = some r) :
  CallSp Tryz.prog 8 #[.string (bs a0), .string (bs a1)] F [] (fun u F' H' => ∃ (B0 : Option Addr) (d0 : Nat), u = (.slice B0 r.length d0) ∧ Fsl 16 Kind.str F' B0 d0 r ∧ H' = []) := by

 unfold m_strings_Split at hm
 refine CallSp.enter (args := [.string (bs a0), .string (bs a1)]) Tryz.func8 rfl rfl ?_
 intro w0 m0 hm0
 refine ssr ?_
 refine sas rfl rfl ?_
 refine snn ?_
 refine ssr ?_
 refine smv rfl rfl ?_
 refine smv rfl rfl ?_
 obtain ⟨q1, e2, hm⟩ := bS hm
 refine St.call [] (m_strings_genSplit_sp e2) rfl (fun _ ha => ev4 ha rfl rfl rfl rfl) rfl en22 rfl rfl trivial ?_
 rintro _ F3 _ ⟨A5, c6, rfl, h7, rfl⟩ l4
 refine sas rfl rfl ?_
 refine snn ?_
 refine St.ret ?_
 obtain rfl := sI hm
 exact St.doneR1 rfl rfl ⟨A5, c6, rfl, h7, rfl⟩ (fun w hs => Among.of Among.none w hs)
theorem m_code_isWord_sp {F : PH} {g : Nat} {a0 : List UInt8} {r : Bool} (hm : m_code_isWord g a0 = some r) :
  CallSp Tryz.prog 10 #[.string (bs a0)] F [] (fun u F' H' => u = (.bool r) ∧ H' = []) := by

 unfold m_code_isWord at hm
 refine CallSp.enter (args := [.string (bs a0)]) Tryz.func10 rfl rfl ?_
 intro w0 m0 hm0
 refine ssr ?_
 refine sas rfl rfl ?_
 refine snn ?_
 obtain ⟨o2, hm, ho3⟩ := jS hm
 refine St.cutI (fun a w => ∃ z1 : Unit, o2 = .inl z1 ∧ Has Tryz.f10.ntmps a [(0, .string (bs a0))] ∧ Sat ⟨w0, fun b => m0 b ≠ none, F⟩ F [] w) ?_ ?_
 ·skip
  refine ssr ?_
  refine sas rfl rfl ?_
  refine snn ?_
  refine St.block ?_
  refine St.loopM hm (fun s5 a w => Has Tryz.f10.ntmps a [(0, .string (bs a0)), (3, .int .i64 ((s5 : Nat) : Int))] ∧ Sat ⟨w0, fun b => m0 b ≠ none, F⟩ F [] w) ?_ ?_
  ·skip
   intro a w ha hs
   exact ⟨ha.covers ⟨rfl, rfl, trivial⟩, (Among.of Among.none _ hs)⟩
  rintro s5 o6 co7 hm ho8 a w ⟨ha, hs⟩
  refine St.use (?_ : St _ _ _ _ _ _) ha hs
  clear ha hs a w
  refine St.seq ?_
  refine ssr ?_
  refine smv rfl rfl ?_
  refine smv rfl rfl ?_
  refine sv (v := (.int .i64 ((a0.length : Nat) : Int))) (Yields.lenStr tu9 rfl) rfl ?_
  refine sv (v := (.bool (decide (((s5 : Nat) : Int) < ((a0.length : Nat) : Int))))) (Yields.lt rfl rfl) rfl ?_
  refine snn ?_
  refine St.cond_b rfl ?_ ?_
  ·intro q9
   replace q9 : ((s5 : Nat) : Int) < ((a0.length : Nat) : Int) := of_decide_eq_true q9
   replace hm := iT hm q9
   refine skn ?_
   refine St.seq ?_
   refine St.block ?_
   refine ssr ?_
   refine smv rfl rfl ?_
   refine smv rfl rfl ?_
   obtain ⟨x10, e11, hm⟩ := bS hm
   refine sv (v := (.int .u8 ((x10.toNat : Nat) : Int))) (Yields.indexStr (nlit e11) tu9 rfl rfl) rfl ?_
   refine sas rfl rfl ?_
   refine snn ?_
   obtain ⟨z12, hm, hk13⟩ := bS hm
   refine St.cutI (fun a w => Has Tryz.f10.ntmps a [(0, .string (bs a0)), (3, .int .i64 ((s5 : Nat) : Int)), (40, .bool z12)] ∧ Sat ⟨w0, fun b => m0 b ≠ none, F⟩ F [] w) ?_ ?_
   ·skip
    refine St.region ?_
    refine smv rfl rfl ?_
    by_cases q14 : ((x10.toNat : Nat) : Int) ≥ 97
    ·replace hm := iT hm q14
     refine sv (v := vT) (Yields.is q14 (Yields.ge rfl rfl)) rfl ?_
     refine smv rfl rfl ?_
     refine St.val (v := (.int .u8 ((x10.toNat : Nat) : Int))) (Yields.move rfl) rfl rfl rfl ?_
     by_cases q15 : ((x10.toNat : Nat) : Int) ≤ 122
     ·replace hm := iT hm q15
      refine St.val (v := vT) (Yields.is q15 (Yields.le rfl rfl)) rfl rfl rfl ?_
      refine spt rfl rfl rfl ?_
      refine smv rfl rfl ?_
      refine su rfl rfl rfl ?_
      refine su rfl rfl rfl ?_
      refine su rfl rfl rfl ?_
      refine St.unwanted trivial rfl rfl ?_
      refine St.unwanted trivial rfl rfl ?_
      refine su rfl rfl rfl ?_
      refine spt rfl rfl rfl ?_
      refine smv rfl rfl ?_
      refine su rfl rfl rfl ?_
      refine su rfl rfl rfl ?_
      refine su rfl rfl rfl ?_
      refine St.unwanted trivial rfl rfl ?_
      refine St.unwanted trivial rfl rfl ?_
      refine su rfl rfl rfl ?_
      refine spt rfl rfl rfl ?_
      refine smv rfl rfl ?_
      refine su rfl rfl rfl ?_
      refine su rfl rfl rfl ?_
      refine spt rfl rfl rfl ?_
      refine sv (v := vF) (Yields.not_t rfl) rfl ?_
      refine St.nil ?_
      obtain rfl := sI hm
      intro a w ha hs
      exact ⟨ha.covers ⟨rfl, rfl, rfl, trivial⟩, (Among.of Among.none _ hs)⟩
     replace hm := iF hm q15
     refine St.val (v := vF) (Yields.isnt q15 (Yields.le rfl rfl)) rfl rfl rfl ?_
     refine spt rfl rfl rfl ?_
     refine smv rfl rfl ?_
     refine St.val (v := (.int .u8 ((x10.toNat : Nat) : Int))) (Yields.move rfl) rfl rfl rfl ?_
     by_cases q16 : ((x10.toNat : Nat) : Int) ≥ 65
     ·replace hm := iT hm q16
      refine St.val (v := vT) (Yields.is q16 (Yields.ge rfl rfl)) rfl rfl rfl ?_
      refine St.val (v := vT) (Yields.move rfl) rfl rfl rfl ?_
      refine St.val (v := (.int .u8 ((x10.toNat : Nat) : Int))) (Yields.move rfl) rfl rfl rfl ?_
      by_cases q17 : ((x10.toNat : Nat) : Int) ≤ 90
      ·replace hm := iT hm q17
       refine St.val (v := vT) (Yields.is q17 (Yields.le rfl rfl)) rfl rfl rfl ?_
       refine St.val (v := vT) (Yields.pick_t rfl rfl) rfl rfl rfl ?_
       refine spf rfl rfl rfl ?_
       refine smv rfl rfl ?_
       refine su rfl rfl rfl ?_
       refine su rfl rfl rfl ?_
       refine su rfl rfl rfl ?_
       refine St.unwanted trivial rfl rfl ?_
       refine St.unwanted trivial rfl rfl ?_
       refine su rfl rfl rfl ?_
       refine spt rfl rfl rfl ?_
       refine smv rfl rfl ?_
       refine su rfl rfl rfl ?_
       refine su rfl rfl rfl ?_
       refine spt rfl rfl rfl ?_
       refine sv (v := vF) (Yields.not_t rfl) rfl ?_
       refine St.nil ?_
       obtain rfl := sI hm
       intro a w ha hs
       exact ⟨ha.covers ⟨rfl, rfl, rfl, trivial⟩, (Among.of Among.none _ hs)⟩
      replace hm := iF hm q17
      refine St.val (v := vF) (Yields.isnt q17 (Yields.le rfl rfl)) rfl rfl rfl ?_
      refine St.val (v := vF) (Yields.pick_t rfl rfl) rfl rfl rfl ?_
      refine spf rfl rfl rfl ?_
      refine smv rfl rfl ?_
      refine St.val (v := (.int .u8 ((x10.toNat : Nat) : Int))) (Yields.move rfl) rfl rfl rfl ?_
      by_cases q18 : ((x10.toNat : Nat) : Int) ≥ 48
      ·replace hm := iT hm q18
       refine St.val (v := vT) (Yields.is q18 (Yields.ge rfl rfl)) rfl rfl rfl ?_
       refine St.val (v := vT) (Yields.move rfl) rfl rfl rfl ?_
       refine St.val (v := (.int .u8 ((x10.toNat : Nat) : Int))) (Yields.move rfl) rfl rfl rfl ?_
       by_cases q19 : ((x10.toNat : Nat) : Int) ≤ 57
       ·replace hm := iT hm q19
        refine St.val (v := vT) (Yields.is q19 (Yields.le rfl rfl)) rfl rfl rfl ?_
        refine St.val (v := vT) (Yields.pick_t rfl rfl) rfl rfl rfl ?_
        refine spf rfl rfl rfl ?_
        refine smv rfl rfl ?_
        refine su rfl rfl rfl ?_
        refine su rfl rfl rfl ?_
        refine spt rfl rfl rfl ?_
        refine sv (v := vF) (Yields.not_t rfl) rfl ?_
        refine St.nil ?_
        obtain rfl := sI hm
        intro a w ha hs
        exact ⟨ha.covers ⟨rfl, rfl, rfl, trivial⟩, (Among.of Among.none _ hs)⟩
       replace hm := iF hm q19
       refine St.val (v := vF) (Yields.isnt q19 (Yields.le rfl rfl)) rfl rfl rfl ?_
       refine St.val (v := vF) (Yields.pick_t rfl rfl) rfl rfl rfl ?_
       refine spf rfl rfl rfl ?_
       refine smv rfl rfl ?_
       refine St.val (v := (.int .u8 ((x10.toNat : Nat) : Int))) (Yields.move rfl) rfl rfl rfl ?_
       refine St.val (v := (.bool (decide (((x10.toNat : Nat) : Int) = 95)))) (Yields.eq rfl rfl) rfl rfl rfl ?_
       refine spf rfl rfl rfl ?_
       refine sv (v := (.bool (!(decide (((x10.toNat : Nat) : Int) = 95))))) (Yields.not rfl) rfl ?_
       refine St.nil ?_
       obtain rfl := sI hm
       intro a w ha hs
       exact ⟨ha.covers ⟨rfl, rfl, rfl, trivial⟩, (Among.of Among.none _ hs)⟩
      replace hm := iF hm q18
      refine St.val (v := vF) (Yields.isnt q18 (Yields.ge rfl rfl)) rfl rfl rfl ?_
      refine St.val (v := vF) (Yields.move rfl) rfl rfl rfl ?_
      refine su rfl rfl rfl ?_
      refine su rfl rfl rfl ?_
      refine St.val (v := vF) (Yields.pick_f rfl rfl) rfl rfl rfl ?_
      refine spf rfl rfl rfl ?_
      refine smv rfl rfl ?_
      refine St.val (v := (.int .u8 ((x10.toNat : Nat) : Int))) (Yields.move rfl) rfl rfl rfl ?_
      refine St.val (v := (.bool (decide (((x10.toNat : Nat) : Int) = 95)))) (Yields.eq rfl rfl) rfl rfl rfl ?_
      refine spf rfl rfl rfl ?_
      refine sv (v := (.bool (!(decide (((x10.toNat : Nat) : Int) = 95))))) (Yields.not rfl) rfl ?_
      refine St.nil ?_
      obtain rfl := sI hm
      intro a w ha hs
      exact ⟨ha.covers ⟨rfl, rfl, rfl, trivial⟩, (Among.of Among.none _ hs)⟩
     replace hm := iF hm q16
     refine St.val (v := vF) (Yields.isnt q16 (Yields.ge rfl rfl)) rfl rfl rfl ?_
     refine St.val (v := vF) (Yields.move rfl) rfl rfl rfl ?_
     refine su rfl rfl rfl ?_
     refine su rfl rfl rfl ?_
     refine St.val (v := vF) (Yields.pick_f rfl rfl) rfl rfl rfl ?_
     refine spf rfl rfl rfl ?_
     refine smv rfl rfl ?_
     refine St.val (v := (.int .u8 ((x10.toNat : Nat) : Int))) (Yields.move rfl) rfl rfl rfl ?_
     by_cases q20 : ((x10.toNat : Nat) : Int) ≥ 48
     ·replace hm := iT hm q20
      refine St.val (v := vT) (Yields.is q20 (Yields.ge rfl rfl)) rfl rfl rfl ?_
      refine St.val (v := vT) (Yields.move rfl) rfl rfl rfl ?_
      refine St.val (v := (.int .u8 ((x10.toNat : Nat) : Int))) (Yields.move rfl) rfl rfl rfl ?_
      by_cases q21 : ((x10.toNat : Nat) : Int) ≤ 57
      ·replace hm := iT hm q21
       refine St.val (v := vT) (Yields.is q21 (Yields.le rfl rfl)) rfl rfl rfl ?_
       refine St.val (v := vT) (Yields.pick_t rfl rfl) rfl rfl rfl ?_
       refine spf rfl rfl rfl ?_
       refine smv rfl rfl ?_
       refine su rfl rfl rfl ?_
       refine su rfl rfl rfl ?_
       refine spt rfl rfl rfl ?_
       refine sv (v := vF) (Yields.not_t rfl) rfl ?_
       refine St.nil ?_
       obtain rfl := sI hm
       intro a w ha hs
       exact ⟨ha.covers ⟨rfl, rfl, rfl, trivial⟩, (Among.of Among.none _ hs)⟩
      replace hm := iF hm q21
      refine St.val (v := vF) (Yields.isnt q21 (Yields.le rfl rfl)) rfl rfl rfl ?_
      refine St.val (v := vF) (Yields.pick_t rfl rfl) rfl rfl rfl ?_
      refine spf rfl rfl rfl ?_
      refine smv rfl rfl ?_
      refine St.val (v := (.int .u8 ((x10.toNat : Nat) : Int))) (Yields.move rfl) rfl rfl rfl ?_
      refine St.val (v := (.bool (decide (((x10.toNat : Nat) : Int) = 95)))) (Yields.eq rfl rfl) rfl rfl rfl ?_
      refine spf rfl rfl rfl ?_
      refine sv (v := (.bool (!(decide (((x10.toNat : Nat) : Int) = 95))))) (Yields.not rfl) rfl ?_
      refine St.nil ?_
      obtain rfl := sI hm
      intro a w ha hs
      exact ⟨ha.covers ⟨rfl, rfl, rfl, trivial⟩, (Among.of Among.none _ hs)⟩
     replace hm := iF hm q20
     refine St.val (v := vF) (Yields.isnt q20 (Yields.ge rfl rfl)) rfl rfl rfl ?_
     refine St.val (v := vF) (Yields.move rfl) rfl rfl rfl ?_
     refine su rfl rfl rfl ?_
     refine su rfl rfl rfl ?_
     refine St.val (v := vF) (Yields.pick_f rfl rfl) rfl rfl rfl ?_
     refine spf rfl rfl rfl ?_
     refine smv rfl rfl ?_
     refine St.val (v := (.int .u8 ((x10.toNat : Nat) : Int))) (Yields.move rfl) rfl rfl rfl ?_
     refine St.val (v := (.bool (decide (((x10.toNat : Nat) : Int) = 95)))) (Yields.eq rfl rfl) rfl rfl rfl ?_
     refine spf rfl rfl rfl ?_
     refine sv (v := (.bool (!(decide (((x10.toNat : Nat) : Int) = 95))))) (Yields.not rfl) rfl ?_
     refine St.nil ?_
     obtain rfl := sI hm
     intro a w ha hs
     exact ⟨ha.covers ⟨rfl, rfl, rfl, trivial⟩, (Among.of Among.none _ hs)⟩
    replace hm := iF hm q14
    refine sv (v := vF) (Yields.isnt q14 (Yields.ge rfl rfl)) rfl ?_
    refine smv rfl rfl ?_
    refine su rfl rfl rfl ?_
    refine su rfl rfl rfl ?_
    refine spf rfl rfl rfl ?_
    refine smv rfl rfl ?_
    refine St.val (v := (.int .u8 ((x10.toNat : Nat) : Int))) (Yields.move rfl) rfl rfl rfl ?_
    by_cases q22 : ((x10.toNat : Nat) : Int) ≥ 65
    ·replace hm := iT hm q22
     refine St.val (v := vT) (Yields.is q22 (Yields.ge rfl rfl)) rfl rfl rfl ?_
     refine St.val (v := vT) (Yields.move rfl) rfl rfl rfl ?_
     refine St.val (v := (.int .u8 ((x10.toNat : Nat) : Int))) (Yields.move rfl) rfl rfl rfl ?_
     by_cases q23 : ((x10.toNat : Nat) : Int) ≤ 90
     ·replace hm := iT hm q23
      refine St.val (v := vT) (Yields.is q23 (Yields.le rfl rfl)) rfl rfl rfl ?_
      refine St.val (v := vT) (Yields.pick_t rfl rfl) rfl rfl rfl ?_
      refine spf rfl rfl rfl ?_
      refine smv rfl rfl ?_
      refine su rfl rfl rfl ?_
      refine su rfl rfl rfl ?_
      refine su rfl rfl rfl ?_
      refine St.unwanted trivial rfl rfl ?_
      refine St.unwanted trivial rfl rfl ?_
      refine su rfl rfl rfl ?_
      refine spt rfl rfl rfl ?_
      refine smv rfl rfl ?_
      refine su rfl rfl rfl ?_
      refine su rfl rfl rfl ?_
      refine spt rfl rfl rfl ?_
      refine sv (v := vF) (Yields.not_t rfl) rfl ?_
      refine St.nil ?_
      obtain rfl := sI hm
      intro a w ha hs
      exact ⟨ha.covers ⟨rfl, rfl, rfl, trivial⟩, (Among.of Among.none _ hs)⟩
     replace hm := iF hm q23
     refine St.val (v := vF) (Yields.isnt q23 (Yields.le rfl rfl)) rfl rfl rfl ?_
     refine St.val (v := vF) (Yields.pick_t rfl rfl) rfl rfl rfl ?_
     refine spf rfl rfl rfl ?_
     refine smv rfl rfl ?_
     refine St.val (v := (.int .u8 ((x10.toNat : Nat) : Int))) (Yields.move rfl) rfl rfl rfl ?_
     by_cases q24 : ((x10.toNat : Nat) : Int) ≥ 48
     ·replace hm := iT hm q24
      refine St.val (v := vT) (Yields.is q24 (Yields.ge rfl rfl)) rfl rfl rfl ?_
      refine St.val (v := vT) (Yields.move rfl) rfl rfl rfl ?_
      refine St.val (v := (.int .u8 ((x10.toNat : Nat) : Int))) (Yields.move rfl) rfl rfl rfl ?_
      by_cases q25 : ((x10.toNat : Nat) : Int) ≤ 57
      ·replace hm := iT hm q25
       refine St.val (v := vT) (Yields.is q25 (Yields.le rfl rfl)) rfl rfl rfl ?_
       refine St.val (v := vT) (Yields.pick_t rfl rfl) rfl rfl rfl ?_
       refine spf rfl rfl rfl ?_
       refine smv rfl rfl ?_
       refine su rfl rfl rfl ?_
       refine su rfl rfl rfl ?_
       refine spt rfl rfl rfl ?_
       refine sv (v := vF) (Yields.not_t rfl) rfl ?_
       refine St.nil ?_
       obtain rfl := sI hm
       intro a w ha hs
       exact ⟨ha.covers ⟨rfl, rfl, rfl, trivial⟩, (Among.of Among.none _ hs)⟩
      replace hm := iF hm q25
      refine St.val (v := vF) (Yields.isnt q25 (Yields.le rfl rfl)) rfl rfl rfl ?_
      refine St.val (v := vF) (Yields.pick_t rfl rfl) rfl rfl rfl ?_
      refine spf rfl rfl rfl ?_
      refine smv rfl rfl ?_
      refine St.val (v := (.int .u8 ((x10.toNat : Nat) : Int))) (Yields.move rfl) rfl rfl rfl ?_
      refine St.val (v := (.bool (decide (((x10.toNat : Nat) : Int) = 95)))) (Yields.eq rfl rfl) rfl rfl rfl ?_
      refine spf rfl rfl rfl ?_
      refine sv (v := (.bool (!(decide (((x10.toNat : Nat) : Int) = 95))))) (Yields.not rfl) rfl ?_
      refine St.nil ?_
      obtain rfl := sI hm
      intro a w ha hs
      exact ⟨ha.covers ⟨rfl, rfl, rfl, trivial⟩, (Among.of Among.none _ hs)⟩
     replace hm := iF hm q24
     refine St.val (v := vF) (Yields.isnt q24 (Yields.ge rfl rfl)) rfl rfl rfl ?_
     refine St.val (v := vF) (Yields.move rfl) rfl rfl rfl ?_
     refine su rfl rfl rfl ?_
     refine su rfl rfl rfl ?_
     refine St.val (v := vF) (Yields.pick_f rfl rfl) rfl rfl rfl ?_
     refine spf rfl rfl rfl ?_
     refine smv rfl rfl ?_
     refine St.val (v := (.int .u8 ((x10.toNat : Nat) : Int))) (Yields.move rfl) rfl rfl rfl ?_
     refine St.val (v := (.bool (decide (((x10.toNat : Nat) : Int) = 95)))) (Yields.eq rfl rfl) rfl rfl rfl ?_
     refine spf rfl rfl rfl ?_
     refine sv (v := (.bool (!(decide (((x10.toNat : Nat) : Int) = 95))))) (Yields.not rfl) rfl ?_
     refine St.nil ?_
     obtain rfl := sI hm
     intro a w ha hs
     exact ⟨ha.covers ⟨rfl, rfl, rfl, trivial⟩, (Among.of Among.none _ hs)⟩
    replace hm := iF hm q22
    refine St.val (v := vF) (Yields.isnt q22 (Yields.ge rfl rfl)) rfl rfl rfl ?_
    refine St.val (v := vF) (Yields.move rfl) rfl rfl rfl ?_
    refine su rfl rfl rfl ?_
    refine su rfl rfl rfl ?_
    refine St.val (v := vF) (Yields.pick_f rfl rfl) rfl rfl rfl ?_
    refine spf rfl rfl rfl ?_
    refine smv rfl rfl ?_
    refine St.val (v := (.int .u8 ((x10.toNat : Nat) : Int))) (Yields.move rfl) rfl rfl rfl ?_
    by_cases q26 : ((x10.toNat : Nat) : Int) ≥ 48
    ·replace hm := iT hm q26
     refine St.val (v := vT) (Yields.is q26 (Yields.ge rfl rfl)) rfl rfl rfl ?_
     refine St.val (v := vT) (Yields.move rfl) rfl rfl rfl ?_
     refine St.val (v := (.int .u8 ((x10.toNat : Nat) : Int))) (Yields.move rfl) rfl rfl rfl ?_
     by_cases q27 : ((x10.toNat : Nat) : Int) ≤ 57
     ·replace hm := iT hm q27
      refine St.val (v := vT) (Yields.is q27 (Yields.le rfl rfl)) rfl rfl rfl ?_
      refine St.val (v := vT) (Yields.pick_t rfl rfl) rfl rfl rfl ?_
      refine spf rfl rfl rfl ?_
      refine smv rfl rfl ?_
      refine su rfl rfl rfl ?_
      refine su rfl rfl rfl ?_
      refine spt rfl rfl rfl ?_
      refine sv (v := vF) (Yields.not_t rfl) rfl ?_
      refine St.nil ?_
      obtain rfl := sI hm
      intro a w ha hs
      exact ⟨ha.covers ⟨rfl, rfl, rfl, trivial⟩, (Among.of Among.none _ hs)⟩
     replace hm := iF hm q27
     refine St.val (v := vF) (Yields.isnt q27 (Yields.le rfl rfl)) rfl rfl rfl ?_
     refine St.val (v := vF) (Yields.pick_t rfl rfl) rfl rfl rfl ?_
     refine spf rfl rfl rfl ?_
     refine smv rfl rfl ?_
     refine St.val (v := (.int .u8 ((x10.toNat : Nat) : Int))) (Yields.move rfl) rfl rfl rfl ?_
     refine St.val (v := (.bool (decide (((x10.toNat : Nat) : Int) = 95)))) (Yields.eq rfl rfl) rfl rfl rfl ?_
     refine spf rfl rfl rfl ?_
     refine sv (v := (.bool (!(decide (((x10.toNat : Nat) : Int) = 95))))) (Yields.not rfl) rfl ?_
     refine St.nil ?_
     obtain rfl := sI hm
     intro a w ha hs
     exact ⟨ha.covers ⟨rfl, rfl, rfl, trivial⟩, (Among.of Among.none _ hs)⟩
    replace hm := iF hm q26
    refine St.val (v := vF) (Yields.isnt q26 (Yields.ge rfl rfl)) rfl rfl rfl ?_
    refine St.val (v := vF) (Yields.move rfl) rfl rfl rfl ?_
    refine su rfl rfl rfl ?_
    refine su rfl rfl rfl ?_
    refine St.val (v := vF) (Yields.pick_f rfl rfl) rfl rfl rfl ?_
    refine spf rfl rfl rfl ?_
    refine smv rfl rfl ?_
    refine St.val (v := (.int .u8 ((x10.toNat : Nat) : Int))) (Yields.move rfl) rfl rfl rfl ?_
    refine St.val (v := (.bool (decide (((x10.toNat : Nat) : Int) = 95)))) (Yields.eq rfl rfl) rfl rfl rfl ?_
    refine spf rfl rfl rfl ?_
    refine sv (v := (.bool (!(decide (((x10.toNat : Nat) : Int) = 95))))) (Yields.not rfl) rfl ?_
    refine St.nil ?_
    obtain rfl := sI hm
    intro a w ha hs
    exact ⟨ha.covers ⟨rfl, rfl, rfl, trivial⟩, (Among.of Among.none _ hs)⟩
   rintro a w ⟨ha, hs⟩
   replace hm := hk13
   refine St.use (?_ : St _ _ _ _ _ _) ha hs
   clear ha hs a w
   refine St.cond_b rfl ?_ ?_
   ·intro q28
    replace q28 : z12 = true := q28
    replace hm := iT hm q28
    refine ssr ?_
    refine sas rfl rfl ?_
    refine snn ?_
    refine St.ret ?_
    refine St.inret ?_
    refine St.thenret ?_
    refine St.thenret ?_
    refine St.inret ?_
    refine St.thenret ?_
    obtain rfl := sI hm
    obtain rfl := aR ho8
    obtain rfl := aR ho3
    exact St.doneR1 rfl rfl ⟨rfl, rfl⟩ (fun w hs => Among.of Among.none w hs)
   intro q29
   replace q29 : ¬ (z12 = true) := bf q29
   replace hm := iF hm q29
   refine St.skip ?_
   refine St.innorm ?_
   refine St.norm ?_
   refine St.region ?_
   refine smv rfl rfl ?_
   obtain ⟨x30, e31, hm⟩ := bS hm
   refine sv (v := (.int .i64 ((s5 + 1 : Nat) : Int))) (Yields.addn (j := 1) rfl rfl rfl (by have q_0 := q9; have q_1 := (Mir.small_le e31); omega)) rfl ?_
   refine sas rfl rfl ?_
   refine snn ?_
   obtain rfl := sI hm
   intro a w ha hs
   exact ⟨s5 + 1, aL ho8, ha.covers ⟨rfl, rfl, trivial⟩, (Among.of Among.none _ hs)⟩
  intro q32
  replace q32 : ¬ (((s5 : Nat) : Int) < ((a0.length : Nat) : Int)) := of_decide_eq_false q32
  replace hm := iF hm q32
  refine St.exit ?_
  refine St.thenexit ?_
  refine St.thenexit ?_
  refine St.inexit ?_
  obtain rfl := sI hm
  obtain rfl := aR ho8
  intro a w ha hs
  exact ⟨(), rfl, ha.covers ⟨rfl, trivial⟩, (Among.of Among.none _ hs)⟩
 rintro a w ⟨z1, rfl, ha, hs⟩
 replace hm := aL ho3
 refine St.use (?_ : St _ _ _ _ _ _) ha hs
 clear ha hs a w
 refine ssr ?_
 refine smv rfl rfl ?_
 refine sv (v := (.bool (!decide (a0 = ([] : List UInt8))))) (Yields.neStr rfl rfl) rfl ?_
 refine sas rfl rfl ?_
 refine snn ?_
 refine St.ret ?_
 obtain rfl := sI hm
 exact St.doneR1 rfl rfl ⟨rfl, rfl⟩ (fun w hs => Among.of Among.none w hs)
theorem m_code_number_sp {F : PH} {g : Nat} {a0 : List UInt8} {a1 : Bool} {r : Int × Bool} (hm : m_code_number g a0 a1 = some r) :
  CallSp Tryz.prog 11 #[.string (bs a0), .bool a1] F [] (fun u F' H' => u = (.tuple #[.int .i64 r.1, .bool r.2]) ∧ H' = []) := by

 unfold m_code_number at hm
 refine CallSp.enter (args := [.string (bs a0), .bool a1]) Tryz.func11 rfl rfl ?_
 intro w0 m0 hm0
 refine ssr ?_
 refine sas rfl rfl ?_
 refine sas rfl rfl ?_
 refine snn ?_
 obtain ⟨z1, hm, hk2⟩ := bS hm
 refine St.cutI (fun a w => Has Tryz.f11.ntmps a [(0, .string (bs a0)), (6, .bool z1)] ∧ Sat ⟨w0, fun b => m0 b ≠ none, F⟩ F [] w) ?_ ?_
 ·skip
  refine St.region ?_
  by_cases q3 : a1 = true
  ·replace hm := iT hm q3
   have hb4 : (a1) = true := q3
   try rw [hb4]
   refine smv rfl rfl ?_
   refine smv rfl rfl ?_
   refine St.val (v := (.string (bs a0))) (Yields.move rfl) rfl rfl rfl ?_
   refine St.val (v := (.int .i64 ((a0.length : Nat) : Int))) (Yields.lenStr tu9 rfl) rfl rfl rfl ?_
   by_cases q5 : ((a0.length : Nat) : Int) > 1
   ·replace hm := iT hm q5
    refine St.val (v := vT) (Yields.is q5 (Yields.gt rfl rfl)) rfl rfl rfl ?_
    refine spt rfl rfl rfl ?_
    refine smv rfl rfl ?_
    refine St.val (v := (.string (bs a0))) (Yields.move rfl) rfl rfl rfl ?_
    obtain ⟨x6, e7, hm⟩ := bS hm
    refine St.val (v := (.int .u8 ((x6.toNat : Nat) : Int))) (Yields.indexStr (nlit e7) tu9 rfl rfl) rfl rfl rfl ?_
    refine St.val (v := (.bool (decide (((x6.toNat : Nat) : Int) = 45)))) (Yields.eq rfl rfl) rfl rfl rfl ?_
    refine spt rfl rfl rfl ?_
    refine sas rfl rfl ?_
    refine St.nil ?_
    obtain rfl := sI hm
    intro a w ha hs
    exact ⟨ha.covers ⟨rfl, rfl, trivial⟩, (Among.of Among.none _ hs)⟩
   replace hm := iF hm q5
   refine St.val (v := vF) (Yields.isnt q5 (Yields.gt rfl rfl)) rfl rfl rfl ?_
   refine spt rfl rfl rfl ?_
   refine smv rfl rfl ?_
   refine su rfl rfl rfl ?_
   refine su rfl rfl rfl ?_
   refine su rfl rfl rfl ?_
   refine spf rfl rfl rfl ?_
   refine sas rfl rfl ?_
   refine St.nil ?_
   obtain rfl := sI hm
   intro a w ha hs
   exact ⟨ha.covers ⟨rfl, rfl, trivial⟩, (Among.of Among.none _ hs)⟩
  replace hm := iF hm q3
  have hb8 : (a1) = false := eq_false_of_ne_true q3
  try rw [hb8]
  refine smv rfl rfl ?_
  refine smv rfl rfl ?_
  refine su rfl rfl rfl ?_
  refine su rfl rfl rfl ?_
  refine su rfl rfl rfl ?_
  refine spf rfl rfl rfl ?_
  refine smv rfl rfl ?_
  refine su rfl rfl rfl ?_
  refine su rfl rfl rfl ?_
  refine su rfl rfl rfl ?_
  refine spf rfl rfl rfl ?_
  refine sas rfl rfl ?_
  refine St.nil ?_
  obtain rfl := sI hm
  intro a w ha hs
  exact ⟨ha.covers ⟨rfl, rfl, trivial⟩, (Among.of Among.none _ hs)⟩
 rintro a w ⟨ha, hs⟩
 replace hm := hk2
 refine St.use (?_ : St _ _ _ _ _ _) ha hs
 clear ha hs a w
 obtain ⟨z9, hm, hk10⟩ := bS hm
 refine St.cutI (fun a w => Has Tryz.f11.ntmps a [(0, .string (bs z9)), (6, .bool z1)] ∧ Sat ⟨w0, fun b => m0 b ≠ none, F⟩ F [] w) ?_ ?_
 ·skip
  refine ssr ?_
  refine smv rfl rfl ?_
  refine snn ?_
  refine St.cond_b rfl ?_ ?_
  ·intro q11
   replace q11 : z1 = true := q11
   replace hm := iT hm q11
   refine St.region ?_
   refine smv rfl rfl ?_
   obtain ⟨x12, e13, hm⟩ := bS hm
   refine sv (v := (.string (bs x12))) (Yields.subSD e13 tu9 rfl rfl) rfl ?_
   refine sas rfl rfl ?_
   refine St.nil ?_
   obtain rfl := sI hm
   intro a w ha hs
   exact ⟨ha.covers ⟨rfl, rfl, trivial⟩, (Among.of Among.none _ hs)⟩
  intro q14
  replace q14 : ¬ (z1 = true) := bf q14
  replace hm := iF hm q14
  refine St.skip ?_
  obtain rfl := sI hm
  intro a w ha hs
  exact ⟨ha.covers ⟨rfl, rfl, trivial⟩, (Among.of Among.none _ hs)⟩
 rintro a w ⟨ha, hs⟩
 replace hm := hk10
 refine St.use (?_ : St _ _ _ _ _ _) ha hs
 clear ha hs a w
 refine St.seq ?_
 obtain ⟨z15, hm, hk16⟩ := bS hm
 refine St.cutI (fun a w => Has Tryz.f11.ntmps a [(0, .string (bs z9)), (6, .bool z15.1), (46, .bool z15.2)] ∧ Sat ⟨w0, fun b => m0 b ≠ none, F⟩ F [] w) ?_ ?_
 ·skip
  refine St.region ?_
  refine smv rfl rfl ?_
  by_cases q17 : z9 = ([] : List UInt8)
  ·replace hm := iT hm q17
   refine sv (v := vT) (Yields.is q17 (Yields.eqStr rfl rfl)) rfl ?_
   refine smv rfl rfl ?_
   refine su rfl rfl rfl ?_
   refine su rfl rfl rfl ?_
   refine su rfl rfl rfl ?_
   refine spt rfl rfl rfl ?_
   refine smv rfl rfl ?_
   refine su rfl rfl rfl ?_
   refine su rfl rfl rfl ?_
   refine su rfl rfl rfl ?_
   refine su rfl rfl rfl ?_
   refine St.unwanted trivial rfl rfl ?_
   refine St.unwanted trivial rfl rfl ?_
   refine St.unwanted trivial rfl rfl ?_
   refine su rfl rfl rfl ?_
   refine spt rfl rfl rfl ?_
   refine smv rfl rfl ?_
   refine su rfl rfl rfl ?_
   refine su rfl rfl rfl ?_
   refine St.unwanted trivial rfl rfl ?_
   refine St.unwanted trivial rfl rfl ?_
   refine su rfl rfl rfl ?_
   refine spt rfl rfl rfl ?_
   refine St.nil ?_
   obtain rfl := sI hm
   intro a w ha hs
   exact ⟨ha.covers ⟨rfl, rfl, rfl, trivial⟩, (Among.of Among.none _ hs)⟩
  replace hm := iF hm q17
  refine sv (v := vF) (Yields.isnt q17 (Yields.eqStr rfl rfl)) rfl ?_
  refine smv rfl rfl ?_
  refine St.val (v := (.string (bs z9))) (Yields.move rfl) rfl rfl rfl ?_
  refine St.val (v := (.int .i64 ((z9.length : Nat) : Int))) (Yields.lenStr tu9 rfl) rfl rfl rfl ?_
  by_cases q18 : ((z9.length : Nat) : Int) > 10
  ·replace hm := iT hm q18
   refine St.val (v := vT) (Yields.is q18 (Yields.gt rfl rfl)) rfl rfl rfl ?_
   refine spf rfl rfl rfl ?_
   refine smv rfl rfl ?_
   refine su rfl rfl rfl ?_
   refine su rfl rfl rfl ?_
   refine su rfl rfl rfl ?_
   refine su rfl rfl rfl ?_
   refine St.unwanted trivial rfl rfl ?_
   refine St.unwanted trivial rfl rfl ?_
   refine St.unwanted trivial rfl rfl ?_
   refine su rfl rfl rfl ?_
   refine spt rfl rfl rfl ?_
   refine smv rfl rfl ?_
   refine su rfl rfl rfl ?_
   refine su rfl rfl rfl ?_
   refine St.unwanted trivial rfl rfl ?_
   refine St.unwanted trivial rfl rfl ?_
   refine su rfl rfl rfl ?_
   refine spt rfl rfl rfl ?_
   refine St.nil ?_
   obtain rfl := sI hm
   intro a w ha hs
   exact ⟨ha.covers ⟨rfl, rfl, rfl, trivial⟩, (Among.of Among.none _ hs)⟩
  replace hm := iF hm q18
  refine St.val (v := vF) (Yields.isnt q18 (Yields.gt rfl rfl)) rfl rfl rfl ?_
  refine spf rfl rfl rfl ?_
  refine smv rfl rfl ?_
  refine St.val (v := (.string (bs z9))) (Yields.move rfl) rfl rfl rfl ?_
  refine St.val (v := (.int .i64 ((z9.length : Nat) : Int))) (Yields.lenStr tu9 rfl) rfl rfl rfl ?_
  by_cases q19 : ((z9.length : Nat) : Int) > 1
  ·replace hm := iT hm q19
   refine St.val (v := vT) (Yields.is q19 (Yields.gt rfl rfl)) rfl rfl rfl ?_
   refine St.val (v := vT) (Yields.move rfl) rfl rfl rfl ?_
   refine St.val (v := (.string (bs z9))) (Yields.move rfl) rfl rfl rfl ?_
   obtain ⟨x20, e21, hm⟩ := bS hm
   refine St.val (v := (.int .u8 ((x20.toNat : Nat) : Int))) (Yields.indexStr (nlit e21) tu9 rfl rfl) rfl rfl rfl ?_
   by_cases q22 : ((x20.toNat : Nat) : Int) = 48
   ·replace hm := iT hm q22
    refine St.val (v := vT) (Yields.is q22 (Yields.eq rfl rfl)) rfl rfl rfl ?_
    refine St.val (v := vT) (Yields.pick_t rfl rfl) rfl rfl rfl ?_
    refine spf rfl rfl rfl ?_
    refine smv rfl rfl ?_
    refine su rfl rfl rfl ?_
    refine su rfl rfl rfl ?_
    refine St.unwanted trivial rfl rfl ?_
    refine St.unwanted trivial rfl rfl ?_
    refine su rfl rfl rfl ?_
    refine spt rfl rfl rfl ?_
    refine St.nil ?_
    obtain rfl := sI hm
    intro a w ha hs
    exact ⟨ha.covers ⟨rfl, rfl, rfl, trivial⟩, (Among.of Among.none _ hs)⟩
   replace hm := iF hm q22
   refine St.val (v := vF) (Yields.isnt q22 (Yields.eq rfl rfl)) rfl rfl rfl ?_
   refine St.val (v := vF) (Yields.pick_t rfl rfl) rfl rfl rfl ?_
   refine spf rfl rfl rfl ?_
   refine smv rfl rfl ?_
   by_cases q23 : z1 = true
   ·replace hm := iT hm q23
    have hb24 : (z1) = true := q23
    try rw [hb24]
    refine St.val (v := vT) (Yields.move rfl) rfl rfl rfl ?_
    refine St.val (v := vT) (Yields.move rfl) rfl rfl rfl ?_
    refine St.val (v := (.string (bs z9))) (Yields.move rfl) rfl rfl rfl ?_
    refine St.val (v := (.bool (decide (z9 = ([48] : List UInt8))))) (Yields.eqStr rfl rfl) rfl rfl rfl ?_
    refine St.val (v := (.bool (decide (z9 = ([48] : List UInt8))))) (Yields.pick_t rfl rfl) rfl rfl rfl ?_
    refine spf rfl rfl rfl ?_
    refine St.nil ?_
    obtain rfl := sI hm
    intro a w ha hs
    exact ⟨ha.covers ⟨rfl, rfl, rfl, trivial⟩, (Among.of Among.none _ hs)⟩
   replace hm := iF hm q23
   have hb25 : (z1) = false := eq_false_of_ne_true q23
   try rw [hb25]
   refine St.val (v := vF) (Yields.move rfl) rfl rfl rfl ?_
   refine St.val (v := vF) (Yields.move rfl) rfl rfl rfl ?_
   refine su rfl rfl rfl ?_
   refine su rfl rfl rfl ?_
   refine St.val (v := vF) (Yields.pick_f rfl rfl) rfl rfl rfl ?_
   refine spf rfl rfl rfl ?_
   refine St.nil ?_
   obtain rfl := sI hm
   intro a w ha hs
   exact ⟨ha.covers ⟨rfl, rfl, rfl, trivial⟩, (Among.of Among.none _ hs)⟩
  replace hm := iF hm q19
  refine St.val (v := vF) (Yields.isnt q19 (Yields.gt rfl rfl)) rfl rfl rfl ?_
  refine St.val (v := vF) (Yields.move rfl) rfl rfl rfl ?_
  refine su rfl rfl rfl ?_
  refine su rfl rfl rfl ?_
  refine su rfl rfl rfl ?_
  refine St.val (v := vF) (Yields.pick_f rfl rfl) rfl rfl rfl ?_
  refine spf rfl rfl rfl ?_
  refine smv rfl rfl ?_
  by_cases q26 : z1 = true
  ·replace hm := iT hm q26
   have hb27 : (z1) = true := q26
   try rw [hb27]
   refine St.val (v := vT) (Yields.move rfl) rfl rfl rfl ?_
   refine St.val (v := vT) (Yields.move rfl) rfl rfl rfl ?_
   refine St.val (v := (.string (bs z9))) (Yields.move rfl) rfl rfl rfl ?_
   refine St.val (v := (.bool (decide (z9 = ([48] : List UInt8))))) (Yields.eqStr rfl rfl) rfl rfl rfl ?_
   refine St.val (v := (.bool (decide (z9 = ([48] : List UInt8))))) (Yields.pick_t rfl rfl) rfl rfl rfl ?_
   refine spf rfl rfl rfl ?_
   refine St.nil ?_
   obtain rfl := sI hm
   intro a w ha hs
   exact ⟨ha.covers ⟨rfl, rfl, rfl, trivial⟩, (Among.of Among.none _ hs)⟩
  replace hm := iF hm q26
  have hb28 : (z1) = false := eq_false_of_ne_true q26
  try rw [hb28]
  refine St.val (v := vF) (Yields.move rfl) rfl rfl rfl ?_
  refine St.val (v := vF) (Yields.move rfl) rfl rfl rfl ?_
  refine su rfl rfl rfl ?_
  refine su rfl rfl rfl ?_
  refine St.val (v := vF) (Yields.pick_f rfl rfl) rfl rfl rfl ?_
  refine spf rfl rfl rfl ?_
  refine St.nil ?_
  obtain rfl := sI hm
  intro a w ha hs
  exact ⟨ha.covers ⟨rfl, rfl, rfl, trivial⟩, (Among.of Among.none _ hs)⟩
 rintro a w ⟨ha, hs⟩
 replace hm := hk16
 refine St.use (?_ : St _ _ _ _ _ _) ha hs
 clear ha hs a w
 refine St.cond_b rfl ?_ ?_
 ·intro q29
  replace q29 : z15.2 = true := q29
  replace hm := iT hm q29
  refine ssr ?_
  refine sas rfl rfl ?_
  refine sas rfl rfl ?_
  refine snn ?_
  refine St.ret ?_
  refine St.thenret ?_
  obtain rfl := sI hm
  exact St.doneR2 rfl rfl rfl ⟨rfl, rfl⟩ (fun w hs => Among.of Among.none w hs)
 intro q30
 replace q30 : ¬ (z15.2 = true) := bf q30
 replace hm := iF hm q30
 refine skn ?_
 refine ssr ?_
 refine sas rfl rfl ?_
 refine snn ?_
 obtain ⟨o32, hm, ho33⟩ := jS hm
 refine St.cutI (fun a w => ∃ z31 : Int, o32 = .inl z31 ∧ Has Tryz.f11.ntmps a [(6, .bool z15.1), (7, .int .i64 z31)] ∧ Sat ⟨w0, fun b => m0 b ≠ none, F⟩ F [] w) ?_ ?_
 ·skip
  refine ssr ?_
  refine sas rfl rfl ?_
  refine snn ?_
  refine St.block ?_
  refine St.loopM hm (fun s36 a w => Has Tryz.f11.ntmps a [(0, .string (bs z9)), (6, .bool z15.1), (7, .int .i64 s36.1), (8, .int .i64 ((s36.2 : Nat) : Int))] ∧ Sat ⟨w0, fun b => m0 b ≠ none, F⟩ F [] w) ?_ ?_
  ·skip
   intro a w ha hs
   exact ⟨ha.covers ⟨rfl, rfl, rfl, rfl, trivial⟩, (Among.of Among.none _ hs)⟩
  rintro s36 o37 co38 hm ho39 a w ⟨ha, hs⟩
  refine St.use (?_ : St _ _ _ _ _ _) ha hs
  clear ha hs a w
  refine St.seq ?_
  refine ssr ?_
  refine smv rfl rfl ?_
  refine smv rfl rfl ?_
  refine sv (v := (.int .i64 ((z9.length : Nat) : Int))) (Yields.lenStr tu9 rfl) rfl ?_
  refine sv (v := (.bool (decide (((s36.2 : Nat) : Int) < ((z9.length : Nat) : Int))))) (Yields.lt rfl rfl) rfl ?_
  refine snn ?_
  refine St.cond_b rfl ?_ ?_
  ·intro q40
   replace q40 : ((s36.2 : Nat) : Int) < ((z9.length : Nat) : Int) := of_decide_eq_true q40
   replace hm := iT hm q40
   refine skn ?_
   refine St.seq ?_
   refine St.block ?_
   refine St.seq ?_
   obtain ⟨z41, hm, hk42⟩ := bS hm
   refine St.cutI (fun a w => Has Tryz.f11.ntmps a [(0, .string (bs z9)), (6, .bool z15.1), (7, .int .i64 s36.1), (8, .int .i64 ((s36.2 : Nat) : Int)), (62, .bool z41)] ∧ Sat ⟨w0, fun b => m0 b ≠ none, F⟩ F [] w) ?_ ?_
   ·skip
    refine St.region ?_
    refine smv rfl rfl ?_
    refine smv rfl rfl ?_
    obtain ⟨x43, e44, hm⟩ := bS hm
    refine sv (v := (.int .u8 ((x43.toNat : Nat) : Int))) (Yields.indexStr (nlit e44) tu9 rfl rfl) rfl ?_
    by_cases q45 : ((x43.toNat : Nat) : Int) < 48
    ·replace hm := iT hm q45
     refine sv (v := vT) (Yields.is q45 (Yields.lt rfl rfl)) rfl ?_
     refine smv rfl rfl ?_
     refine su rfl rfl rfl ?_
     refine su rfl rfl rfl ?_
     refine su rfl rfl rfl ?_
     refine su rfl rfl rfl ?_
     refine spt rfl rfl rfl ?_
     refine St.nil ?_
     obtain rfl := sI hm
     intro a w ha hs
     exact ⟨ha.covers ⟨rfl, rfl, rfl, rfl, rfl, trivial⟩, (Among.of Among.none _ hs)⟩
    replace hm := iF hm q45
    refine sv (v := vF) (Yields.isnt q45 (Yields.lt rfl rfl)) rfl ?_
    refine smv rfl rfl ?_
    refine St.val (v := (.string (bs z9))) (Yields.move rfl) rfl rfl rfl ?_
    refine St.val (v := (.int .i64 ((s36.2 : Nat) : Int))) (Yields.move rfl) rfl rfl rfl ?_
    obtain ⟨x46, e47, hm⟩ := bS hm
    refine St.val (v := (.int .u8 ((x46.toNat : Nat) : Int))) (Yields.indexStr (nlit e47) tu9 rfl rfl) rfl rfl rfl ?_
    refine St.val (v := (.bool (decide (((x46.toNat : Nat) : Int) > 57)))) (Yields.gt rfl rfl) rfl rfl rfl ?_
    refine spf rfl rfl rfl ?_
    refine St.nil ?_
    obtain rfl := sI hm
    intro a w ha hs
    exact ⟨ha.covers ⟨rfl, rfl, rfl, rfl, rfl, trivial⟩, (Among.of Among.none _ hs)⟩
   rintro a w ⟨ha, hs⟩
   replace hm := hk42
   refine St.use (?_ : St _ _ _ _ _ _) ha hs
   clear ha hs a w
   refine St.cond_b rfl ?_ ?_
   ·intro q48
    replace q48 : z41 = true := q48
    replace hm := iT hm q48
    refine ssr ?_
    refine sas rfl rfl ?_
    refine sas rfl rfl ?_
    refine snn ?_
    refine St.ret ?_
    refine St.thenret ?_
    refine St.inret ?_
    refine St.thenret ?_
    refine St.thenret ?_
    refine St.inret ?_
    refine St.thenret ?_
    obtain rfl := sI hm
    obtain rfl := aR ho39
    obtain rfl := aR ho33
    exact St.doneR2 rfl rfl rfl ⟨rfl, rfl⟩ (fun w hs => Among.of Among.none w hs)
   intro q49
   replace q49 : ¬ (z41 = true) := bf q49
   replace hm := iF hm q49
   refine skn ?_
   refine St.region ?_
   refine smv rfl rfl ?_
   refine sv (v := (.int .i64 (Mir.w64 (s36.1 * 10)))) (Yields.mulw rfl rfl) rfl ?_
   refine smv rfl rfl ?_
   refine smv rfl rfl ?_
   obtain ⟨x50, e51, hm⟩ := bS hm
   refine sv (v := (.int .u8 ((x50.toNat : Nat) : Int))) (Yields.indexStr (nlit e51) tu9 rfl rfl) rfl ?_
   refine sv (v := (.int .u8 (IntKind.wrap .u8 (((x50.toNat : Nat) : Int) - 48)))) (Yields.subw rfl rfl) rfl ?_
   refine sv (v := (.int .i64 (Mir.w64 (IntKind.wrap .u8 (((x50.toNat : Nat) : Int) - 48))))) (Yields.convInt ti3 ⟨_, ti5⟩ rfl) rfl ?_
   refine sv (v := (.int .i64 (Mir.w64 ((Mir.w64 (s36.1 * 10)) + (Mir.w64 (IntKind.wrap .u8 (((x50.toNat : Nat) : Int) - 48))))))) (Yields.addw rfl rfl) rfl ?_
   refine sas rfl rfl ?_
   refine St.nil ?_
   refine St.innorm ?_
   refine St.norm ?_
   refine St.region ?_
   refine smv rfl rfl ?_
   obtain ⟨x52, e53, hm⟩ := bS hm
   refine sv (v := (.int .i64 ((s36.2 + 1 : Nat) : Int))) (Yields.addn (j := 1) rfl rfl rfl (by have q_0 := q40; have q_1 := (Mir.small_le e53); omega)) rfl ?_
   refine sas rfl rfl ?_
   refine snn ?_
   obtain rfl := sI hm
   intro a w ha hs
   exact ⟨(Mir.w64 ((Mir.w64 (s36.1 * 10)) + (Mir.w64 (IntKind.wrap .u8 (((x50.toNat : Nat) : Int) - 48)))), s36.2 + 1), aL ho39, ha.covers ⟨rfl, rfl, rfl, rfl, trivial⟩, (Among.of Among.none _ hs)⟩
  intro q54
  replace q54 : ¬ (((s36.2 : Nat) : Int) < ((z9.length : Nat) : Int)) := of_decide_eq_false q54
  replace hm := iF hm q54
  refine St.exit ?_
  refine St.thenexit ?_
  refine St.thenexit ?_
  refine St.inexit ?_
  obtain rfl := sI hm
  obtain rfl := aR ho39
  intro a w ha hs
  exact ⟨s36.1, rfl, ha.covers ⟨rfl, rfl, trivial⟩, (Among.of Among.none _ hs)⟩
 rintro a w ⟨z31, rfl, ha, hs⟩
 replace hm := aL ho33
 refine St.use (?_ : St _ _ _ _ _ _) ha hs
 clear ha hs a w
 obtain ⟨z55, hm, hk56⟩ := bS hm
 refine St.cutI (fun a w => Has Tryz.f11.ntmps a [(7, .int .i64 z55)] ∧ Sat ⟨w0, fun b => m0 b ≠ none, F⟩ F [] w) ?_ ?_
 ·skip
  refine ssr ?_
  refine smv rfl rfl ?_
  refine snn ?_
  refine St.cond_b rfl ?_ ?_
  ·intro q57
   replace q57 : z15.1 = true := q57
   replace hm := iT hm q57
   refine St.region ?_
   refine smv rfl rfl ?_
   refine sv (v := (.int .i64 (Mir.w64 (-z31)))) (Yields.neg rfl) rfl ?_
   refine sas rfl rfl ?_
   refine St.nil ?_
   obtain rfl := sI hm
   intro a w ha hs
   exact ⟨ha.covers ⟨rfl, trivial⟩, (Among.of Among.none _ hs)⟩
  intro q58
  replace q58 : ¬ (z15.1 = true) := bf q58
  replace hm := iF hm q58
  refine St.skip ?_
  obtain rfl := sI hm
  intro a w ha hs
  exact ⟨ha.covers ⟨rfl, trivial⟩, (Among.of Among.none _ hs)⟩
 rintro a w ⟨ha, hs⟩
 replace hm := hk56
 refine St.use (?_ : St _ _ _ _ _ _) ha hs
 clear ha hs a w
 refine ssr ?_
 refine smv rfl rfl ?_
 refine sas rfl rfl ?_
 refine sas rfl rfl ?_
 refine snn ?_
 refine St.ret ?_
 obtain rfl := sI hm
 exact St.doneR2 rfl rfl rfl ⟨rfl, rfl⟩ (fun w hs => Among.of Among.none w hs)
theorem m_code_numbers_sp {F : PH} {g : Nat} {a0 : List (List UInt8)} {pA0 : Option Addr} {pc0 : Nat} (ph0 : Fsl 16 Kind.str F pA0 pc0 a0) {r : List Int × Bool} (hm : m_code_numbers g a0 = some r) :
  CallSp Tryz.prog 25 #[.slice pA0 a0.length pc0] F [] (fun u F' H' => ∃ (B0 : Option Addr) (d0 : Nat), u = (.tuple #[.slice B0 r.1.length d0, .bool r.2]) ∧ Fsl 8 (Kind.int .i64) F' B0 d0 r.1 ∧ H' = []) := by

 unfold m_code_numbers at hm
 refine CallSp.enter (args := [.slice pA0 a0.length pc0]) Tryz.func25 rfl rfl ?_
 intro w0 m0 hm0
 refine ssr ?_
 refine sas rfl rfl ?_
 refine sas rfl rfl ?_
 refine snn ?_
 refine ssr ?_
 refine sas rfl rfl ?_
 refine snn ?_
 obtain ⟨o11, hm, ho12⟩ := jS hm
 refine St.cutI (fun a w => ∃ z2 : List Int, o11 = .inl z2 ∧ ∃ (A6 : Option Addr) (c7 : Nat) (cells9 : List Value) (F3 : PH), PH.le F F3 ∧ Cat (Kind.int .i64) F3 cells9 z2 ∧ Bnd 8 z2 ∧ Has Tryz.f25.ntmps a [(4, .slice A6 z2.length c7)] ∧ Sat ⟨w0, fun b => m0 b ≠ none, F⟩ F3 [rowo A6 z2.length c7 3 1 cells9] w) ?_ ?_
 ·skip
  refine ssr ?_
  refine smv rfl rfl ?_
  refine sv (v := (.int .i64 ((a0.length : Nat) : Int))) (Yields.lenSlice tu29 rfl) rfl ?_
  refine smv rfl rfl ?_
  refine snn ?_
  refine St.block ?_
  refine St.loopM hm (fun s22 a w => ∃ (A27 : Option Addr) (c28 : Nat) (cells30 : List Value) (F32 : PH), PH.le F F32 ∧ Cat (Kind.int .i64) F32 cells30 s22.1 ∧ Bnd 8 s22.1 ∧ Has Tryz.f25.ntmps a [(4, .slice A27 s22.1.length c28), (9, .slice pA0 a0.length pc0), (10, .int .i64 ((a0.length : Nat) : Int)), (11, .int .i64 ((s22.2 : Nat) : Int))] ∧ Sat ⟨w0, fun b => m0 b ≠ none, F⟩ F32 [rowo A27 s22.1.length c28 3 1 cells30] w) ?_ ?_
  ·skip
   refine St.rowo_new 3 1 ?_
   intro a w ha hs
   exact ⟨none, 0, [], F, (PH.le_refl _), (show Cat (Kind.int .i64) _ [] [] from rfl), Bnd.of_nil, ha.covers ⟨rfl, rfl, rfl, rfl, trivial⟩, (Among.of (Among.take 0 rfl rfl Among.none) _ hs)⟩
  rintro s22 o23 co24 hm ho25 a w ⟨A27, c28, cells30, F32, l33, h29, b31, ha, hs⟩
  refine St.use (?_ : St _ _ _ _ _ _) ha hs
  clear ha hs a w
  refine ssr ?_
  refine sv (v := (.bool (decide (((s22.2 : Nat) : Int) < ((a0.length : Nat) : Int))))) (Yields.lt rfl rfl) rfl ?_
  refine snn ?_
  refine St.seq ?_
  refine St.cond_b rfl ?_ ?_
  ·intro q35
   replace q35 : ((s22.2 : Nat) : Int) < ((a0.length : Nat) : Int) := of_decide_eq_true q35
   replace hm := iT hm q35
   refine skn ?_
   refine St.seq ?_
   refine St.block ?_
   refine ssr ?_
   obtain ⟨x36, e37, hm⟩ := bS hm
   obtain ⟨p38, cs39, jx40, R41, k42⟩ := (Fsl.mono l33 ph0).nidx e37
   obtain rfl := R41
   refine sv (v := (.pointer (some p38))) (Yields.idx jx40 ts29 rfl rfl) rfl ?_
   refine sv (v := (.string (bs x36))) (Yields.load rfl (Loads.Fat k42 tc9 rfl)) rfl ?_
   refine sas rfl rfl ?_
   refine snn ?_
   refine ssr ?_
   refine smv rfl rfl ?_
   obtain ⟨q43, e44, hm⟩ := bS hm
   refine St.call [rowo A27 s22.1.length c28 3 1 cells30] (m_code_number_sp e44) rfl (fun _ ha => ev2 ha rfl rfl) rfl en11 rfl rfl trivial ?_
   rintro _ F45 _ ⟨rfl, rfl⟩ l46
   refine smv rfl rfl ?_
   refine sv (v := (.int .i64 q43.1)) (Yields.extract rfl rfl) rfl ?_
   refine sv (v := (.bool q43.2)) (Yields.extract rfl rfl) rfl ?_
   refine sas rfl rfl ?_
   refine sas rfl rfl ?_
   refine snn ?_
   refine St.seq ?_
   refine ssr ?_
   refine smv rfl rfl ?_
   refine sv (v := (.bool (!q43.2))) (Yields.not rfl) rfl ?_
   refine snn ?_
   refine St.cond_b rfl ?_ ?_
   ·intro q47
    replace q47 : ¬ (q43.2 = true) := nb_t q47
    replace hm := iF hm q47
    refine ssr ?_
    refine sas rfl rfl ?_
    refine sas rfl rfl ?_
    refine snn ?_
    refine St.ret ?_
    refine St.thenret ?_
    refine St.inret ?_
    refine St.thenret ?_
    refine St.thenret ?_
    refine St.inret ?_
    refine St.thenret ?_
    obtain rfl := sI hm
    obtain rfl := aR ho25
    obtain rfl := aR ho12
    exact St.doneR2 rfl rfl rfl ⟨none, 0, rfl, Fsl.nil, rfl⟩ (fun w hs => Among.of Among.none w hs)
   intro q48
   replace q48 : q43.2 = true := nb_f q48
   replace hm := iT hm q48
   refine skn ?_
   refine St.region ?_
   refine smv rfl rfl ?_
   refine smv rfl rfl ?_
   refine St.buildSlice (e := 3) (cells := #[.int .i64 q43.1]) (vs := #[(0, .int .i64 q43.1)]) (fun _ ha => evp1 ha rfl) (fun _ => by kernel_rfl) rfl trivial ?_
   intro b49
   obtain ⟨x54, e55, hm⟩ := bS hm
   refine St.pushL (R := [blk b49 (.cells #[.int .i64 q43.1] 3 (0, 0))]) (R3 := []) e55 ts37 rfl rfl rfl rfl rfl 1 rfl rfl 0 rfl 0 rfl rfl (Cat.mono l46 h29) ⟨[.int .i64 q43.1], _, rfl, rfl, rfl⟩ rfl trivial ?_
   intro A50 c51 cells52 h53
   refine sas rfl rfl ?_
   refine St.nil ?_
   refine St.innorm ?_
   refine St.norm ?_
   refine St.region ?_
   refine sv (v := (.int .i64 ((s22.2 + 1 : Nat) : Int))) (Yields.addn (j := 1) rfl rfl rfl (by have q_0 := q35; have q_1 := ph0.bnd.2; omega)) rfl ?_
   refine smv rfl rfl ?_
   refine snn ?_
   obtain rfl := sI hm
   intro a w ha hs
   exact ⟨(x54, s22.2 + 1), aL ho25, A50, c51, cells52, F45, (PH.le_trans l33 l46), h53, (Bnd.of_push e55), ha.covers ⟨rfl, rfl, rfl, rfl, trivial⟩, (Among.of (Among.take 0 rfl rfl Among.none) _ hs)⟩
  intro q57
  replace q57 : ¬ (((s22.2 : Nat) : Int) < ((a0.length : Nat) : Int)) := of_decide_eq_false q57
  replace hm := iF hm q57
  refine St.exit ?_
  refine St.thenexit ?_
  refine St.thenexit ?_
  refine St.inexit ?_
  obtain rfl := sI hm
  obtain rfl := aR ho25
  intro a w ha hs
  exact ⟨s22.1, rfl, A27, c28, cells30, F32, l33, h29, b31, ha.covers ⟨rfl, trivial⟩, (Among.of (Among.take 0 rfl rfl Among.none) _ hs)⟩
 rintro a w ⟨z2, rfl, A6, c7, cells9, F3, l4, h8, b10, ha, hs⟩
 replace hm := aL ho12
 refine St.use (?_ : St _ _ _ _ _ _) ha hs
 clear ha hs a w
 refine ssr ?_
 refine smv rfl rfl ?_
 refine sas rfl rfl ?_
 refine sas rfl rfl ?_
 refine snn ?_
 refine St.ret ?_
 refine St.frz 0 rfl rfl rfl h8 b10 ?_
 intro F58 l59 h60
 obtain rfl := sI hm
 exact St.doneR2 rfl rfl rfl ⟨A6, c7, rfl, h60, rfl⟩ (fun w hs => Among.of Among.none w hs)
theorem m_stringslite_Cut_sp {F : PH} {g : Nat} {a0 : List UInt8} {a1 : List UInt8} {r : List UInt8 × List UInt8 × Bool} (hm : m_stringslite_Cut g a0 a1 = some r) :
  CallSp Tryz.prog 93 #[.string (bs a0), .string (bs a1)] F [] (fun u F' H' => u = (.tuple #[.string (bs r.1), .string (bs r.2.1), .bool r.2.2]) ∧ H' = []) := by

 unfold m_stringslite_Cut at hm
 refine CallSp.enter (args := [.string (bs a0), .string (bs a1)]) Tryz.func93 rfl rfl ?_
 intro w0 m0 hm0
 refine ssr ?_
 refine sas rfl rfl ?_
 refine sas rfl rfl ?_
 refine sas rfl rfl ?_
 refine snn ?_
 refine St.seq ?_
 refine ssr ?_
 refine smv rfl rfl ?_
 refine smv rfl rfl ?_
 obtain ⟨q1, e2, hm⟩ := bS hm
 refine St.call [] (x_index73_sp e2) rfl (fun _ ha => ev2 ha rfl rfl) rfl en73 rfl rfl trivial ?_
 rintro _ F3 _ ⟨rfl, rfl⟩ l4
 refine sas rfl rfl ?_
 refine snn ?_
 refine ssr ?_
 refine smv rfl rfl ?_
 refine sv (v := (.bool (decide (q1 ≥ 0)))) (Yields.ge rfl rfl) rfl ?_
 refine snn ?_
 refine St.cond_b rfl ?_ ?_
 ·intro q5
  replace q5 : q1 ≥ 0 := of_decide_eq_true q5
  replace hm := iT hm q5
  refine St.seq ?_
  refine StD.start [] [] hmix ?_
  refine sdp 0 (v := (.string (bs a0))) (listed' := #[true, false, false, false, false, false, false, false, false, false, false, false]) rfl (fun _ => Yields.move rfl) rfl (by kernel_rfl) rfl ?_
  refine sdp 1 (v := (.int .i64 q1)) (listed' := #[true, true, false, false, false, false, false, false, false, false, false, false]) rfl (fun _ => Yields.move rfl) rfl (by kernel_rfl) rfl ?_
  obtain ⟨x6, e7, hm⟩ := bS hm
  refine sdp 2 (v := (.string (bs x6))) (listed' := #[true, true, true, false, false, false, false, false, false, false, false, false]) rfl (fun _ => Yields.subST e7 tu9 rfl rfl) rfl (by kernel_rfl) rfl ?_
  refine sdp 3 (v := (.string (bs a0))) (listed' := #[true, true, true, true, false, false, false, false, false, false, false, false]) rfl (fun _ => Yields.move rfl) rfl (by kernel_rfl) rfl ?_
  refine sdp 4 (v := (.int .i64 q1)) (listed' := #[true, true, true, true, true, false, false, false, false, false, false, false]) rfl (fun _ => Yields.move rfl) rfl (by kernel_rfl) rfl ?_
  refine sdp 5 (v := (.string (bs a1))) (listed' := #[true, true, true, true, true, true, false, false, false, false, false, false]) rfl (fun _ => Yields.move rfl) rfl (by kernel_rfl) rfl ?_
  refine sdp 6 (v := (.int .i64 ((a1.length : Nat) : Int))) (listed' := #[true, true, true, true, true, true, true, false, false, false, false, false]) rfl (fun _ => Yields.lenStr tu9 rfl) rfl (by kernel_rfl) rfl ?_
  obtain ⟨x8, e9, hm⟩ := bS hm
  refine sdp 7 (v := (.int .i64 (Mir.w64 (q1 + ((a1.length : Nat) : Int))))) (listed' := #[true, true, true, true, true, true, true, true, false, false, false, false]) rfl (fun _ => Yields.addw rfl rfl) rfl (by kernel_rfl) rfl ?_
  obtain ⟨x10, e11, hm⟩ := bS hm
  refine sdp 8 (v := (.string (bs x10))) (listed' := #[true, true, true, true, true, true, true, true, true, false, false, false]) rfl (fun _ => Yields.subSD e11 tu9 rfl rfl) rfl (by kernel_rfl) rfl ?_
  refine sdp 9 (v := (.string (bs x6))) (listed' := #[true, true, true, true, true, true, true, true, true, true, false, false]) rfl (fun _ => Yields.assign rfl) rfl (by kernel_rfl) rfl ?_
  refine sdp 10 (v := (.string (bs x10))) (listed' := #[true, true, true, true, true, true, true, true, true, true, true, false]) rfl (fun _ => Yields.assign rfl) rfl (by kernel_rfl) rfl ?_
  refine sdp 11 (v := (.bool true)) (listed' := #[true, true, true, true, true, true, true, true, true, true, true, true]) rfl (fun _ => Yields.assign rfl) rfl (by kernel_rfl) rfl ?_
  refine StD.done (by kernel_rfl) ?_
  refine St.norm ?_
  refine St.ret ?_
  refine St.thenret ?_
  obtain rfl := sI hm
  exact St.doneR3 rfl rfl rfl rfl ⟨rfl, rfl⟩ (fun w hs => Among.of Among.none w hs)
 intro q12
 replace q12 : ¬ (q1 ≥ 0) := of_decide_eq_false q12
 replace hm := iF hm q12
 refine skn ?_
 refine ssr ?_
 refine smv rfl rfl ?_
 refine sas rfl rfl ?_
 refine sas rfl rfl ?_
 refine sas rfl rfl ?_
 refine snn ?_
 refine St.ret ?_
 obtain rfl := sI hm
 exact St.doneR3 rfl rfl rfl rfl ⟨rfl, rfl⟩ (fun w hs => Among.of Among.none w hs)
theorem m_strings_Cut_sp {F : PH} {g : Nat} {a0 : List UInt8} {a1 : List UInt8} {r : List UInt8 × List UInt8 × Bool} (hm : m_strings_Cut g a0 a1 = some r) :
  CallSp Tryz.prog 74 #[.string (bs a0), .string (bs a1)] F [] (fun u F' H' => u = (.tuple #[.string (bs r.1), .string (bs r.2.1), .bool r.2.2]) ∧ H' = []) := by

 unfold m_strings_Cut at hm
 refine CallSp.enter (args := [.string (bs a0), .string (bs a1)]) Tryz.func74 rfl rfl ?_
 intro w0 m0 hm0
 refine ssr ?_
 refine sas rfl rfl ?_
 refine sas rfl rfl ?_
 refine sas rfl rfl ?_
 refine snn ?_
 refine ssr ?_
 refine smv rfl rfl ?_
 refine smv rfl rfl ?_
 obtain ⟨q1, e2, hm⟩ := bS hm
 refine St.call [] (m_stringslite_Cut_sp e2) rfl (fun _ ha => ev2 ha rfl rfl) rfl en93 rfl rfl trivial ?_
 rintro _ F3 _ ⟨rfl, rfl⟩ l4
 refine sv (v := (.string (bs q1.1))) (Yields.extract rfl rfl) rfl ?_
 refine sv (v := (.string (bs q1.2.1))) (Yields.extract rfl rfl) rfl ?_
 refine sv (v := (.bool q1.2.2)) (Yields.extract rfl rfl) rfl ?_
 refine sas rfl rfl ?_
 refine sas rfl rfl ?_
 refine sas rfl rfl ?_
 refine snn ?_
 refine St.ret ?_
 obtain rfl := sI hm
 exact St.doneR3 rfl rfl rfl rfl ⟨rfl, rfl⟩ (fun w hs => Among.of Among.none w hs)
theorem m_code_jump_sp {F : PH} {g : Nat} {a0 : List UInt8} {r : DJump × Bool} (hm : m_code_jump g a0 = some r) :
  CallSp Tryz.prog 50 #[.string (bs a0)] F [] (fun u F' H' => u = (.tuple #[.agg #[.string (bs r.1.Name), .int .i64 r.1.N, .int .i64 r.1.To], .bool r.2]) ∧ H' = []) := by

 unfold m_code_jump at hm
 refine CallSp.enter (args := [.string (bs a0)]) Tryz.func50 rfl rfl ?_
 intro w0 m0 hm0
 refine ssr ?_
 refine St.alloc tz49 trivial rfl ?_
 intro b1
 refine sas rfl rfl ?_
 refine snn ?_
 refine ssr ?_
 refine smv rfl rfl ?_
 obtain ⟨q2, e3, hm⟩ := bS hm
 refine St.call [blk b1 (.cells #[.string (bs []), .int .i64 0, .int .i64 0] 49 (0, 0))] (m_strings_Cut_sp e3) rfl (fun _ ha => ev2 ha rfl rfl) rfl en74 rfl rfl trivial ?_
 rintro _ F4 _ ⟨rfl, rfl⟩ l5
 refine smv rfl rfl ?_
 refine sv (v := (.string (bs q2.1))) (Yields.extract rfl rfl) rfl ?_
 refine sv (v := (.string (bs q2.2.1))) (Yields.extract rfl rfl) rfl ?_
 refine sv (v := (.bool q2.2.2)) (Yields.extract rfl rfl) rfl ?_
 refine sas rfl rfl ?_
 refine sas rfl rfl ?_
 refine sas rfl rfl ?_
 refine snn ?_
 refine ssr ?_
 refine smv rfl rfl ?_
 obtain ⟨q6, e7, hm⟩ := bS hm
 refine St.call [blk b1 (.cells #[.string (bs []), .int .i64 0, .int .i64 0] 49 (0, 0))] (m_code_number_sp e7) rfl (fun _ ha => ev2 ha rfl rfl) rfl en11 rfl rfl trivial ?_
 rintro _ F8 _ ⟨rfl, rfl⟩ l9
 refine smv rfl rfl ?_
 refine sv (v := (.int .i64 q6.1)) (Yields.extract rfl rfl) rfl ?_
 refine sv (v := (.bool q6.2)) (Yields.extract rfl rfl) rfl ?_
 refine sas rfl rfl ?_
 refine sas rfl rfl ?_
 refine snn ?_
 refine St.seq ?_
 obtain ⟨z10, hm, hk11⟩ := bS hm
 refine St.cutI (fun a w => Has Tryz.f50.ntmps a [(2, .pointer (some ⟨b1, 0, none⟩)), (4, .string (bs q2.1)), (7, .int .i64 q6.1), (27, .bool z10)] ∧ Sat ⟨w0, fun b => m0 b ≠ none, F⟩ F8 [blk b1 (.cells #[.string (bs []), .int .i64 0, .int .i64 0] 49 (0, 0))] w) ?_ ?_
 ·skip
  refine St.region ?_
  by_cases q12 : q2.2.2 = true
  ·replace hm := iT hm q12
   have hb13 : (q2.2.2) = true := q12
   try rw [hb13]
   refine smv rfl rfl ?_
   refine sv (v := vF) (Yields.not_t rfl) rfl ?_
   refine smv rfl rfl ?_
   refine St.val (v := (.bool q6.2)) (Yields.move rfl) rfl rfl rfl ?_
   refine St.val (v := (.bool (!q6.2))) (Yields.not rfl) rfl rfl rfl ?_
   refine spf rfl rfl rfl ?_
   refine St.nil ?_
   obtain rfl := sI hm
   intro a w ha hs
   exact ⟨ha.covers ⟨rfl, rfl, rfl, rfl, trivial⟩, (Among.of (Among.take 0 rfl rfl Among.none) _ hs)⟩
  replace hm := iF hm q12
  have hb14 : (q2.2.2) = false := eq_false_of_ne_true q12
  try rw [hb14]
  refine smv rfl rfl ?_
  refine sv (v := vT) (Yields.not_f rfl) rfl ?_
  refine smv rfl rfl ?_
  refine su rfl rfl rfl ?_
  refine su rfl rfl rfl ?_
  refine spt rfl rfl rfl ?_
  refine St.nil ?_
  obtain rfl := sI hm
  intro a w ha hs
  exact ⟨ha.covers ⟨rfl, rfl, rfl, rfl, trivial⟩, (Among.of (Among.take 0 rfl rfl Among.none) _ hs)⟩
 rintro a w ⟨ha, hs⟩
 replace hm := hk11
 refine St.use (?_ : St _ _ _ _ _ _) ha hs
 clear ha hs a w
 refine St.cond_b rfl ?_ ?_
 ·intro q15
  replace q15 : z10 = true := q15
  replace hm := iT hm q15
  refine ssr ?_
  refine sv (v := (.agg #[.string (bs []), .int .i64 0, .int .i64 0])) (Yields.build (v := (.agg #[.string (bs []), .int .i64 0, .int .i64 0])) (vs := #[]) (fun a _ => by simp) (fun _ => by kernel_rfl)) rfl ?_
  refine St.storen (R := []) rfl rfl 0 rfl rfl ta49 rfl rfl rfl trivial (cs' := #[.string (bs []), .int .i64 0, .int .i64 0]) rfl ?_
  refine sas rfl rfl ?_
  refine snn ?_
  refine St.ret ?_
  refine St.thenret ?_
  obtain rfl := sI hm
  exact St.doneR2 rfl (ResOk.cell rfl (Loads.Hk (vs := [.string (bs []), .int .i64 0, .int .i64 0]) 0 rfl ta49 rfl rfl)) rfl ⟨rfl, rfl⟩ (fun w hs => Among.of Among.none w hs)
 intro q16
 replace q16 : ¬ (z10 = true) := bf q16
 replace hm := iF hm q16
 refine skn ?_
 refine St.seq ?_
 refine ssr ?_
 refine smv rfl rfl ?_
 obtain ⟨q17, e18, hm⟩ := bS hm
 refine St.call [blk b1 (.cells #[.string (bs []), .int .i64 0, .int .i64 0] 49 (0, 0))] (m_code_number_sp e18) rfl (fun _ ha => ev2 ha rfl rfl) rfl en11 rfl rfl trivial ?_
 rintro _ F19 _ ⟨rfl, rfl⟩ l20
 refine smv rfl rfl ?_
 refine sv (v := (.int .i64 q17.1)) (Yields.extract rfl rfl) rfl ?_
 refine sv (v := (.bool q17.2)) (Yields.extract rfl rfl) rfl ?_
 refine sas rfl rfl ?_
 refine sas rfl rfl ?_
 refine snn ?_
 refine ssr ?_
 refine smv rfl rfl ?_
 refine snn ?_
 refine St.cond_b rfl ?_ ?_
 ·intro q21
  replace q21 : q17.2 = true := q21
  replace hm := iT hm q21
  refine ssr ?_
  refine smv rfl rfl ?_
  refine smv rfl rfl ?_
  refine sv (v := (.agg #[.string (bs []), .int .i64 q17.1, .int .i64 q6.1])) (Yields.build (v := (.agg #[.string (bs []), .int .i64 q17.1, .int .i64 q6.1])) (vs := #[(1, .int .i64 q17.1), (2, .int .i64 q6.1)]) (fun _ ha => evp2 ha rfl rfl) (fun _ => by kernel_rfl)) rfl ?_
  refine St.storen (R := []) rfl rfl 0 rfl rfl ta49 rfl rfl rfl trivial (cs' := #[.string (bs []), .int .i64 q17.1, .int .i64 q6.1]) rfl ?_
  refine sas rfl rfl ?_
  refine snn ?_
  refine St.ret ?_
  refine St.thenret ?_
  obtain rfl := sI hm
  exact St.doneR2 rfl (ResOk.cell rfl (Loads.Hk (vs := [.string (bs []), .int .i64 q17.1, .int .i64 q6.1]) 0 rfl ta49 rfl rfl)) rfl ⟨rfl, rfl⟩ (fun w hs => Among.of Among.none w hs)
 intro q22
 replace q22 : ¬ (q17.2 = true) := bf q22
 replace hm := iF hm q22
 refine skn ?_
 obtain ⟨z23, hm, hk26⟩ := bS hm
 refine St.cutI (fun a w => ∃ (F24 : PH), PH.le F19 F24 ∧ Has Tryz.f50.ntmps a [(2, .pointer (some ⟨b1, 0, none⟩)), (3, .bool z23)] ∧ Sat ⟨w0, fun b => m0 b ≠ none, F⟩ F24 [blk b1 (.cells #[.string (bs q2.1), .int .i64 0, .int .i64 q6.1] 49 (0, 0))] w) ?_ ?_
 ·skip
  refine StD.start [4, 15] [blk b1 (.cells #[.string (bs []), .int .i64 0, .int .i64 0] 49 (0, 0))] hmix ?_
  refine sdp 0 (v := (.string (bs q2.1))) (listed' := #[true, false, false, false, false, false, false, false, false, false, false, false, false, false, false, false, false]) rfl (fun _ => Yields.move rfl) rfl (by kernel_rfl) rfl ?_
  refine sdp 1 (v := (.int .i64 q6.1)) (listed' := #[true, true, false, false, false, false, false, false, false, false, false, false, false, false, false, false, false]) rfl (fun _ => Yields.move rfl) rfl (by kernel_rfl) rfl ?_
  refine sdp 2 (v := (.agg #[.string (bs q2.1), .int .i64 0, .int .i64 q6.1])) (listed' := #[true, true, true, false, false, false, false, false, false, false, false, false, false, false, false, false, false]) rfl (fun _ => Yields.build (v := (.agg #[.string (bs q2.1), .int .i64 0, .int .i64 q6.1])) (vs := #[(0, .string (bs q2.1)), (2, .int .i64 q6.1)]) (fun _ ha => evp2 ha rfl rfl) (fun _ => by kernel_rfl)) rfl (by kernel_rfl) rfl ?_
  refine sdp 3 (v := (.string (bs q2.1))) (listed' := #[true, true, true, true, false, false, false, false, false, false, false, false, false, false, false, false, false]) rfl (fun _ => Yields.move rfl) rfl (by kernel_rfl) rfl ?_
  refine StD.only (i := 4) rfl (by kernel_rfl) (listed' := #[true, true, true, true, true, false, false, false, false, false, false, false, false, false, false, false, false]) rfl ?_
  intro hcl27
  obtain ⟨q28, e29, hm⟩ := bS hm
  refine St.call [blk b1 (.cells #[.string (bs []), .int .i64 0, .int .i64 0] 49 (0, 0))] (m_code_isWord_sp e29) rfl (fun _ ha => ev1 ha rfl) rfl en10 rfl rfl trivial ?_
  rintro _ F30 _ ⟨rfl, rfl⟩ l31
  refine StD.next hcl27 (fun h => by cases h) ?_
  by_cases q32 : q28 = true
  ·replace hm := iT hm q32
   have hb33 : (q28) = true := q32
   try rw [hb33]
   refine sdp 5 (v := (.bool true)) (listed' := #[true, true, true, true, true, true, false, false, false, false, false, false, false, false, false, false, false]) rfl (fun _ => Yields.move rfl) rfl (by kernel_rfl) rfl ?_
   refine StD.takeP (i := 6) (v := (.string (bs q2.1))) rfl (fun _ => Yields.move rfl) rfl rfl rfl CalmI.out (by kernel_rfl) (listed' := #[true, true, true, true, true, true, true, false, false, false, false, false, false, false, false, false, false]) rfl ?_
   obtain ⟨x34, e35, hm⟩ := bS hm
   refine StD.takeP (i := 7) (v := (.int .u8 ((x34.toNat : Nat) : Int))) rfl (fun _ => Yields.indexStr (nlit e35) tu9 rfl rfl) rfl rfl rfl CalmI.out (by kernel_rfl) (listed' := #[true, true, true, true, true, true, true, true, false, false, false, false, false, false, false, false, false]) rfl ?_
   by_cases q36 : ((x34.toNat : Nat) : Int) < 48
   ·replace hm := iT hm q36
    refine StD.takeP (i := 8) (v := (.bool true)) rfl (fun _ => Yields.is q36 (Yields.lt rfl rfl)) rfl rfl rfl CalmI.out (by kernel_rfl) (listed' := #[true, true, true, true, true, true, true, true, true, false, false, false, false, false, false, false, false]) rfl ?_
    refine StD.takeP (i := 9) (v := (.bool true)) rfl (fun _ => Yields.move rfl) rfl rfl rfl CalmI.out (by kernel_rfl) (listed' := #[true, true, true, true, true, true, true, true, true, true, false, false, false, false, false, false, false]) rfl ?_
    refine StD.takeNot (i := 10) rfl rfl rfl rfl CalmI.out (by kernel_rfl) (listed' := #[true, true, true, true, true, true, true, true, true, true, true, false, false, false, false, false, false]) rfl ?_
    refine StD.takeNot (i := 11) rfl rfl rfl rfl CalmI.out (by kernel_rfl) (listed' := #[true, true, true, true, true, true, true, true, true, true, true, true, false, false, false, false, false]) rfl ?_
    refine StD.takeNot (i := 12) rfl rfl rfl rfl CalmI.out (by kernel_rfl) (listed' := #[true, true, true, true, true, true, true, true, true, true, true, true, true, false, false, false, false]) rfl ?_
    refine StD.takeP (i := 13) (v := (.bool true)) rfl (fun _ => Yields.pick_t rfl rfl) rfl rfl rfl CalmI.out (by kernel_rfl) (listed' := #[true, true, true, true, true, true, true, true, true, true, true, true, true, true, false, false, false]) rfl ?_
    refine sdp 14 (v := (.bool true)) (listed' := #[true, true, true, true, true, true, true, true, true, true, true, true, true, true, true, false, false]) rfl (fun _ => Yields.pick_t rfl rfl) rfl (by kernel_rfl) rfl ?_
    refine StD.only (i := 15) rfl (by kernel_rfl) (listed' := #[true, true, true, true, true, true, true, true, true, true, true, true, true, true, true, true, false]) rfl ?_
    intro hcl37
    refine St.storen (R := []) rfl rfl 0 rfl rfl ta49 rfl rfl rfl trivial (cs' := #[.string (bs q2.1), .int .i64 0, .int .i64 q6.1]) rfl ?_
    refine StD.next hcl37 (fun h => by cases h) ?_
    refine sdp 16 (v := (.bool true)) (listed' := #[true, true, true, true, true, true, true, true, true, true, true, true, true, true, true, true, true]) rfl (fun _ => Yields.assign rfl) rfl (by kernel_rfl) rfl ?_
    refine StD.done (by kernel_rfl) ?_
    obtain rfl := sI hm
    intro a w ha hs
    exact ⟨F30, l31, ha.covers ⟨rfl, rfl, trivial⟩, (Among.of (Among.take 0 rfl rfl Among.none) _ hs)⟩
   replace hm := iF hm q36
   refine StD.takeP (i := 8) (v := (.bool false)) rfl (fun _ => Yields.isnt q36 (Yields.lt rfl rfl)) rfl rfl rfl CalmI.out (by kernel_rfl) (listed' := #[true, true, true, true, true, true, true, true, true, false, false, false, false, false, false, false, false]) rfl ?_
   refine StD.takeP (i := 9) (v := (.bool false)) rfl (fun _ => Yields.move rfl) rfl rfl rfl CalmI.out (by kernel_rfl) (listed' := #[true, true, true, true, true, true, true, true, true, true, false, false, false, false, false, false, false]) rfl ?_
   refine StD.takeP (i := 10) (v := (.string (bs q2.1))) rfl (fun _ => Yields.move rfl) rfl rfl rfl CalmI.out (by kernel_rfl) (listed' := #[true, true, true, true, true, true, true, true, true, true, true, false, false, false, false, false, false]) rfl ?_
   obtain ⟨x38, e39, hm⟩ := bS hm
   refine StD.takeP (i := 11) (v := (.int .u8 ((x38.toNat : Nat) : Int))) rfl (fun _ => Yields.indexStr (nlit e39) tu9 rfl rfl) rfl rfl rfl CalmI.out (by kernel_rfl) (listed' := #[true, true, true, true, true, true, true, true, true, true, true, true, false, false, false, false, false]) rfl ?_
   refine StD.takeP (i := 12) (v := (.bool (decide (((x38.toNat : Nat) : Int) > 57)))) rfl (fun _ => Yields.gt rfl rfl) rfl rfl rfl CalmI.out (by kernel_rfl) (listed' := #[true, true, true, true, true, true, true, true, true, true, true, true, true, false, false, false, false]) rfl ?_
   refine StD.takeP (i := 13) (v := (.bool (decide (((x38.toNat : Nat) : Int) > 57)))) rfl (fun _ => Yields.pick_f rfl rfl) rfl rfl rfl CalmI.out (by kernel_rfl) (listed' := #[true, true, true, true, true, true, true, true, true, true, true, true, true, true, false, false, false]) rfl ?_
   refine sdp 14 (v := (.bool (decide (((x38.toNat : Nat) : Int) > 57)))) (listed' := #[true, true, true, true, true, true, true, true, true, true, true, true, true, true, true, false, false]) rfl (fun _ => Yields.pick_t rfl rfl) rfl (by kernel_rfl) rfl ?_
   refine StD.only (i := 15) rfl (by kernel_rfl) (listed' := #[true, true, true, true, true, true, true, true, true, true, true, true, true, true, true, true, false]) rfl ?_
   intro hcl40
   refine St.storen (R := []) rfl rfl 0 rfl rfl ta49 rfl rfl rfl trivial (cs' := #[.string (bs q2.1), .int .i64 0, .int .i64 q6.1]) rfl ?_
   refine StD.next hcl40 (fun h => by cases h) ?_
   refine sdp 16 (v := (.bool (decide (((x38.toNat : Nat) : Int) > 57)))) (listed' := #[true, true, true, true, true, true, true, true, true, true, true, true, true, true, true, true, true]) rfl (fun _ => Yields.assign rfl) rfl (by kernel_rfl) rfl ?_
   refine StD.done (by kernel_rfl) ?_
   obtain rfl := sI hm
   intro a w ha hs
   exact ⟨F30, l31, ha.covers ⟨rfl, rfl, trivial⟩, (Among.of (Among.take 0 rfl rfl Among.none) _ hs)⟩
  replace hm := iF hm q32
  have hb41 : (q28) = false := eq_false_of_ne_true q32
  try rw [hb41]
  refine sdp 5 (v := (.bool false)) (listed' := #[true, true, true, true, true, true, false, false, false, false, false, false, false, false, false, false, false]) rfl (fun _ => Yields.move rfl) rfl (by kernel_rfl) rfl ?_
  refine StD.takeNot (i := 6) rfl rfl rfl rfl CalmI.out (by kernel_rfl) (listed' := #[true, true, true, true, true, true, true, false, false, false, false, false, false, false, false, false, false]) rfl ?_
  refine StD.takeNot (i := 7) rfl rfl rfl rfl CalmI.out (by kernel_rfl) (listed' := #[true, true, true, true, true, true, true, true, false, false, false, false, false, false, false, false, false]) rfl ?_
  refine StD.takeNot (i := 8) rfl rfl rfl rfl CalmI.out (by kernel_rfl) (listed' := #[true, true, true, true, true, true, true, true, true, false, false, false, false, false, false, false, false]) rfl ?_
  refine StD.takeNot (i := 9) rfl rfl rfl rfl CalmI.out (by kernel_rfl) (listed' := #[true, true, true, true, true, true, true, true, true, true, false, false, false, false, false, false, false]) rfl ?_
  refine StD.takeNot (i := 10) rfl trivial rfl rfl CalmI.out (by kernel_rfl) (listed' := #[true, true, true, true, true, true, true, true, true, true, true, false, false, false, false, false, false]) rfl ?_
  refine StD.takeNot (i := 11) rfl trivial rfl rfl CalmI.out (by kernel_rfl) (listed' := #[true, true, true, true, true, true, true, true, true, true, true, true, false, false, false, false, false]) rfl ?_
  refine StD.takeNot (i := 12) rfl trivial rfl rfl CalmI.out (by kernel_rfl) (listed' := #[true, true, true, true, true, true, true, true, true, true, true, true, true, false, false, false, false]) rfl ?_
  refine StD.takeNot (i := 13) rfl rfl rfl rfl CalmI.out (by kernel_rfl) (listed' := #[true, true, true, true, true, true, true, true, true, true, true, true, true, true, false, false, false]) rfl ?_
  refine sdp 14 (v := (.bool false)) (listed' := #[true, true, true, true, true, true, true, true, true, true, true, true, true, true, true, false, false]) rfl (fun _ => Yields.pick_f rfl rfl) rfl (by kernel_rfl) rfl ?_
  refine StD.only (i := 15) rfl (by kernel_rfl) (listed' := #[true, true, true, true, true, true, true, true, true, true, true, true, true, true, true, true, false]) rfl ?_
  intro hcl42
  refine St.storen (R := []) rfl rfl 0 rfl rfl ta49 rfl rfl rfl trivial (cs' := #[.string (bs q2.1), .int .i64 0, .int .i64 q6.1]) rfl ?_
  refine StD.next hcl42 (fun h => by cases h) ?_
  refine sdp 16 (v := (.bool false)) (listed' := #[true, true, true, true, true, true, true, true, true, true, true, true, true, true, true, true, true]) rfl (fun _ => Yields.assign rfl) rfl (by kernel_rfl) rfl ?_
  refine StD.done (by kernel_rfl) ?_
  obtain rfl := sI hm
  intro a w ha hs
  exact ⟨F30, l31, ha.covers ⟨rfl, rfl, trivial⟩, (Among.of (Among.take 0 rfl rfl Among.none) _ hs)⟩
 rintro a w ⟨F24, l25, ha, hs⟩
 replace hm := hk26
 refine St.use (?_ : St _ _ _ _ _ _) ha hs
 clear ha hs a w
 refine St.ret ?_
 obtain rfl := sI hm
 exact St.doneR2 rfl (ResOk.cell rfl (Loads.Hk (vs := [.string (bs q2.1), .int .i64 0, .int .i64 q6.1]) 0 rfl ta49 rfl rfl)) rfl ⟨rfl, rfl⟩ (fun w hs => Among.of Among.none w hs)
theorem m_code_match_sp {F : PH} {g : Nat} {a0 : List (List UInt8)} {pA0 : Option Addr} {pc0 : Nat} (ph0 : Fsl 16 Kind.str F pA0 pc0 a0) {r : Int × Int × Int × Int × List UInt8 × List DJump × Bool} (hm : m_code_match g a0 = some r) :
  CallSp Tryz.prog 24 #[.slice pA0 a0.length pc0] F [] (fun u F' H' => ∃ (B5 : Option Addr) (d5 : Nat), u = (.tuple #[.agg #[.int .i64 r.1, .int .i64 r.2.1, .int .i64 r.2.2.1, .int .i64 r.2.2.2.1, .string (bs r.2.2.2.2.1), .slice none 0 0, .slice B5 r.2.2.2.2.2.1.length d5], .bool r.2.2.2.2.2.2]) ∧ Fsl 32 KDJump F' B5 d5 r.2.2.2.2.2.1 ∧ H' = []) := by

 unfold m_code_match at hm
 refine CallSp.enter (args := [.slice pA0 a0.length pc0]) Tryz.func24 rfl rfl ?_
 intro w0 m0 hm0
 refine ssr ?_
 refine St.alloc tz40 trivial rfl ?_
 intro b2
 refine sas rfl rfl ?_
 refine snn ?_
 refine St.seq ?_
 refine ssr ?_
 refine smv rfl rfl ?_
 refine sv (v := (.int .i64 ((a0.length : Nat) : Int))) (Yields.lenSlice tu29 rfl) rfl ?_
 refine sv (v := (.bool (decide (((a0.length : Nat) : Int) < 2)))) (Yields.lt rfl rfl) rfl ?_
 refine snn ?_
 refine St.cond_b rfl ?_ ?_
 ·intro q3
  replace q3 : ((a0.length : Nat) : Int) < 2 := of_decide_eq_true q3
  replace hm := iT hm q3
  refine ssr ?_
  refine sv (v := (.agg #[.int .i64 0, .int .i64 0, .int .i64 0, .int .i64 0, .string (bs []), .slice none 0 0, .slice none 0 0])) (Yields.build (v := (.agg #[.int .i64 0, .int .i64 0, .int .i64 0, .int .i64 0, .string (bs []), .slice none 0 0, .slice none 0 0])) (vs := #[]) (fun a _ => by simp) (fun _ => by kernel_rfl)) rfl ?_
  refine St.storen (R := []) rfl rfl 0 rfl rfl ta40 rfl rfl rfl trivial (cs' := #[.int .i64 0, .int .i64 0, .int .i64 0, .int .i64 0, .string (bs []), .slice none 0 0, .slice none 0 0]) rfl ?_
  refine sas rfl rfl ?_
  refine snn ?_
  refine St.ret ?_
  refine St.thenret ?_
  obtain rfl := sI hm
  exact St.doneR2 rfl (ResOk.cell rfl (Loads.Hk (vs := [.int .i64 0, .int .i64 0, .int .i64 0, .int .i64 0, .string (bs []), .slice none 0 0, .slice none 0 0]) 0 rfl ta40 rfl rfl)) rfl ⟨none, 0, rfl, Fsl.nil, rfl⟩ (fun w hs => Among.of Among.none w hs)
 intro q4
 replace q4 : ¬ (((a0.length : Nat) : Int) < 2) := of_decide_eq_false q4
 replace hm := iF hm q4
 refine skn ?_
 refine ssr ?_
 refine smv rfl rfl ?_
 obtain ⟨x9, e10, hm⟩ := bS hm
 obtain ⟨A5, c6, s7, h8⟩ := ph0.subx e10
 refine sv (v := (.slice A5 x9.length c6)) (Yields.subT s7 ts29 rfl rfl) rfl ?_
 obtain ⟨q12, e13, hm⟩ := bS hm
 refine St.call [blk b2 (.cells #[.int .i64 0, .int .i64 0, .int .i64 0, .int .i64 0, .string (bs []), .slice none 0 0, .slice none 0 0] 40 (0, 0))] (m_code_numbers_sp h8 e13) rfl (fun _ ha => ev1 ha rfl) rfl en25 rfl rfl trivial ?_
 rintro _ F14 _ ⟨A16, c17, rfl, h18, rfl⟩ l15
 refine smv rfl rfl ?_
 refine sv (v := (.slice A16 q12.1.length c17)) (Yields.extract rfl rfl) rfl ?_
 refine sv (v := (.bool q12.2)) (Yields.extract rfl rfl) rfl ?_
 refine sas rfl rfl ?_
 refine sas rfl rfl ?_
 refine snn ?_
 refine St.seq ?_
 refine ssr ?_
 refine smv rfl rfl ?_
 refine sv (v := (.bool (!q12.2))) (Yields.not rfl) rfl ?_
 refine snn ?_
 refine St.cond_b rfl ?_ ?_
 ·intro q20
  replace q20 : ¬ (q12.2 = true) := nb_t q20
  replace hm := iF hm q20
  refine ssr ?_
  refine sv (v := (.agg #[.int .i64 0, .int .i64 0, .int .i64 0, .int .i64 0, .string (bs []), .slice none 0 0, .slice none 0 0])) (Yields.build (v := (.agg #[.int .i64 0, .int .i64 0, .int .i64 0, .int .i64 0, .string (bs []), .slice none 0 0, .slice none 0 0])) (vs := #[]) (fun a _ => by simp) (fun _ => by kernel_rfl)) rfl ?_
  refine St.storen (R := []) rfl rfl 0 rfl rfl ta40 rfl rfl rfl trivial (cs' := #[.int .i64 0, .int .i64 0, .int .i64 0, .int .i64 0, .string (bs []), .slice none 0 0, .slice none 0 0]) rfl ?_
  refine sas rfl rfl ?_
  refine snn ?_
  refine St.ret ?_
  refine St.thenret ?_
  obtain rfl := sI hm
  exact St.doneR2 rfl (ResOk.cell rfl (Loads.Hk (vs := [.int .i64 0, .int .i64 0, .int .i64 0, .int .i64 0, .string (bs []), .slice none 0 0, .slice none 0 0]) 0 rfl ta40 rfl rfl)) rfl ⟨none, 0, rfl, Fsl.nil, rfl⟩ (fun w hs => Among.of Among.none w hs)
 intro q21
 replace q21 : q12.2 = true := nb_f q21
 replace hm := iT hm q21
 refine skn ?_
 refine St.seq ?_
 refine StD.start [8] [blk b2 (.cells #[.int .i64 0, .int .i64 0, .int .i64 0, .int .i64 0, .string (bs []), .slice none 0 0, .slice none 0 0] 40 (0, 0))] hmix ?_
 refine sdp 0 (v := (.slice A16 q12.1.length c17)) (listed' := #[true, false, false, false, false, false, false, false, false]) rfl (fun _ => Yields.move rfl) rfl (by kernel_rfl) rfl ?_
 obtain ⟨x22, e23, hm⟩ := bS hm
 replace e23 := nlit e23
 obtain ⟨p24, cs25, jx26, R27, k28⟩ := h18.idx e23
 obtain rfl := R27
 refine sdp 1 (v := (.pointer (some p24))) (listed' := #[true, true, false, false, false, false, false, false, false]) rfl (fun _ => Yields.idx jx26 ts37 rfl rfl) rfl (by kernel_rfl) rfl ?_
 refine sdt [0, 1, 3, 4, 6] 2 (v := (.int .i64 x22)) (listed' := #[true, true, true, false, false, false, false, false, false]) rfl (Yields.load rfl (Loads.Fat k28 tc3 rfl)) rfl Among.refl (by kernel_rfl) rfl ?_
 refine sdp 3 (v := (.slice A16 q12.1.length c17)) (listed' := #[true, true, true, true, false, false, false, false, false]) rfl (fun _ => Yields.move rfl) rfl (by kernel_rfl) rfl ?_
 obtain ⟨x29, e30, hm⟩ := bS hm
 replace e30 := nlit e30
 obtain ⟨p31, cs32, jx33, R34, k35⟩ := h18.idx e30
 obtain rfl := R34
 refine sdp 4 (v := (.pointer (some p31))) (listed' := #[true, true, true, true, true, false, false, false, false]) rfl (fun _ => Yields.idx jx33 ts37 rfl rfl) rfl (by kernel_rfl) rfl ?_
 refine sdt [0, 1, 3, 4, 6] 5 (v := (.int .i64 x29)) (listed' := #[true, true, true, true, true, true, false, false, false]) rfl (Yields.load rfl (Loads.Fat k35 tc3 rfl)) rfl Among.refl (by kernel_rfl) rfl ?_
 refine sdp 6 (v := (.agg #[.int .i64 1, .int .i64 x22, .int .i64 x29, .int .i64 0, .string (bs []), .slice none 0 0, .slice none 0 0])) (listed' := #[true, true, true, true, true, true, true, false, false]) rfl (fun _ => Yields.build (v := (.agg #[.int .i64 1, .int .i64 x22, .int .i64 x29, .int .i64 0, .string (bs []), .slice none 0 0, .slice none 0 0])) (vs := #[(0, .int .i64 1), (1, .int .i64 x22), (2, .int .i64 x29)]) (fun _ ha => evp3 ha rfl rfl rfl) (fun _ => by kernel_rfl)) rfl (by kernel_rfl) rfl ?_
 refine StD.only (i := 7) rfl (by kernel_rfl) (listed' := #[true, true, true, true, true, true, true, true, false]) rfl ?_
 intro hcl36
 refine St.alloc tz40 trivial rfl ?_
 intro b37
 refine StD.next hcl36 (fun _ => (Among.of (Among.take 1 rfl rfl Among.none))) ?_
 refine StD.only (i := 8) rfl (by kernel_rfl) (listed' := #[true, true, true, true, true, true, true, true, true]) rfl ?_
 intro hcl38
 refine St.storen (R := [blk b2 (.cells #[.int .i64 0, .int .i64 0, .int .i64 0, .int .i64 0, .string (bs []), .slice none 0 0, .slice none 0 0] 40 (0, 0))]) rfl rfl 0 rfl rfl ta40 rfl rfl rfl trivial (cs' := #[.int .i64 1, .int .i64 x22, .int .i64 x29, .int .i64 0, .string (bs []), .slice none 0 0, .slice none 0 0]) rfl ?_
 refine StD.next hcl38 (fun h => by cases h) ?_
 refine StD.done (by kernel_rfl) ?_
 refine St.norm ?_
 obtain ⟨o48, hm, ho49⟩ := jS hm
 refine St.cutI (fun a w => ∃ z39 : List DJump, o48 = .inl z39 ∧ ∃ (A43 : Option Addr) (c44 : Nat) (cells46 : List Value) (F40 : PH), PH.le F14 F40 ∧ Cat KDJump F40 cells46 z39 ∧ Bnd 32 z39 ∧ Has Tryz.f24.ntmps a [(2, .pointer (some ⟨b2, 0, none⟩)), (6, .pointer (some ⟨b37, 0, none⟩))] ∧ Sat ⟨w0, fun b => m0 b ≠ none, F⟩ F40 [blk b2 (.cells #[.int .i64 0, .int .i64 0, .int .i64 0, .int .i64 0, .string (bs []), .slice none 0 0, .slice none 0 0] 40 (0, 0)), blk b37 (.cells #[.int .i64 1, .int .i64 x22, .int .i64 x29, .int .i64 0, .string (bs []), .slice none 0 0, .slice A43 z39.length c44] 40 (0, 0)), rowo A43 z39.length c44 49 3 cells46] w) ?_ ?_
 ·skip
  refine ssr ?_
  refine smv rfl rfl ?_
  obtain ⟨x54, e55, hm⟩ := bS hm
  obtain ⟨A50, c51, s52, h53⟩ := (Fsl.mono l15 ph0).subx e55
  refine sv (v := (.slice A50 x54.length c51)) (Yields.subD s52 ts29 rfl rfl) rfl ?_
  refine sv (v := (.int .i64 ((x54.length : Nat) : Int))) (Yields.lenSlice tu29 rfl) rfl ?_
  refine smv rfl rfl ?_
  refine snn ?_
  refine St.block ?_
  refine St.loopM hm (fun s66 a w => ∃ (A71 : Option Addr) (c72 : Nat) (cells74 : List Value) (F76 : PH), PH.le F14 F76 ∧ Cat KDJump F76 cells74 s66.1 ∧ Bnd 32 s66.1 ∧ Has Tryz.f24.ntmps a [(2, .pointer (some ⟨b2, 0, none⟩)), (6, .pointer (some ⟨b37, 0, none⟩)), (32, .slice A50 x54.length c51), (33, .int .i64 ((x54.length : Nat) : Int)), (34, .int .i64 ((s66.2 : Nat) : Int))] ∧ Sat ⟨w0, fun b => m0 b ≠ none, F⟩ F76 [blk b2 (.cells #[.int .i64 0, .int .i64 0, .int .i64 0, .int .i64 0, .string (bs []), .slice none 0 0, .slice none 0 0] 40 (0, 0)), blk b37 (.cells #[.int .i64 1, .int .i64 x22, .int .i64 x29, .int .i64 0, .string (bs []), .slice none 0 0, .slice A71 s66.1.length c72] 40 (0, 0)), rowo A71 s66.1.length c72 49 3 cells74] w) ?_ ?_
  ·skip
   refine St.rowo_new 49 3 ?_
   intro a w ha hs
   exact ⟨none, 0, [], F14, (PH.le_refl _), (show Cat KDJump _ [] [] from rfl), Bnd.of_nil, ha.covers ⟨rfl, rfl, rfl, rfl, rfl, trivial⟩, (Among.of (Among.take 2 rfl rfl (Among.take 1 rfl rfl (Among.take 0 rfl rfl Among.none))) _ hs)⟩
  rintro s66 o67 co68 hm ho69 a w ⟨A71, c72, cells74, F76, l77, h73, b75, ha, hs⟩
  refine St.use (?_ : St _ _ _ _ _ _) ha hs
  clear ha hs a w
  refine ssr ?_
  refine sv (v := (.bool (decide (((s66.2 : Nat) : Int) < ((x54.length : Nat) : Int))))) (Yields.lt rfl rfl) rfl ?_
  refine snn ?_
  refine St.seq ?_
  refine St.cond_b rfl ?_ ?_
  ·intro q79
   replace q79 : ((s66.2 : Nat) : Int) < ((x54.length : Nat) : Int) := of_decide_eq_true q79
   replace hm := iT hm q79
   refine skn ?_
   refine St.seq ?_
   refine St.block ?_
   refine ssr ?_
   obtain ⟨x80, e81, hm⟩ := bS hm
   obtain ⟨p82, cs83, jx84, R85, k86⟩ := (Fsl.mono l77 h53).nidx e81
   obtain rfl := R85
   refine sv (v := (.pointer (some p82))) (Yields.idx jx84 ts29 rfl rfl) rfl ?_
   refine sv (v := (.string (bs x80))) (Yields.load rfl (Loads.Fat k86 tc9 rfl)) rfl ?_
   refine sas rfl rfl ?_
   refine snn ?_
   refine ssr ?_
   refine smv rfl rfl ?_
   obtain ⟨q87, e88, hm⟩ := bS hm
   refine St.call [blk b2 (.cells #[.int .i64 0, .int .i64 0, .int .i64 0, .int .i64 0, .string (bs []), .slice none 0 0, .slice none 0 0] 40 (0, 0)), blk b37 (.cells #[.int .i64 1, .int .i64 x22, .int .i64 x29, .int .i64 0, .string (bs []), .slice none 0 0, .slice A71 s66.1.length c72] 40 (0, 0)), rowo A71 s66.1.length c72 49 3 cells74] (m_code_jump_sp e88) rfl (fun _ ha => ev1 ha rfl) rfl en50 rfl rfl trivial ?_
   rintro _ F89 _ ⟨rfl, rfl⟩ l90
   refine smv rfl rfl ?_
   refine sv (v := (.agg #[.string (bs q87.1.Name), .int .i64 q87.1.N, .int .i64 q87.1.To])) (Yields.extract rfl rfl) rfl ?_
   refine sv (v := (.bool q87.2)) (Yields.extract rfl rfl) rfl ?_
   refine St.alloc tz49 trivial rfl ?_
   intro b91
   refine St.storen (R := [blk b2 (.cells #[.int .i64 0, .int .i64 0, .int .i64 0, .int .i64 0, .string (bs []), .slice none 0 0, .slice none 0 0] 40 (0, 0)), blk b37 (.cells #[.int .i64 1, .int .i64 x22, .int .i64 x29, .int .i64 0, .string (bs []), .slice none 0 0, .slice A71 s66.1.length c72] 40 (0, 0)), rowo A71 s66.1.length c72 49 3 cells74]) rfl rfl 0 rfl rfl ta49 rfl rfl rfl trivial (cs' := #[.string (bs q87.1.Name), .int .i64 q87.1.N, .int .i64 q87.1.To]) rfl ?_
   refine sas rfl rfl ?_
   refine snn ?_
   refine St.seq ?_
   refine ssr ?_
   refine smv rfl rfl ?_
   refine sv (v := (.bool (!q87.2))) (Yields.not rfl) rfl ?_
   refine snn ?_
   refine St.cond_b rfl ?_ ?_
   ·intro q92
    replace q92 : ¬ (q87.2 = true) := nb_t q92
    replace hm := iF hm q92
    refine ssr ?_
    refine sv (v := (.agg #[.int .i64 0, .int .i64 0, .int .i64 0, .int .i64 0, .string (bs []), .slice none 0 0, .slice none 0 0])) (Yields.build (v := (.agg #[.int .i64 0, .int .i64 0, .int .i64 0, .int .i64 0, .string (bs []), .slice none 0 0, .slice none 0 0])) (vs := #[]) (fun a _ => by simp) (fun _ => by kernel_rfl)) rfl ?_
    refine St.storen (R := [blk b91 (.cells #[.string (bs q87.1.Name), .int .i64 q87.1.N, .int .i64 q87.1.To] 49 (0, 0)), blk b37 (.cells #[.int .i64 1, .int .i64 x22, .int .i64 x29, .int .i64 0, .string (bs []), .slice none 0 0, .slice A71 s66.1.length c72] 40 (0, 0)), rowo A71 s66.1.length c72 49 3 cells74]) rfl rfl 1 rfl rfl ta40 rfl rfl rfl trivial (cs' := #[.int .i64 0, .int .i64 0, .int .i64 0, .int .i64 0, .string (bs []), .slice none 0 0, .slice none 0 0]) rfl ?_
    refine sas rfl rfl ?_
    refine snn ?_
    refine St.ret ?_
    refine St.thenret ?_
    refine St.inret ?_
    refine St.thenret ?_
    refine St.thenret ?_
    refine St.inret ?_
    refine St.thenret ?_
    obtain rfl := sI hm
    obtain rfl := aR ho69
    obtain rfl := aR ho49
    exact St.doneR2 rfl (ResOk.cell rfl (Loads.Hk (vs := [.int .i64 0, .int .i64 0, .int .i64 0, .int .i64 0, .string (bs []), .slice none 0 0, .slice none 0 0]) 0 rfl ta40 rfl rfl)) rfl ⟨none, 0, rfl, Fsl.nil, rfl⟩ (fun w hs => Among.of Among.none w hs)
   intro q93
   replace q93 : q87.2 = true := nb_f q93
   replace hm := iT hm q93
   refine skn ?_
   refine St.region ?_
   refine sfa (v := (.pointer (some ⟨b37, 6, none⟩))) rfl (fun _ => by kernel_rfl) rfl ?_
   refine sv (v := (.slice A71 s66.1.length c72)) (Yields.load rfl (Loads.H1 2 rfl tc38 rfl)) rfl ?_
   refine sv (v := (.agg #[.string (bs q87.1.Name), .int .i64 q87.1.N, .int .i64 q87.1.To])) (Yields.load rfl (Loads.Hk (vs := [.string (bs q87.1.Name), .int .i64 q87.1.N, .int .i64 q87.1.To]) 0 rfl ta49 rfl rfl)) rfl ?_
   refine St.buildSlice (e := 49) (cells := #[.string (bs q87.1.Name), .int .i64 q87.1.N, .int .i64 q87.1.To]) (vs := #[(0, .agg #[.string (bs q87.1.Name), .int .i64 q87.1.N, .int .i64 q87.1.To])]) (fun _ ha => evp1 ha rfl) (fun _ => by kernel_rfl) rfl trivial ?_
   intro b94
   obtain ⟨x99, e100, hm⟩ := bS hm
   refine St.pushL (R := [blk b94 (.cells #[.string (bs q87.1.Name), .int .i64 q87.1.N, .int .i64 q87.1.To] 49 (0, 0)), blk b91 (.cells #[.string (bs q87.1.Name), .int .i64 q87.1.N, .int .i64 q87.1.To] 49 (0, 0)), blk b2 (.cells #[.int .i64 0, .int .i64 0, .int .i64 0, .int .i64 0, .string (bs []), .slice none 0 0, .slice none 0 0] 40 (0, 0)), blk b37 (.cells #[.int .i64 1, .int .i64 x22, .int .i64 x29, .int .i64 0, .string (bs []), .slice none 0 0, .slice A71 s66.1.length c72] 40 (0, 0))]) (R3 := [blk b91 (.cells #[.string (bs q87.1.Name), .int .i64 q87.1.N, .int .i64 q87.1.To] 49 (0, 0)), blk b2 (.cells #[.int .i64 0, .int .i64 0, .int .i64 0, .int .i64 0, .string (bs []), .slice none 0 0, .slice none 0 0] 40 (0, 0)), blk b37 (.cells #[.int .i64 1, .int .i64 x22, .int .i64 x29, .int .i64 0, .string (bs []), .slice none 0 0, .slice A71 s66.1.length c72] 40 (0, 0))]) e100 ts38 rfl rfl rfl rfl rfl 4 rfl rfl 0 rfl 0 rfl rfl (Cat.mono l90 h73) ⟨[.string (bs q87.1.Name), .int .i64 q87.1.N, .int .i64 q87.1.To], _, rfl, (DJump.of), rfl⟩ rfl trivial ?_
   intro A95 c96 cells97 h98
   refine sfa (v := (.pointer (some ⟨b37, 6, none⟩))) rfl (fun _ => by kernel_rfl) rfl ?_
   refine St.store (R := [rowo A95 x99.length c96 49 3 cells97, blk b91 (.cells #[.string (bs q87.1.Name), .int .i64 q87.1.N, .int .i64 q87.1.To] 49 (0, 0)), blk b2 (.cells #[.int .i64 0, .int .i64 0, .int .i64 0, .int .i64 0, .string (bs []), .slice none 0 0, .slice none 0 0] 40 (0, 0))]) rfl rfl 3 rfl rfl tc38 rfl rfl trivial (cs' := #[.int .i64 1, .int .i64 x22, .int .i64 x29, .int .i64 0, .string (bs []), .slice none 0 0, .slice A95 x99.length c96]) rfl ?_
   refine St.nil ?_
   refine St.innorm ?_
   refine St.norm ?_
   refine St.region ?_
   refine sv (v := (.int .i64 ((s66.2 + 1 : Nat) : Int))) (Yields.addn (j := 1) rfl rfl rfl (by have q_0 := q79; have q_1 := h53.bnd.2; omega)) rfl ?_
   refine smv rfl rfl ?_
   refine snn ?_
   obtain rfl := sI hm
   intro a w ha hs
   exact ⟨(x99, s66.2 + 1), aL ho69, A95, c96, cells97, F89, (PH.le_trans l77 l90), h98, (Bnd.of_push e100), ha.covers ⟨rfl, rfl, rfl, rfl, rfl, trivial⟩, (Among.of (Among.take 3 rfl rfl (Among.take 0 rfl rfl (Among.take 0 rfl rfl Among.none))) _ hs)⟩
  intro q102
  replace q102 : ¬ (((s66.2 : Nat) : Int) < ((x54.length : Nat) : Int)) := of_decide_eq_false q102
  replace hm := iF hm q102
  refine St.exit ?_
  refine St.thenexit ?_
  refine St.thenexit ?_
  refine St.inexit ?_
  obtain rfl := sI hm
  obtain rfl := aR ho69
  intro a w ha hs
  exact ⟨s66.1, rfl, A71, c72, cells74, F76, l77, h73, b75, ha.covers ⟨rfl, rfl, trivial⟩, (Among.of (Among.take 0 rfl rfl (Among.take 0 rfl rfl (Among.take 0 rfl rfl Among.none))) _ hs)⟩
 rintro a w ⟨z39, rfl, A43, c44, cells46, F40, l41, h45, b47, ha, hs⟩
 replace hm := aL ho49
 refine St.use (?_ : St _ _ _ _ _ _) ha hs
 clear ha hs a w
 refine ssr ?_
 refine sv (v := (.agg #[.int .i64 1, .int .i64 x22, .int .i64 x29, .int .i64 0, .string (bs []), .slice none 0 0, .slice A43 z39.length c44])) (Yields.load rfl (Loads.Hk (vs := [.int .i64 1, .int .i64 x22, .int .i64 x29, .int .i64 0, .string (bs []), .slice none 0 0, .slice A43 z39.length c44]) 1 rfl ta40 rfl rfl)) rfl ?_
 refine St.storen (R := [blk b37 (.cells #[.int .i64 1, .int .i64 x22, .int .i64 x29, .int .i64 0, .string (bs []), .slice none 0 0, .slice A43 z39.length c44] 40 (0, 0)), rowo A43 z39.length c44 49 3 cells46]) rfl rfl 0 rfl rfl ta40 rfl rfl rfl trivial (cs' := #[.int .i64 1, .int .i64 x22, .int .i64 x29, .int .i64 0, .string (bs []), .slice none 0 0, .slice A43 z39.length c44]) rfl ?_
 refine sas rfl rfl ?_
 refine snn ?_
 refine St.ret ?_
 refine St.frz 2 rfl rfl rfl h45 b47 ?_
 intro F103 l104 h105
 obtain rfl := sI hm
 exact St.doneR2 rfl (ResOk.cell rfl (Loads.Hk (vs := [.int .i64 1, .int .i64 x22, .int .i64 x29, .int .i64 0, .string (bs []), .slice none 0 0, .slice A43 z39.length c44]) 0 rfl ta40 rfl rfl)) rfl ⟨A43, c44, rfl, h105, rfl⟩ (fun w hs => Among.of Among.none w hs)
theorem m_code_node_sp {F : PH} {g : Nat} {a0 : List UInt8} {a1 : List (List UInt8)} {pA1 : Option Addr} {pc1 : Nat} (ph1 : Fsl 16 Kind.str F pA1 pc1 a1) {r : Int × Int × Int × Int × List UInt8 × List Int × Bool} (hm : m_code_node g a0 a1 = some r) :
  CallSp Tryz.prog 26 #[.string (bs a0), .slice pA1 a1.length pc1] F [] (fun u F' H' => ∃ (B5 : Option Addr) (d5 : Nat), u = (.tuple #[.agg #[.int .i64 r.1, .int .i64 r.2.1, .int .i64 r.2.2.1, .int .i64 r.2.2.2.1, .string (bs r.2.2.2.2.1), .slice B5 r.2.2.2.2.2.1.length d5, .slice none 0 0], .bool r.2.2.2.2.2.2]) ∧ Fsl 8 (Kind.int .i64) F' B5 d5 r.2.2.2.2.2.1 ∧ H' = []) := by

 unfold m_code_node at hm
 refine CallSp.enter (args := [.string (bs a0), .slice pA1 a1.length pc1]) Tryz.func26 rfl rfl ?_
 intro w0 m0 hm0
 refine ssr ?_
 refine St.alloc tz40 trivial rfl ?_
 intro b2
 refine sas rfl rfl ?_
 refine snn ?_
 refine ssr ?_
 refine St.newMap (P := Tryz.prog) keyStr trivial rfl ?_
 intro b3
 obtain ⟨x5, e6, hm⟩ := bS hm
 refine St.mapInsK (R := [blk b2 (.cells #[.int .i64 0, .int .i64 0, .int .i64 0, .int .i64 0, .string (bs []), .slice none 0 0, .slice none 0 0] 40 (0, 0))]) e6 (show Mrel (Kind.int .i64) false _ [] ([] : List ((List UInt8) × Int)) from trivial) ⟨[.int .i64 1], rfl, rfl⟩ rfl rfl rfl 0 rfl rfl tm79 tk79 trivial ?_
 intro vs7 h8
 obtain ⟨x10, e11, hm⟩ := bS hm
 refine St.mapInsK (R := [blk b2 (.cells #[.int .i64 0, .int .i64 0, .int .i64 0, .int .i64 0, .string (bs []), .slice none 0 0, .slice none 0 0] 40 (0, 0))]) e11 h8 ⟨[.int .i64 3], rfl, rfl⟩ rfl rfl rfl 0 rfl rfl tm79 tk79 trivial ?_
 intro vs12 h13
 obtain ⟨x15, e16, hm⟩ := bS hm
 refine St.mapInsK (R := [blk b2 (.cells #[.int .i64 0, .int .i64 0, .int .i64 0, .int .i64 0, .string (bs []), .slice none 0 0, .slice none 0 0] 40 (0, 0))]) e16 h13 ⟨[.int .i64 2], rfl, rfl⟩ rfl rfl rfl 0 rfl rfl tm79 tk79 trivial ?_
 intro vs17 h18
 obtain ⟨x20, e21, hm⟩ := bS hm
 refine St.mapInsK (R := [blk b2 (.cells #[.int .i64 0, .int .i64 0, .int .i64 0, .int .i64 0, .string (bs []), .slice none 0 0, .slice none 0 0] 40 (0, 0))]) e21 h18 ⟨[.int .i64 4], rfl, rfl⟩ rfl rfl rfl 0 rfl rfl tm79 tk79 trivial ?_
 intro vs22 h23
 obtain ⟨x25, e26, hm⟩ := bS hm
 refine St.mapInsK (R := [blk b2 (.cells #[.int .i64 0, .int .i64 0, .int .i64 0, .int .i64 0, .string (bs []), .slice none 0 0, .slice none 0 0] 40 (0, 0))]) e26 h23 ⟨[.int .i64 5], rfl, rfl⟩ rfl rfl rfl 0 rfl rfl tm79 tk79 trivial ?_
 intro vs27 h28
 obtain ⟨x30, e31, hm⟩ := bS hm
 refine St.mapInsK (R := [blk b2 (.cells #[.int .i64 0, .int .i64 0, .int .i64 0, .int .i64 0, .string (bs []), .slice none 0 0, .slice none 0 0] 40 (0, 0))]) e31 h28 ⟨[.int .i64 7], rfl, rfl⟩ rfl rfl rfl 0 rfl rfl tm79 tk79 trivial ?_
 intro vs32 h33
 refine smv rfl rfl ?_
 refine sas rfl rfl ?_
 refine snn ?_
 refine ssr ?_
 refine smv rfl rfl ?_
 refine smv rfl rfl ?_
 obtain ⟨x35, e36, hm⟩ := bS hm
 obtain ⟨v37, hv38, cs40, R41, hc42⟩ := Mrel.look' (k := a0) h33 (show Mval (Kind.int .i64) false _ (.int .i64 0) 0 from ⟨[.int .i64 0], rfl, rfl⟩)
 rw [Mir.getD_some e36] at R41
 obtain rfl := R41
 obtain rfl := (List.cons.inj (if_neg (show ¬ (false = true) by decide) ▸ hc42)).1
 refine sv (v := (.int .i64 x35)) (Yields.look rfl rfl 0 rfl tm79 tk79 tz3 hv38) rfl ?_
 refine sv (v := (.agg #[.int .i64 2, .int .i64 0, .int .i64 0, .int .i64 x35, .string (bs []), .slice none 0 0, .slice none 0 0])) (Yields.build (v := (.agg #[.int .i64 2, .int .i64 0, .int .i64 0, .int .i64 x35, .string (bs []), .slice none 0 0, .slice none 0 0])) (vs := #[(0, .int .i64 2), (3, .int .i64 x35)]) (fun _ ha => evp2 ha rfl rfl) (fun _ => by kernel_rfl)) rfl ?_
 refine St.alloc tz40 trivial rfl ?_
 intro b43
 refine St.storen (R := [mapv keyStr b3 vs32, blk b2 (.cells #[.int .i64 0, .int .i64 0, .int .i64 0, .int .i64 0, .string (bs []), .slice none 0 0, .slice none 0 0] 40 (0, 0))]) rfl rfl 0 rfl rfl ta40 rfl rfl rfl trivial (cs' := #[.int .i64 2, .int .i64 0, .int .i64 0, .int .i64 x35, .string (bs []), .slice none 0 0, .slice none 0 0]) rfl ?_
 refine snn ?_
 obtain ⟨o51, hm, ho52⟩ := jS hm
 refine St.cutI (fun a w => ∃ z44 : List (List UInt8) × List UInt8, o51 = .inl z44 ∧ ∃ (A48 : Option Addr) (c49 : Nat) (F45 : PH), PH.le F F45 ∧ Fsl 16 Kind.str F45 A48 c49 z44.1 ∧ Has Tryz.f26.ntmps a [(1, .slice A48 z44.1.length c49), (4, .pointer (some ⟨b2, 0, none⟩)), (7, .pointer (some ⟨b43, 0, none⟩))] ∧ Sat ⟨w0, fun b => m0 b ≠ none, F⟩ F45 [blk b2 (.cells #[.int .i64 0, .int .i64 0, .int .i64 0, .int .i64 0, .string (bs []), .slice none 0 0, .slice none 0 0] 40 (0, 0)), blk b43 (.cells #[.int .i64 2, .int .i64 0, .int .i64 0, .int .i64 x35, .string (bs z44.2), .slice none 0 0, .slice none 0 0] 40 (0, 0))] w) ?_ ?_
 ·skip
  refine ssr ?_
  refine sfa (v := (.pointer (some ⟨b43, 3, none⟩))) rfl (fun _ => by kernel_rfl) rfl ?_
  refine sv (v := (.int .i64 x35)) (Yields.load rfl (Loads.H1 0 rfl tc3 rfl)) rfl ?_
  refine snn ?_
  refine St.block ?_
  refine ssr ?_
  refine sv (v := (.bool (decide (x35 = 0)))) (Yields.eq rfl rfl) rfl ?_
  refine sas rfl rfl ?_
  refine snn ?_
  refine St.cond_b rfl ?_ ?_
  ·intro q53
   replace q53 : x35 = 0 := of_decide_eq_true q53
   replace hm := iT hm q53
   refine ssr ?_
   refine sv (v := (.agg #[.int .i64 2, .int .i64 0, .int .i64 0, .int .i64 x35, .string (bs []), .slice none 0 0, .slice none 0 0])) (Yields.load rfl (Loads.Hk (vs := [.int .i64 2, .int .i64 0, .int .i64 0, .int .i64 x35, .string (bs []), .slice none 0 0, .slice none 0 0]) 0 rfl ta40 rfl rfl)) rfl ?_
   refine St.storen (R := [blk b43 (.cells #[.int .i64 2, .int .i64 0, .int .i64 0, .int .i64 x35, .string (bs []), .slice none 0 0, .slice none 0 0] 40 (0, 0)), mapv keyStr b3 vs32]) rfl rfl 2 rfl rfl ta40 rfl rfl rfl trivial (cs' := #[.int .i64 2, .int .i64 0, .int .i64 0, .int .i64 x35, .string (bs []), .slice none 0 0, .slice none 0 0]) rfl ?_
   refine sas rfl rfl ?_
   refine snn ?_
   refine St.ret ?_
   refine St.inret ?_
   refine St.thenret ?_
   obtain rfl := sI hm
   obtain rfl := aR ho52
   exact St.doneR2 rfl (ResOk.cell rfl (Loads.Hk (vs := [.int .i64 2, .int .i64 0, .int .i64 0, .int .i64 x35, .string (bs []), .slice none 0 0, .slice none 0 0]) 0 rfl ta40 rfl rfl)) rfl ⟨none, 0, rfl, Fsl.nil, rfl⟩ (fun w hs => Among.of Among.none w hs)
  intro q54
  replace q54 : ¬ (x35 = 0) := of_decide_eq_false q54
  replace hm := iF hm q54
  obtain ⟨z55, hm, hk56⟩ := bS hm
  refine St.cutI (fun a w => Has Tryz.f26.ntmps a [(1, .slice pA1 a1.length pc1), (4, .pointer (some ⟨b2, 0, none⟩)), (7, .pointer (some ⟨b43, 0, none⟩)), (19, .int .i64 x35), (23, .bool z55)] ∧ Sat ⟨w0, fun b => m0 b ≠ none, F⟩ F [blk b2 (.cells #[.int .i64 0, .int .i64 0, .int .i64 0, .int .i64 0, .string (bs []), .slice none 0 0, .slice none 0 0] 40 (0, 0)), blk b43 (.cells #[.int .i64 2, .int .i64 0, .int .i64 0, .int .i64 x35, .string (bs []), .slice none 0 0, .slice none 0 0] 40 (0, 0))] w) ?_ ?_
  ·skip
   refine ssr ?_
   refine sv (v := (.bool (decide (x35 = 1)))) (Yields.eq rfl rfl) rfl ?_
   refine sas rfl rfl ?_
   refine snn ?_
   refine St.cond_b rfl ?_ ?_
   ·intro q57
    replace q57 : x35 = 1 := of_decide_eq_true q57
    replace hm := iT hm q57
    refine St.skip ?_
    obtain rfl := sI hm
    intro a w ha hs
    exact ⟨ha.covers ⟨rfl, rfl, rfl, rfl, rfl, trivial⟩, (Among.of (Among.take 2 rfl rfl (Among.take 0 rfl rfl Among.none)) _ hs)⟩
   intro q58
   replace q58 : ¬ (x35 = 1) := of_decide_eq_false q58
   replace hm := iF hm q58
   refine St.region ?_
   refine sv (v := (.bool (decide (x35 = 3)))) (Yields.eq rfl rfl) rfl ?_
   refine sas rfl rfl ?_
   refine St.nil ?_
   obtain rfl := sI hm
   intro a w ha hs
   exact ⟨ha.covers ⟨rfl, rfl, rfl, rfl, rfl, trivial⟩, (Among.of (Among.take 2 rfl rfl (Among.take 0 rfl rfl Among.none)) _ hs)⟩
  rintro a w ⟨ha, hs⟩
  replace hm := hk56
  refine St.use (?_ : St _ _ _ _ _ _) ha hs
  clear ha hs a w
  refine St.cond_b rfl ?_ ?_
  ·intro q59
   replace q59 : z55 = true := q59
   replace hm := iT hm q59
   refine St.seq ?_
   obtain ⟨z60, hm, hk63⟩ := bS hm
   refine St.cutI (fun a w => ∃ (F61 : PH), PH.le F F61 ∧ Has Tryz.f26.ntmps a [(1, .slice pA1 a1.length pc1), (4, .pointer (some ⟨b2, 0, none⟩)), (7, .pointer (some ⟨b43, 0, none⟩)), (35, .bool z60)] ∧ Sat ⟨w0, fun b => m0 b ≠ none, F⟩ F61 [blk b2 (.cells #[.int .i64 0, .int .i64 0, .int .i64 0, .int .i64 0, .string (bs []), .slice none 0 0, .slice none 0 0] 40 (0, 0)), blk b43 (.cells #[.int .i64 2, .int .i64 0, .int .i64 0, .int .i64 x35, .string (bs []), .slice none 0 0, .slice none 0 0] 40 (0, 0))] w) ?_ ?_
   ·skip
    refine St.region ?_
    refine smv rfl rfl ?_
    refine sv (v := (.int .i64 ((a1.length : Nat) : Int))) (Yields.lenSlice tu29 rfl) rfl ?_
    by_cases q64 : ((a1.length : Nat) : Int) = 0
    ·replace hm := iT hm q64
     refine sv (v := vT) (Yields.is q64 (Yields.eq rfl rfl)) rfl ?_
     refine smv rfl rfl ?_
     refine su rfl rfl rfl ?_
     refine su rfl rfl rfl ?_
     refine su rfl rfl rfl ?_
     refine su rfl rfl rfl ?_
     refine su rfl rfl rfl ?_
     refine spt rfl rfl rfl ?_
     refine St.nil ?_
     obtain rfl := sI hm
     intro a w ha hs
     exact ⟨F, (PH.le_refl _), ha.covers ⟨rfl, rfl, rfl, rfl, trivial⟩, (Among.of (Among.take 0 rfl rfl (Among.take 0 rfl rfl Among.none)) _ hs)⟩
    replace hm := iF hm q64
    refine sv (v := vF) (Yields.isnt q64 (Yields.eq rfl rfl)) rfl ?_
    refine smv rfl rfl ?_
    refine St.val (v := (.slice pA1 a1.length pc1)) (Yields.move rfl) rfl rfl rfl ?_
    obtain ⟨x65, e66, hm⟩ := bS hm
    replace e66 := nlit e66
    obtain ⟨p67, cs68, jx69, R70, k71⟩ := ph1.idx e66
    obtain rfl := R70
    refine St.val (v := (.pointer (some p67))) (Yields.idx jx69 ts29 rfl rfl) rfl rfl rfl ?_
    refine St.val (v := (.string (bs x65))) (Yields.load rfl (Loads.Fat k71 tc9 rfl)) rfl rfl rfl ?_
    obtain ⟨q72, e73, hm⟩ := bS hm
    refine St.call [blk b2 (.cells #[.int .i64 0, .int .i64 0, .int .i64 0, .int .i64 0, .string (bs []), .slice none 0 0, .slice none 0 0] 40 (0, 0)), blk b43 (.cells #[.int .i64 2, .int .i64 0, .int .i64 0, .int .i64 x35, .string (bs []), .slice none 0 0, .slice none 0 0] 40 (0, 0))] (m_code_isWord_sp e73) rfl (fun _ ha => ev1 ha rfl) rfl en10 rfl rfl rfl ?_
    rintro _ F74 _ ⟨rfl, rfl⟩ l75
    refine St.val (v := (.bool (!q72))) (Yields.not rfl) rfl rfl rfl ?_
    refine spf rfl rfl rfl ?_
    refine St.nil ?_
    obtain rfl := sI hm
    intro a w ha hs
    exact ⟨F74, l75, ha.covers ⟨rfl, rfl, rfl, rfl, trivial⟩, (Among.of (Among.take 0 rfl rfl (Among.take 0 rfl rfl Among.none)) _ hs)⟩
   rintro a w ⟨F61, l62, ha, hs⟩
   replace hm := hk63
   refine St.use (?_ : St _ _ _ _ _ _) ha hs
   clear ha hs a w
   refine St.cond_b rfl ?_ ?_
   ·intro q76
    replace q76 : z60 = true := q76
    replace hm := iT hm q76
    refine ssr ?_
    refine sv (v := (.agg #[.int .i64 2, .int .i64 0, .int .i64 0, .int .i64 x35, .string (bs []), .slice none 0 0, .slice none 0 0])) (Yields.load rfl (Loads.Hk (vs := [.int .i64 2, .int .i64 0, .int .i64 0, .int .i64 x35, .string (bs []), .slice none 0 0, .slice none 0 0]) 1 rfl ta40 rfl rfl)) rfl ?_
    refine St.storen (R := [blk b43 (.cells #[.int .i64 2, .int .i64 0, .int .i64 0, .int .i64 x35, .string (bs []), .slice none 0 0, .slice none 0 0] 40 (0, 0))]) rfl rfl 0 rfl rfl ta40 rfl rfl rfl trivial (cs' := #[.int .i64 2, .int .i64 0, .int .i64 0, .int .i64 x35, .string (bs []), .slice none 0 0, .slice none 0 0]) rfl ?_
    refine sas rfl rfl ?_
    refine snn ?_
    refine St.ret ?_
    refine St.thenret ?_
    refine St.inret ?_
    refine St.thenret ?_
    obtain rfl := sI hm
    obtain rfl := aR ho52
    exact St.doneR2 rfl (ResOk.cell rfl (Loads.Hk (vs := [.int .i64 2, .int .i64 0, .int .i64 0, .int .i64 x35, .string (bs []), .slice none 0 0, .slice none 0 0]) 0 rfl ta40 rfl rfl)) rfl ⟨none, 0, rfl, Fsl.nil, rfl⟩ (fun w hs => Among.of Among.none w hs)
   intro q77
   replace q77 : ¬ (z60 = true) := bf q77
   replace hm := iF hm q77
   refine skn ?_
   refine StD.start [6] [blk b2 (.cells #[.int .i64 0, .int .i64 0, .int .i64 0, .int .i64 0, .string (bs []), .slice none 0 0, .slice none 0 0] 40 (0, 0)), blk b43 (.cells #[.int .i64 2, .int .i64 0, .int .i64 0, .int .i64 x35, .string (bs []), .slice none 0 0, .slice none 0 0] 40 (0, 0))] hmix ?_
   refine sdp 0 (v := (.slice pA1 a1.length pc1)) (listed' := #[true, false, false, false, false, false, false, false]) rfl (fun _ => Yields.move rfl) rfl (by kernel_rfl) rfl ?_
   obtain ⟨x78, e79, hm⟩ := bS hm
   replace e79 := nlit e79
   obtain ⟨p80, cs81, jx82, R83, k84⟩ := (Fsl.mono l62 ph1).idx e79
   obtain rfl := R83
   refine sdp 1 (v := (.pointer (some p80))) (listed' := #[true, true, false, false, false, false, false, false]) rfl (fun _ => Yields.idx jx82 ts29 rfl rfl) rfl (by kernel_rfl) rfl ?_
   refine sdt [0, 1, 3, 4, 5, 7] 2 (v := (.string (bs x78))) (listed' := #[true, true, true, false, false, false, false, false]) rfl (Yields.load rfl (Loads.Fat k84 tc9 rfl)) rfl Among.refl (by kernel_rfl) rfl ?_
   refine sdp 3 (v := (.slice pA1 a1.length pc1)) (listed' := #[true, true, true, true, false, false, false, false]) rfl (fun _ => Yields.move rfl) rfl (by kernel_rfl) rfl ?_
   obtain ⟨x89, e90, hm⟩ := bS hm
   obtain ⟨A85, c86, s87, h88⟩ := (Fsl.mono l62 ph1).subx e90
   refine sdp 4 (v := (.slice A85 x89.length c86)) (listed' := #[true, true, true, true, true, false, false, false]) rfl (fun _ => Yields.subD s87 ts29 rfl rfl) rfl (by kernel_rfl) rfl ?_
   refine sdp 5 (v := (.pointer (some ⟨b43, 4, none⟩))) (listed' := #[true, true, true, true, true, true, false, false]) rfl (fun _ => Yields.fieldAddr (v := (.pointer (some ⟨b43, 4, none⟩))) rfl (fun _ => by kernel_rfl)) rfl (by kernel_rfl) rfl ?_
   refine StD.only (i := 6) rfl (by kernel_rfl) (listed' := #[true, true, true, true, true, true, true, false]) rfl ?_
   intro hcl92
   refine St.store (R := [blk b2 (.cells #[.int .i64 0, .int .i64 0, .int .i64 0, .int .i64 0, .string (bs []), .slice none 0 0, .slice none 0 0] 40 (0, 0))]) rfl rfl 1 rfl rfl tc9 rfl rfl trivial (cs' := #[.int .i64 2, .int .i64 0, .int .i64 0, .int .i64 x35, .string (bs x78), .slice none 0 0, .slice none 0 0]) rfl ?_
   refine StD.next hcl92 (fun h => by cases h) ?_
   refine sdp 7 (v := (.slice A85 x89.length c86)) (listed' := #[true, true, true, true, true, true, true, true]) rfl (fun _ => Yields.assign rfl) rfl (by kernel_rfl) rfl ?_
   refine StD.done (by kernel_rfl) ?_
   refine St.innorm ?_
   obtain rfl := sI hm
   intro a w ha hs
   exact ⟨(x89, x78), rfl, A85, c86, F61, l62, h88, ha.covers ⟨rfl, rfl, rfl, trivial⟩, (Among.of (Among.take 1 rfl rfl (Among.take 0 rfl rfl Among.none)) _ hs)⟩
  intro q93
  replace q93 : ¬ (z55 = true) := bf q93
  replace hm := iF hm q93
  refine ssr ?_
  refine sv (v := (.bool (decide (x35 = 2)))) (Yields.eq rfl rfl) rfl ?_
  refine sas rfl rfl ?_
  refine snn ?_
  refine St.cond_b rfl ?_ ?_
  ·intro q94
   replace q94 : x35 = 2 := of_decide_eq_true q94
   replace hm := iT hm q94
   refine St.seq ?_
   refine ssr ?_
   refine smv rfl rfl ?_
   refine sv (v := (.int .i64 ((a1.length : Nat) : Int))) (Yields.lenSlice tu29 rfl) rfl ?_
   refine sv (v := (.bool (!decide (((a1.length : Nat) : Int) = 1)))) (Yields.ne rfl rfl) rfl ?_
   refine snn ?_
   refine St.cond_b rfl ?_ ?_
   ·intro q95
    replace q95 : ¬ (((a1.length : Nat) : Int) = 1) := nd_t q95
    replace hm := iF hm q95
    refine ssr ?_
    refine sv (v := (.agg #[.int .i64 2, .int .i64 0, .int .i64 0, .int .i64 x35, .string (bs []), .slice none 0 0, .slice none 0 0])) (Yields.load rfl (Loads.Hk (vs := [.int .i64 2, .int .i64 0, .int .i64 0, .int .i64 x35, .string (bs []), .slice none 0 0, .slice none 0 0]) 1 rfl ta40 rfl rfl)) rfl ?_
    refine St.storen (R := [blk b43 (.cells #[.int .i64 2, .int .i64 0, .int .i64 0, .int .i64 x35, .string (bs []), .slice none 0 0, .slice none 0 0] 40 (0, 0))]) rfl rfl 0 rfl rfl ta40 rfl rfl rfl trivial (cs' := #[.int .i64 2, .int .i64 0, .int .i64 0, .int .i64 x35, .string (bs []), .slice none 0 0, .slice none 0 0]) rfl ?_
    refine sas rfl rfl ?_
    refine snn ?_
    refine St.ret ?_
    refine St.thenret ?_
    refine St.inret ?_
    refine St.thenret ?_
    obtain rfl := sI hm
    obtain rfl := aR ho52
    exact St.doneR2 rfl (ResOk.cell rfl (Loads.Hk (vs := [.int .i64 2, .int .i64 0, .int .i64 0, .int .i64 x35, .string (bs []), .slice none 0 0, .slice none 0 0]) 0 rfl ta40 rfl rfl)) rfl ⟨none, 0, rfl, Fsl.nil, rfl⟩ (fun w hs => Among.of Among.none w hs)
   intro q96
   replace q96 : ((a1.length : Nat) : Int) = 1 := nd_f q96
   replace hm := iT hm q96
   refine skn ?_
   refine ssr ?_
   refine smv rfl rfl ?_
   obtain ⟨x97, e98, hm⟩ := bS hm
   replace e98 := nlit e98
   obtain ⟨p99, cs100, jx101, R102, k103⟩ := ph1.idx e98
   obtain rfl := R102
   refine sv (v := (.pointer (some p99))) (Yields.idx jx101 ts29 rfl rfl) rfl ?_
   refine sv (v := (.string (bs x97))) (Yields.load rfl (Loads.Fat k103 tc9 rfl)) rfl ?_
   obtain ⟨q104, e105, hm⟩ := bS hm
   refine St.call [blk b2 (.cells #[.int .i64 0, .int .i64 0, .int .i64 0, .int .i64 0, .string (bs []), .slice none 0 0, .slice none 0 0] 40 (0, 0)), blk b43 (.cells #[.int .i64 2, .int .i64 0, .int .i64 0, .int .i64 x35, .string (bs []), .slice none 0 0, .slice none 0 0] 40 (0, 0))] (m_code_number_sp e105) rfl (fun _ ha => ev2 ha rfl rfl) rfl en11 rfl rfl trivial ?_
   rintro _ F106 _ ⟨rfl, rfl⟩ l107
   refine smv rfl rfl ?_
   refine sv (v := (.int .i64 q104.1)) (Yields.extract rfl rfl) rfl ?_
   refine sv (v := (.bool q104.2)) (Yields.extract rfl rfl) rfl ?_
   refine sas rfl rfl ?_
   refine sas rfl rfl ?_
   refine snn ?_
   refine ssr ?_
   refine smv rfl rfl ?_
   refine sfa (v := (.pointer (some ⟨b43, 1, none⟩))) rfl (fun _ => by kernel_rfl) rfl ?_
   refine St.store (R := [blk b2 (.cells #[.int .i64 0, .int .i64 0, .int .i64 0, .int .i64 0, .string (bs []), .slice none 0 0, .slice none 0 0] 40 (0, 0))]) rfl rfl 1 rfl rfl tc3 rfl rfl trivial (cs' := #[.int .i64 2, .int .i64 q104.1, .int .i64 0, .int .i64 x35, .string (bs []), .slice none 0 0, .slice none 0 0]) rfl ?_
   refine snn ?_
   refine ssr ?_
   refine sv (v := (.agg #[.int .i64 2, .int .i64 q104.1, .int .i64 0, .int .i64 x35, .string (bs []), .slice none 0 0, .slice none 0 0])) (Yields.load rfl (Loads.Hk (vs := [.int .i64 2, .int .i64 q104.1, .int .i64 0, .int .i64 x35, .string (bs []), .slice none 0 0, .slice none 0 0]) 0 rfl ta40 rfl rfl)) rfl ?_
   refine smv rfl rfl ?_
   refine St.storen (R := [blk b43 (.cells #[.int .i64 2, .int .i64 q104.1, .int .i64 0, .int .i64 x35, .string (bs []), .slice none 0 0, .slice none 0 0] 40 (0, 0))]) rfl rfl 1 rfl rfl ta40 rfl rfl rfl trivial (cs' := #[.int .i64 2, .int .i64 q104.1, .int .i64 0, .int .i64 x35, .string (bs []), .slice none 0 0, .slice none 0 0]) rfl ?_
   refine sas rfl rfl ?_
   refine snn ?_
   refine St.ret ?_
   refine St.inret ?_
   refine St.thenret ?_
   obtain rfl := sI hm
   obtain rfl := aR ho52
   exact St.doneR2 rfl (ResOk.cell rfl (Loads.Hk (vs := [.int .i64 2, .int .i64 q104.1, .int .i64 0, .int .i64 x35, .string (bs []), .slice none 0 0, .slice none 0 0]) 0 rfl ta40 rfl rfl)) rfl ⟨none, 0, rfl, Fsl.nil, rfl⟩ (fun w hs => Among.of Among.none w hs)
  intro q108
  replace q108 : ¬ (x35 = 2) := of_decide_eq_false q108
  replace hm := iF hm q108
  refine ssr ?_
  refine sv (v := (.bool (decide (x35 = 7)))) (Yields.eq rfl rfl) rfl ?_
  refine sas rfl rfl ?_
  refine snn ?_
  refine St.cond_b rfl ?_ ?_
  ·intro q109
   replace q109 : x35 = 7 := of_decide_eq_true q109
   replace hm := iT hm q109
   refine ssr ?_
   refine sv (v := (.agg #[.int .i64 2, .int .i64 0, .int .i64 0, .int .i64 x35, .string (bs []), .slice none 0 0, .slice none 0 0])) (Yields.load rfl (Loads.Hk (vs := [.int .i64 2, .int .i64 0, .int .i64 0, .int .i64 x35, .string (bs []), .slice none 0 0, .slice none 0 0]) 1 rfl ta40 rfl rfl)) rfl ?_
   refine smv rfl rfl ?_
   refine sv (v := (.int .i64 ((a1.length : Nat) : Int))) (Yields.lenSlice tu29 rfl) rfl ?_
   refine sv (v := (.bool (decide (((a1.length : Nat) : Int) = 0)))) (Yields.eq rfl rfl) rfl ?_
   refine St.storen (R := [blk b43 (.cells #[.int .i64 2, .int .i64 0, .int .i64 0, .int .i64 x35, .string (bs []), .slice none 0 0, .slice none 0 0] 40 (0, 0))]) rfl rfl 0 rfl rfl ta40 rfl rfl rfl trivial (cs' := #[.int .i64 2, .int .i64 0, .int .i64 0, .int .i64 x35, .string (bs []), .slice none 0 0, .slice none 0 0]) rfl ?_
   refine sas rfl rfl ?_
   refine snn ?_
   refine St.ret ?_
   refine St.inret ?_
   refine St.thenret ?_
   obtain rfl := sI hm
   obtain rfl := aR ho52
   exact St.doneR2 rfl (ResOk.cell rfl (Loads.Hk (vs := [.int .i64 2, .int .i64 0, .int .i64 0, .int .i64 x35, .string (bs []), .slice none 0 0, .slice none 0 0]) 0 rfl ta40 rfl rfl)) rfl ⟨none, 0, rfl, Fsl.nil, rfl⟩ (fun w hs => Among.of Among.none w hs)
  intro q110
  replace q110 : ¬ (x35 = 7) := of_decide_eq_false q110
  replace hm := iF hm q110
  refine St.skip ?_
  refine St.innorm ?_
  obtain rfl := sI hm
  intro a w ha hs
  exact ⟨(a1, ([] : List UInt8)), rfl, pA1, pc1, F, (PH.le_refl _), ph1, ha.covers ⟨rfl, rfl, rfl, trivial⟩, (Among.of (Among.take 0 rfl rfl (Among.take 0 rfl rfl Among.none)) _ hs)⟩
 rintro a w ⟨z44, rfl, A48, c49, F45, l46, h50, ha, hs⟩
 replace hm := aL ho52
 refine St.use (?_ : St _ _ _ _ _ _) ha hs
 clear ha hs a w
 refine ssr ?_
 refine smv rfl rfl ?_
 obtain ⟨q111, e112, hm⟩ := bS hm
 refine St.call [blk b2 (.cells #[.int .i64 0, .int .i64 0, .int .i64 0, .int .i64 0, .string (bs []), .slice none 0 0, .slice none 0 0] 40 (0, 0)), blk b43 (.cells #[.int .i64 2, .int .i64 0, .int .i64 0, .int .i64 x35, .string (bs z44.2), .slice none 0 0, .slice none 0 0] 40 (0, 0))] (m_code_numbers_sp h50 e112) rfl (fun _ ha => ev1 ha rfl) rfl en25 rfl rfl trivial ?_
 rintro _ F113 _ ⟨A115, c116, rfl, h117, rfl⟩ l114
 refine smv rfl rfl ?_
 refine sv (v := (.slice A115 q111.1.length c116)) (Yields.extract rfl rfl) rfl ?_
 refine sv (v := (.bool q111.2)) (Yields.extract rfl rfl) rfl ?_
 refine sas rfl rfl ?_
 refine sas rfl rfl ?_
 refine snn ?_
 refine ssr ?_
 refine smv rfl rfl ?_
 refine sfa (v := (.pointer (some ⟨b43, 5, none⟩))) rfl (fun _ => by kernel_rfl) rfl ?_
 refine St.store (R := [blk b2 (.cells #[.int .i64 0, .int .i64 0, .int .i64 0, .int .i64 0, .string (bs []), .slice none 0 0, .slice none 0 0] 40 (0, 0))]) rfl rfl 1 rfl rfl tc37 rfl rfl trivial (cs' := #[.int .i64 2, .int .i64 0, .int .i64 0, .int .i64 x35, .string (bs z44.2), .slice A115 q111.1.length c116, .slice none 0 0]) rfl ?_
 refine snn ?_
 refine ssr ?_
 refine sv (v := (.agg #[.int .i64 2, .int .i64 0, .int .i64 0, .int .i64 x35, .string (bs z44.2), .slice A115 q111.1.length c116, .slice none 0 0])) (Yields.load rfl (Loads.Hk (vs := [.int .i64 2, .int .i64 0, .int .i64 0, .int .i64 x35, .string (bs z44.2), .slice A115 q111.1.length c116, .slice none 0 0]) 0 rfl ta40 rfl rfl)) rfl ?_
 refine smv rfl rfl ?_
 refine St.storen (R := [blk b43 (.cells #[.int .i64 2, .int .i64 0, .int .i64 0, .int .i64 x35, .string (bs z44.2), .slice A115 q111.1.length c116, .slice none 0 0] 40 (0, 0))]) rfl rfl 1 rfl rfl ta40 rfl rfl rfl trivial (cs' := #[.int .i64 2, .int .i64 0, .int .i64 0, .int .i64 x35, .string (bs z44.2), .slice A115 q111.1.length c116, .slice none 0 0]) rfl ?_
 refine sas rfl rfl ?_
 refine snn ?_
 refine St.ret ?_
 obtain rfl := sI hm
 exact St.doneR2 rfl (ResOk.cell rfl (Loads.Hk (vs := [.int .i64 2, .int .i64 0, .int .i64 0, .int .i64 x35, .string (bs z44.2), .slice A115 q111.1.length c116, .slice none 0 0]) 0 rfl ta40 rfl rfl)) rfl ⟨A115, c116, rfl, h117, rfl⟩ (fun w hs => Among.of Among.none w hs)
theorem m_code_instr_sp {F : PH} {g : Nat} {a0 : List (List UInt8)} {pA0 : Option Addr} {pc0 : Nat} (ph0 : Fsl 16 Kind.str F pA0 pc0 a0) {r : DInstr × Bool} (hm : m_code_instr g a0 = some r) :
  CallSp Tryz.prog 12 #[.slice pA0 a0.length pc0] F [] (fun u F' H' => ∃ (B0_0 : Option Addr) (d0_0 : Nat) (B0_1 : Option Addr) (d0_1 : Nat), u = (.tuple #[.agg #[.int .i64 r.1.Op, .int .i64 r.1.A, .int .i64 r.1.B, .int .i64 r.1.N, .string (bs r.1.Name), .slice B0_0 r.1.Args.length d0_0, .slice B0_1 r.1.Cases.length d0_1], .bool r.2]) ∧ Fsl 8 (Kind.int .i64) F' B0_0 d0_0 r.1.Args ∧ Fsl 32 KDJump F' B0_1 d0_1 r.1.Cases ∧ H' = []) := by

 unfold m_code_instr at hm
 refine CallSp.enter (args := [.slice pA0 a0.length pc0]) Tryz.func12 rfl rfl ?_
 intro w0 m0 hm0
 refine ssr ?_
 refine St.alloc tz40 trivial rfl ?_
 intro b2
 refine sas rfl rfl ?_
 refine snn ?_
 obtain ⟨o4, hm, ho5⟩ := jS hm
 refine St.cutI (fun a w => ∃ z3 : Unit, o4 = .inl z3 ∧ Has Tryz.f12.ntmps a [(2, .pointer (some ⟨b2, 0, none⟩))] ∧ Sat ⟨w0, fun b => m0 b ≠ none, F⟩ F [blk b2 (.cells #[.int .i64 0, .int .i64 0, .int .i64 0, .int .i64 0, .string (bs []), .slice none 0 0, .slice none 0 0] 40 (0, 0))] w) ?_ ?_
 ·skip
  refine ssr ?_
  refine smv rfl rfl ?_
  obtain ⟨x6, e7, hm⟩ := bS hm
  replace e7 := nlit e7
  obtain ⟨p8, cs9, jx10, R11, k12⟩ := ph0.idx e7
  obtain rfl := R11
  refine sv (v := (.pointer (some p8))) (Yields.idx jx10 ts29 rfl rfl) rfl ?_
  refine sv (v := (.string (bs x6))) (Yields.load rfl (Loads.Fat k12 tc9 rfl)) rfl ?_
  refine snn ?_
  refine St.block ?_
  refine ssr ?_
  refine sv (v := (.bool (decide (x6 = ([109, 97, 116, 99, 104] : List UInt8))))) (Yields.eqStr rfl rfl) rfl ?_
  refine sas rfl rfl ?_
  refine snn ?_
  refine St.cond_b rfl ?_ ?_
  ·intro q13
   replace q13 : x6 = ([109, 97, 116, 99, 104] : List UInt8) := of_decide_eq_true q13
   replace hm := iT hm q13
   refine ssr ?_
   refine smv rfl rfl ?_
   obtain ⟨x18, e19, hm⟩ := bS hm
   obtain ⟨A14, c15, s16, h17⟩ := ph0.subx e19
   refine sv (v := (.slice A14 x18.length c15)) (Yields.subD s16 ts29 rfl rfl) rfl ?_
   obtain ⟨q21, e22, hm⟩ := bS hm
   refine St.call [blk b2 (.cells #[.int .i64 0, .int .i64 0, .int .i64 0, .int .i64 0, .string (bs []), .slice none 0 0, .slice none 0 0] 40 (0, 0))] (m_code_match_sp h17 e22) rfl (fun _ ha => ev1 ha rfl) rfl en24 rfl rfl trivial ?_
   rintro _ F23 _ ⟨A25, c26, rfl, h27, rfl⟩ l24
   refine sv (v := (.agg #[.int .i64 q21.1, .int .i64 q21.2.1, .int .i64 q21.2.2.1, .int .i64 q21.2.2.2.1, .string (bs q21.2.2.2.2.1), .slice none 0 0, .slice A25 q21.2.2.2.2.2.1.length c26])) (Yields.extract rfl rfl) rfl ?_
   refine sv (v := (.bool q21.2.2.2.2.2.2)) (Yields.extract rfl rfl) rfl ?_
   refine St.storen (R := []) rfl rfl 0 rfl rfl ta40 rfl rfl rfl trivial (cs' := #[.int .i64 q21.1, .int .i64 q21.2.1, .int .i64 q21.2.2.1, .int .i64 q21.2.2.2.1, .string (bs q21.2.2.2.2.1), .slice none 0 0, .slice A25 q21.2.2.2.2.2.1.length c26]) rfl ?_
   refine sas rfl rfl ?_
   refine snn ?_
   refine St.ret ?_
   refine St.inret ?_
   refine St.thenret ?_
   obtain rfl := sI hm
   obtain rfl := aR ho5
   exact St.doneR2 rfl (ResOk.cell rfl (Loads.Hk (vs := [.int .i64 q21.1, .int .i64 q21.2.1, .int .i64 q21.2.2.1, .int .i64 q21.2.2.2.1, .string (bs q21.2.2.2.2.1), .slice none 0 0, .slice A25 q21.2.2.2.2.2.1.length c26]) 0 rfl ta40 rfl rfl)) rfl ⟨none, 0, A25, c26, rfl, Fsl.nil, h27, rfl⟩ (fun w hs => Among.of Among.none w hs)
  intro q29
  replace q29 : ¬ (x6 = ([109, 97, 116, 99, 104] : List UInt8)) := of_decide_eq_false q29
  replace hm := iF hm q29
  refine ssr ?_
  refine sv (v := (.bool (decide (x6 = ([102, 114, 101, 101] : List UInt8))))) (Yields.eqStr rfl rfl) rfl ?_
  refine sas rfl rfl ?_
  refine snn ?_
  refine St.cond_b rfl ?_ ?_
  ·intro q30
   replace q30 : x6 = ([102, 114, 101, 101] : List UInt8) := of_decide_eq_true q30
   replace hm := iT hm q30
   refine ssr ?_
   refine sv (v := (.agg #[.int .i64 3, .int .i64 0, .int .i64 0, .int .i64 0, .string (bs []), .slice none 0 0, .slice none 0 0])) (Yields.build (v := (.agg #[.int .i64 3, .int .i64 0, .int .i64 0, .int .i64 0, .string (bs []), .slice none 0 0, .slice none 0 0])) (vs := #[(0, .int .i64 3)]) (fun _ ha => evp1 ha rfl) (fun _ => by kernel_rfl)) rfl ?_
   refine smv rfl rfl ?_
   refine sv (v := (.int .i64 ((a0.length : Nat) : Int))) (Yields.lenSlice tu29 rfl) rfl ?_
   refine sv (v := (.bool (decide (((a0.length : Nat) : Int) = 1)))) (Yields.eq rfl rfl) rfl ?_
   refine St.storen (R := []) rfl rfl 0 rfl rfl ta40 rfl rfl rfl trivial (cs' := #[.int .i64 3, .int .i64 0, .int .i64 0, .int .i64 0, .string (bs []), .slice none 0 0, .slice none 0 0]) rfl ?_
   refine sas rfl rfl ?_
   refine snn ?_
   refine St.ret ?_
   refine St.inret ?_
   refine St.thenret ?_
   obtain rfl := sI hm
   obtain rfl := aR ho5
   exact St.doneR2 rfl (ResOk.cell rfl (Loads.Hk (vs := [.int .i64 3, .int .i64 0, .int .i64 0, .int .i64 0, .string (bs []), .slice none 0 0, .slice none 0 0]) 0 rfl ta40 rfl rfl)) rfl ⟨none, 0, none, 0, rfl, Fsl.nil, Fsl.nil, rfl⟩ (fun w hs => Among.of Among.none w hs)
  intro q31
  replace q31 : ¬ (x6 = ([102, 114, 101, 101] : List UInt8)) := of_decide_eq_false q31
  replace hm := iF hm q31
  refine ssr ?_
  refine sv (v := (.bool (decide (x6 = ([115, 116, 111, 112] : List UInt8))))) (Yields.eqStr rfl rfl) rfl ?_
  refine sas rfl rfl ?_
  refine snn ?_
  refine St.cond_b rfl ?_ ?_
  ·intro q32
   replace q32 : x6 = ([115, 116, 111, 112] : List UInt8) := of_decide_eq_true q32
   replace hm := iT hm q32
   refine ssr ?_
   refine sv (v := (.agg #[.int .i64 5, .int .i64 0, .int .i64 0, .int .i64 0, .string (bs []), .slice none 0 0, .slice none 0 0])) (Yields.build (v := (.agg #[.int .i64 5, .int .i64 0, .int .i64 0, .int .i64 0, .string (bs []), .slice none 0 0, .slice none 0 0])) (vs := #[(0, .int .i64 5)]) (fun _ ha => evp1 ha rfl) (fun _ => by kernel_rfl)) rfl ?_
   refine smv rfl rfl ?_
   refine sv (v := (.int .i64 ((a0.length : Nat) : Int))) (Yields.lenSlice tu29 rfl) rfl ?_
   refine sv (v := (.bool (decide (((a0.length : Nat) : Int) = 1)))) (Yields.eq rfl rfl) rfl ?_
   refine St.storen (R := []) rfl rfl 0 rfl rfl ta40 rfl rfl rfl trivial (cs' := #[.int .i64 5, .int .i64 0, .int .i64 0, .int .i64 0, .string (bs []), .slice none 0 0, .slice none 0 0]) rfl ?_
   refine sas rfl rfl ?_
   refine snn ?_
   refine St.ret ?_
   refine St.inret ?_
   refine St.thenret ?_
   obtain rfl := sI hm
   obtain rfl := aR ho5
   exact St.doneR2 rfl (ResOk.cell rfl (Loads.Hk (vs := [.int .i64 5, .int .i64 0, .int .i64 0, .int .i64 0, .string (bs []), .slice none 0 0, .slice none 0 0]) 0 rfl ta40 rfl rfl)) rfl ⟨none, 0, none, 0, rfl, Fsl.nil, Fsl.nil, rfl⟩ (fun w hs => Among.of Among.none w hs)
  intro q33
  replace q33 : ¬ (x6 = ([115, 116, 111, 112] : List UInt8)) := of_decide_eq_false q33
  replace hm := iF hm q33
  refine ssr ?_
  refine sv (v := (.bool (decide (x6 = ([101, 110, 100] : List UInt8))))) (Yields.eqStr rfl rfl) rfl ?_
  refine sas rfl rfl ?_
  refine snn ?_
  refine St.cond_b rfl ?_ ?_
  ·intro q34
   replace q34 : x6 = ([101, 110, 100] : List UInt8) := of_decide_eq_true q34
   replace hm := iT hm q34
   refine ssr ?_
   refine smv rfl rfl ?_
   obtain ⟨x39, e40, hm⟩ := bS hm
   obtain ⟨A35, c36, s37, h38⟩ := ph0.subx e40
   refine sv (v := (.slice A35 x39.length c36)) (Yields.subD s37 ts29 rfl rfl) rfl ?_
   obtain ⟨q42, e43, hm⟩ := bS hm
   refine St.call [blk b2 (.cells #[.int .i64 0, .int .i64 0, .int .i64 0, .int .i64 0, .string (bs []), .slice none 0 0, .slice none 0 0] 40 (0, 0))] (m_code_numbers_sp h38 e43) rfl (fun _ ha => ev1 ha rfl) rfl en25 rfl rfl trivial ?_
   rintro _ F44 _ ⟨A46, c47, rfl, h48, rfl⟩ l45
   refine smv rfl rfl ?_
   refine sv (v := (.slice A46 q42.1.length c47)) (Yields.extract rfl rfl) rfl ?_
   refine sv (v := (.bool q42.2)) (Yields.extract rfl rfl) rfl ?_
   refine sas rfl rfl ?_
   refine sas rfl rfl ?_
   refine snn ?_
   refine St.seq ?_
   obtain ⟨z50, hm, hk51⟩ := bS hm
   refine St.cutI (fun a w => Has Tryz.f12.ntmps a [(2, .pointer (some ⟨b2, 0, none⟩)), (4, .slice A46 q42.1.length c47), (42, .bool z50)] ∧ Sat ⟨w0, fun b => m0 b ≠ none, F⟩ F44 [blk b2 (.cells #[.int .i64 0, .int .i64 0, .int .i64 0, .int .i64 0, .string (bs []), .slice none 0 0, .slice none 0 0] 40 (0, 0))] w) ?_ ?_
   ·skip
    refine St.region ?_
    by_cases q52 : q42.2 = true
    ·replace hm := iT hm q52
     have hb53 : (q42.2) = true := q52
     try rw [hb53]
     refine smv rfl rfl ?_
     refine sv (v := vF) (Yields.not_t rfl) rfl ?_
     refine smv rfl rfl ?_
     refine St.val (v := (.slice A46 q42.1.length c47)) (Yields.move rfl) rfl rfl rfl ?_
     refine St.val (v := (.int .i64 ((q42.1.length : Nat) : Int))) (Yields.lenSlice tu37 rfl) rfl rfl rfl ?_
     refine St.val (v := (.bool (!decide (((q42.1.length : Nat) : Int) = 1)))) (Yields.ne rfl rfl) rfl rfl rfl ?_
     refine spf rfl rfl rfl ?_
     refine St.nil ?_
     obtain rfl := sI hm
     intro a w ha hs
     exact ⟨ha.covers ⟨rfl, rfl, rfl, trivial⟩, (Among.of (Among.take 0 rfl rfl Among.none) _ hs)⟩
    replace hm := iF hm q52
    have hb54 : (q42.2) = false := eq_false_of_ne_true q52
    try rw [hb54]
    refine smv rfl rfl ?_
    refine sv (v := vT) (Yields.not_f rfl) rfl ?_
    refine smv rfl rfl ?_
    refine su rfl rfl rfl ?_
    refine su rfl rfl rfl ?_
    refine su rfl rfl rfl ?_
    refine spt rfl rfl rfl ?_
    refine St.nil ?_
    obtain rfl := sI hm
    intro a w ha hs
    exact ⟨ha.covers ⟨rfl, rfl, rfl, trivial⟩, (Among.of (Among.take 0 rfl rfl Among.none) _ hs)⟩
   rintro a w ⟨ha, hs⟩
   replace hm := hk51
   refine St.use (?_ : St _ _ _ _ _ _) ha hs
   clear ha hs a w
   refine St.cond_b rfl ?_ ?_
   ·intro q55
    replace q55 : z50 = true := q55
    replace hm := iT hm q55
    refine ssr ?_
    refine sv (v := (.agg #[.int .i64 0, .int .i64 0, .int .i64 0, .int .i64 0, .string (bs []), .slice none 0 0, .slice none 0 0])) (Yields.build (v := (.agg #[.int .i64 0, .int .i64 0, .int .i64 0, .int .i64 0, .string (bs []), .slice none 0 0, .slice none 0 0])) (vs := #[]) (fun a _ => by simp) (fun _ => by kernel_rfl)) rfl ?_
    refine St.storen (R := []) rfl rfl 0 rfl rfl ta40 rfl rfl rfl trivial (cs' := #[.int .i64 0, .int .i64 0, .int .i64 0, .int .i64 0, .string (bs []), .slice none 0 0, .slice none 0 0]) rfl ?_
    refine sas rfl rfl ?_
    refine snn ?_
    refine St.ret ?_
    refine St.thenret ?_
    refine St.inret ?_
    refine St.thenret ?_
    obtain rfl := sI hm
    obtain rfl := aR ho5
    exact St.doneR2 rfl (ResOk.cell rfl (Loads.Hk (vs := [.int .i64 0, .int .i64 0, .int .i64 0, .int .i64 0, .string (bs []), .slice none 0 0, .slice none 0 0]) 0 rfl ta40 rfl rfl)) rfl ⟨none, 0, none, 0, rfl, Fsl.nil, Fsl.nil, rfl⟩ (fun w hs => Among.of Among.none w hs)
   intro q56
   replace q56 : ¬ (z50 = true) := bf q56
   replace hm := iF hm q56
   refine skn ?_
   refine ssr ?_
   refine smv rfl rfl ?_
   obtain ⟨x57, e58, hm⟩ := bS hm
   replace e58 := nlit e58
   obtain ⟨p59, cs60, jx61, R62, k63⟩ := h48.idx e58
   obtain rfl := R62
   refine sv (v := (.pointer (some p59))) (Yields.idx jx61 ts37 rfl rfl) rfl ?_
   refine sv (v := (.int .i64 x57)) (Yields.load rfl (Loads.Fat k63 tc3 rfl)) rfl ?_
   refine sv (v := (.agg #[.int .i64 4, .int .i64 x57, .int .i64 0, .int .i64 0, .string (bs []), .slice none 0 0, .slice none 0 0])) (Yields.build (v := (.agg #[.int .i64 4, .int .i64 x57, .int .i64 0, .int .i64 0, .string (bs []), .slice none 0 0, .slice none 0 0])) (vs := #[(0, .int .i64 4), (1, .int .i64 x57)]) (fun _ ha => evp2 ha rfl rfl) (fun _ => by kernel_rfl)) rfl ?_
   refine St.storen (R := []) rfl rfl 0 rfl rfl ta40 rfl rfl rfl trivial (cs' := #[.int .i64 4, .int .i64 x57, .int .i64 0, .int .i64 0, .string (bs []), .slice none 0 0, .slice none 0 0]) rfl ?_
   refine sas rfl rfl ?_
   refine snn ?_
   refine St.ret ?_
   refine St.inret ?_
   refine St.thenret ?_
   obtain rfl := sI hm
   obtain rfl := aR ho5
   exact St.doneR2 rfl (ResOk.cell rfl (Loads.Hk (vs := [.int .i64 4, .int .i64 x57, .int .i64 0, .int .i64 0, .string (bs []), .slice none 0 0, .slice none 0 0]) 0 rfl ta40 rfl rfl)) rfl ⟨none, 0, none, 0, rfl, Fsl.nil, Fsl.nil, rfl⟩ (fun w hs => Among.of Among.none w hs)
  intro q64
  replace q64 : ¬ (x6 = ([101, 110, 100] : List UInt8)) := of_decide_eq_false q64
  replace hm := iF hm q64
  refine ssr ?_
  refine sv (v := (.bool (decide (x6 = ([110, 111, 100, 101] : List UInt8))))) (Yields.eqStr rfl rfl) rfl ?_
  refine sas rfl rfl ?_
  refine snn ?_
  refine St.cond_b rfl ?_ ?_
  ·intro q65
   replace q65 : x6 = ([110, 111, 100, 101] : List UInt8) := of_decide_eq_true q65
   replace hm := iT hm q65
   refine ssr ?_
   refine smv rfl rfl ?_
   refine sv (v := (.int .i64 ((a0.length : Nat) : Int))) (Yields.lenSlice tu29 rfl) rfl ?_
   refine sv (v := (.bool (decide (((a0.length : Nat) : Int) > 1)))) (Yields.gt rfl rfl) rfl ?_
   refine snn ?_
   refine St.cond_b rfl ?_ ?_
   ·intro q66
    replace q66 : ((a0.length : Nat) : Int) > 1 := of_decide_eq_true q66
    replace hm := iT hm q66
    refine St.seq ?_
    refine StD.start [5, 8] [blk b2 (.cells #[.int .i64 0, .int .i64 0, .int .i64 0, .int .i64 0, .string (bs []), .slice none 0 0, .slice none 0 0] 40 (0, 0))] hmix ?_
    refine sdp 0 (v := (.slice pA0 a0.length pc0)) (listed' := #[true, false, false, false, false, false, false, false, false, false]) rfl (fun _ => Yields.move rfl) rfl (by kernel_rfl) rfl ?_
    obtain ⟨x67, e68, hm⟩ := bS hm
    replace e68 := nlit e68
    obtain ⟨p69, cs70, jx71, R72, k73⟩ := ph0.idx e68
    obtain rfl := R72
    refine sdp 1 (v := (.pointer (some p69))) (listed' := #[true, true, false, false, false, false, false, false, false, false]) rfl (fun _ => Yields.idx jx71 ts29 rfl rfl) rfl (by kernel_rfl) rfl ?_
    refine sdt [0, 1, 3, 4, 6, 7, 9] 2 (v := (.string (bs x67))) (listed' := #[true, true, true, false, false, false, false, false, false, false]) rfl (Yields.load rfl (Loads.Fat k73 tc9 rfl)) rfl Among.refl (by kernel_rfl) rfl ?_
    refine sdp 3 (v := (.slice pA0 a0.length pc0)) (listed' := #[true, true, true, true, false, false, false, false, false, false]) rfl (fun _ => Yields.move rfl) rfl (by kernel_rfl) rfl ?_
    obtain ⟨x78, e79, hm⟩ := bS hm
    obtain ⟨A74, c75, s76, h77⟩ := ph0.subx e79
    refine sdp 4 (v := (.slice A74 x78.length c75)) (listed' := #[true, true, true, true, true, false, false, false, false, false]) rfl (fun _ => Yields.subD s76 ts29 rfl rfl) rfl (by kernel_rfl) rfl ?_
    refine StD.only (i := 5) rfl (by kernel_rfl) (listed' := #[true, true, true, true, true, true, false, false, false, false]) rfl ?_
    intro hcl81
    obtain ⟨q82, e83, hm⟩ := bS hm
    refine St.call [blk b2 (.cells #[.int .i64 0, .int .i64 0, .int .i64 0, .int .i64 0, .string (bs []), .slice none 0 0, .slice none 0 0] 40 (0, 0))] (m_code_node_sp h77 e83) rfl (fun _ ha => ev2 ha rfl rfl) rfl en26 rfl rfl trivial ?_
    rintro _ F84 _ ⟨A86, c87, rfl, h88, rfl⟩ l85
    refine StD.next hcl81 (fun h => by cases h) ?_
    refine sdp 6 (v := (.agg #[.int .i64 q82.1, .int .i64 q82.2.1, .int .i64 q82.2.2.1, .int .i64 q82.2.2.2.1, .string (bs q82.2.2.2.2.1), .slice A86 q82.2.2.2.2.2.1.length c87, .slice none 0 0])) (listed' := #[true, true, true, true, true, true, true, false, false, false]) rfl (fun _ => Yields.extract rfl rfl) rfl (by kernel_rfl) rfl ?_
    refine sdp 7 (v := (.bool q82.2.2.2.2.2.2)) (listed' := #[true, true, true, true, true, true, true, true, false, false]) rfl (fun _ => Yields.extract rfl rfl) rfl (by kernel_rfl) rfl ?_
    refine StD.only (i := 8) rfl (by kernel_rfl) (listed' := #[true, true, true, true, true, true, true, true, true, false]) rfl ?_
    intro hcl90
    refine St.storen (R := []) rfl rfl 0 rfl rfl ta40 rfl rfl rfl trivial (cs' := #[.int .i64 q82.1, .int .i64 q82.2.1, .int .i64 q82.2.2.1, .int .i64 q82.2.2.2.1, .string (bs q82.2.2.2.2.1), .slice A86 q82.2.2.2.2.2.1.length c87, .slice none 0 0]) rfl ?_
    refine StD.next hcl90 (fun h => by cases h) ?_
    refine sdp 9 (v := (.bool q82.2.2.2.2.2.2)) (listed' := #[true, true, true, true, true, true, true, true, true, true]) rfl (fun _ => Yields.assign rfl) rfl (by kernel_rfl) rfl ?_
    refine StD.done (by kernel_rfl) ?_
    refine St.norm ?_
    refine St.ret ?_
    refine St.inret ?_
    refine St.thenret ?_
    obtain rfl := sI hm
    obtain rfl := aR ho5
    exact St.doneR2 rfl (ResOk.cell rfl (Loads.Hk (vs := [.int .i64 q82.1, .int .i64 q82.2.1, .int .i64 q82.2.2.1, .int .i64 q82.2.2.2.1, .string (bs q82.2.2.2.2.1), .slice A86 q82.2.2.2.2.2.1.length c87, .slice none 0 0]) 0 rfl ta40 rfl rfl)) rfl ⟨A86, c87, none, 0, rfl, h88, Fsl.nil, rfl⟩ (fun w hs => Among.of Among.none w hs)
   intro q91
   replace q91 : ¬ (((a0.length : Nat) : Int) > 1) := of_decide_eq_false q91
   replace hm := iF hm q91
   refine St.skip ?_
   refine St.innorm ?_
   obtain rfl := sI hm
   intro a w ha hs
   exact ⟨(), rfl, ha.covers ⟨rfl, trivial⟩, (Among.of (Among.take 0 rfl rfl Among.none) _ hs)⟩
  intro q92
  replace q92 : ¬ (x6 = ([110, 111, 100, 101] : List UInt8)) := of_decide_eq_false q92
  replace hm := iF hm q92
  refine St.skip ?_
  refine St.innorm ?_
  obtain rfl := sI hm
  intro a w ha hs
  exact ⟨(), rfl, ha.covers ⟨rfl, trivial⟩, (Among.of (Among.take 0 rfl rfl Among.none) _ hs)⟩
 rintro a w ⟨z3, rfl, ha, hs⟩
 replace hm := aL ho5
 refine St.use (?_ : St _ _ _ _ _ _) ha hs
 clear ha hs a w
 refine ssr ?_
 refine sv (v := (.agg #[.int .i64 0, .int .i64 0, .int .i64 0, .int .i64 0, .string (bs []), .slice none 0 0, .slice none 0 0])) (Yields.build (v := (.agg #[.int .i64 0, .int .i64 0, .int .i64 0, .int .i64 0, .string (bs []), .slice none 0 0, .slice none 0 0])) (vs := #[]) (fun a _ => by simp) (fun _ => by kernel_rfl)) rfl ?_
 refine St.storen (R := []) rfl rfl 0 rfl rfl ta40 rfl rfl rfl trivial (cs' := #[.int .i64 0, .int .i64 0, .int .i64 0, .int .i64 0, .string (bs []), .slice none 0 0, .slice none 0 0]) rfl ?_
 refine sas rfl rfl ?_
 refine snn ?_
 refine St.ret ?_
 obtain rfl := sI hm
 exact St.doneR2 rfl (ResOk.cell rfl (Loads.Hk (vs := [.int .i64 0, .int .i64 0, .int .i64 0, .int .i64 0, .string (bs []), .slice none 0 0, .slice none 0 0]) 0 rfl ta40 rfl rfl)) rfl ⟨none, 0, none, 0, rfl, Fsl.nil, Fsl.nil, rfl⟩ (fun w hs => Among.of Among.none w hs)
theorem m_code_large_f1_sp {F : PH} {g : Nat} {a0 : DCode} {pA0_0 : Option Addr} {pc0_0 : Nat} (ph0_0 : Fsl 96 KDInstr F pA0_0 pc0_0 a0.L) {r : Bool} (hm : m_code_large_f1 g a0 = some r) :
  CallSp Tryz.prog 52 #[.agg #[.string (bs a0.Name), .int .i64 a0.Arity, .slice pA0_0 a0.L.length pc0_0]] F [] (fun u F' H' => u = (.bool r) ∧ H' = []) := by

 unfold m_code_large_f1 at hm
 refine CallSp.enter (args := [.agg #[.string (bs a0.Name), .int .i64 a0.Arity, .slice pA0_0 a0.L.length pc0_0]]) Tryz.func52 rfl rfl ?_
 intro w0 m0 hm0
 refine ssr ?_
 refine St.box rfl trivial rfl ?_
 intro b2
 refine sas rfl rfl ?_
 refine snn ?_
 refine ssr ?_
 refine sfa (v := (.pointer (some ⟨b2, 2, none⟩))) rfl (fun _ => by kernel_rfl) rfl ?_
 refine sv (v := (.slice pA0_0 a0.L.length pc0_0)) (Yields.load rfl (Loads.H1 0 rfl tc34 rfl)) rfl ?_
 refine sv (v := (.int .i64 ((a0.L.length : Nat) : Int))) (Yields.lenSlice tu34 rfl) rfl ?_
 refine sv (v := (.bool (decide (((a0.L.length : Nat) : Int) > 400)))) (Yields.gt rfl rfl) rfl ?_
 refine sas rfl rfl ?_
 refine snn ?_
 refine St.ret ?_
 obtain rfl := sI hm
 exact St.doneR1 rfl rfl ⟨rfl, rfl⟩ (fun w hs => Among.of Among.none w hs)
theorem m_api_Code_2_sp {F : PH} {g : Nat} {a0 : List DCode} {pA0 : Option Addr} {pc0 : Nat} (ph0 : Fsl 48 KDCode F pA0 pc0 a0) {r : Int} (hm : m_api_Code_2 g a0 = some r) :
  CallSp Tryz.prog 75 #[.slice pA0 a0.length pc0, .func (.func 52) #[] #[]] F [] (fun u F' H' => u = (.int .i64 r) ∧ H' = []) := by

 unfold m_api_Code_2 at hm
 refine CallSp.enter (args := [.slice pA0 a0.length pc0, .func (.func 52) #[] #[]]) Tryz.func75 rfl rfl ?_
 intro w0 m0 hm0
 refine ssr ?_
 refine sas rfl rfl ?_
 refine snn ?_
 obtain ⟨o5, hm, ho6⟩ := jS hm
 refine St.cutI (fun a w => ∃ z2 : Unit, o5 = .inl z2 ∧ ∃ (F3 : PH), PH.le F F3 ∧ Has Tryz.f75.ntmps a [] ∧ Sat ⟨w0, fun b => m0 b ≠ none, F⟩ F3 [] w) ?_ ?_
 ·skip
  refine ssr ?_
  refine smv rfl rfl ?_
  refine sv (v := (.int .i64 ((a0.length : Nat) : Int))) (Yields.lenSlice tu22 rfl) rfl ?_
  refine smv rfl rfl ?_
  refine snn ?_
  refine St.block ?_
  refine St.loopM hm (fun s9 a w => ∃ (F13 : PH), PH.le F F13 ∧ Has Tryz.f75.ntmps a [(0, .slice pA0 a0.length pc0), (1, .func (.func 52) #[] #[]), (7, .int .i64 ((a0.length : Nat) : Int)), (8, .int .i64 ((s9 : Nat) : Int))] ∧ Sat ⟨w0, fun b => m0 b ≠ none, F⟩ F13 [] w) ?_ ?_
  ·skip
   intro a w ha hs
   exact ⟨F, (PH.le_refl _), ha.covers ⟨rfl, rfl, rfl, rfl, trivial⟩, (Among.of Among.none _ hs)⟩
  rintro s9 o10 co11 hm ho12 a w ⟨F13, l14, ha, hs⟩
  refine St.use (?_ : St _ _ _ _ _ _) ha hs
  clear ha hs a w
  refine ssr ?_
  refine sv (v := (.bool (decide (((s9 : Nat) : Int) < ((a0.length : Nat) : Int))))) (Yields.lt rfl rfl) rfl ?_
  refine snn ?_
  refine St.seq ?_
  refine St.cond_b rfl ?_ ?_
  ·intro q15
   replace q15 : ((s9 : Nat) : Int) < ((a0.length : Nat) : Int) := of_decide_eq_true q15
   replace hm := iT hm q15
   refine skn ?_
   refine St.seq ?_
   refine St.block ?_
   refine ssr ?_
   refine smv rfl rfl ?_
   refine sas rfl rfl ?_
   refine snn ?_
   refine ssr ?_
   refine smv rfl rfl ?_
   refine smv rfl rfl ?_
   refine smv rfl rfl ?_
   obtain ⟨x16, e17, hm⟩ := bS hm
   obtain ⟨p18, cs19, jx20, R21, k22⟩ := (Fsl.mono l14 ph0).nidx e17
   obtain ⟨A23, c24, rfl, h25⟩ := DCode.opn R21
   refine sv (v := (.pointer (some p18))) (Yields.idx jx20 ts22 rfl rfl) rfl ?_
   refine sv (v := (.agg #[.string (bs x16.Name), .int .i64 x16.Arity, .slice A23 x16.L.length c24])) (Yields.load rfl (Loads.Fatn0 k22 ta36)) rfl ?_
   obtain ⟨q27, e28, hm⟩ := bS hm
   refine St.call [] (m_code_large_f1_sp (a0 := x16) h25 e28) rfl (fun _ ha => ev1 ha rfl) rfl en52 rfl rfl trivial ?_
   rintro _ F29 _ ⟨rfl, rfl⟩ l30
   refine snn ?_
   refine St.cond_b rfl ?_ ?_
   ·intro q31
    replace q31 : q27 = true := q31
    replace hm := iT hm q31
    refine ssr ?_
    refine smv rfl rfl ?_
    refine sas rfl rfl ?_
    refine snn ?_
    refine St.ret ?_
    refine St.inret ?_
    refine St.thenret ?_
    refine St.thenret ?_
    refine St.inret ?_
    refine St.thenret ?_
    obtain rfl := sI hm
    obtain rfl := aR ho12
    obtain rfl := aR ho6
    exact St.doneR1 rfl rfl ⟨rfl, rfl⟩ (fun w hs => Among.of Among.none w hs)
   intro q32
   replace q32 : ¬ (q27 = true) := bf q32
   replace hm := iF hm q32
   refine St.skip ?_
   refine St.innorm ?_
   refine St.norm ?_
   refine St.region ?_
   refine sv (v := (.int .i64 ((s9 + 1 : Nat) : Int))) (Yields.addn (j := 1) rfl rfl rfl (by have q_0 := q15; have q_1 := ph0.bnd.2; omega)) rfl ?_
   refine smv rfl rfl ?_
   refine snn ?_
   obtain rfl := sI hm
   intro a w ha hs
   exact ⟨s9 + 1, aL ho12, F29, (PH.le_trans l14 l30), ha.covers ⟨rfl, rfl, rfl, rfl, trivial⟩, (Among.of Among.none _ hs)⟩
  intro q33
  replace q33 : ¬ (((s9 : Nat) : Int) < ((a0.length : Nat) : Int)) := of_decide_eq_false q33
  replace hm := iF hm q33
  refine St.exit ?_
  refine St.thenexit ?_
  refine St.thenexit ?_
  refine St.inexit ?_
  obtain rfl := sI hm
  obtain rfl := aR ho12
  intro a w ha hs
  exact ⟨(), rfl, F13, l14, ha.covers trivial, (Among.of Among.none _ hs)⟩
 rintro a w ⟨z2, rfl, F3, l4, ha, hs⟩
 replace hm := aL ho6
 refine St.use (?_ : St _ _ _ _ _ _) ha hs
 clear ha hs a w
 refine ssr ?_
 refine sas rfl rfl ?_
 refine snn ?_
 refine St.ret ?_
 obtain rfl := sI hm
 exact St.doneR1 rfl rfl ⟨rfl, rfl⟩ (fun w hs => Among.of Among.none w hs)
theorem m_api_Code_sp {F : PH} {g : Nat} {a0 : List DCode} {pA0 : Option Addr} {pc0 : Nat} (ph0 : Fsl 48 KDCode F pA0 pc0 a0) {r : Bool} (hm : m_api_Code g a0 = some r) :
  CallSp Tryz.prog 51 #[.slice pA0 a0.length pc0, .func (.func 52) #[] #[]] F [] (fun u F' H' => u = (.bool r) ∧ H' = []) := by

 unfold m_api_Code at hm
 refine CallSp.enter (args := [.slice pA0 a0.length pc0, .func (.func 52) #[] #[]]) Tryz.func51 rfl rfl ?_
 intro w0 m0 hm0
 refine ssr ?_
 refine sas rfl rfl ?_
 refine snn ?_
 refine ssr ?_
 refine smv rfl rfl ?_
 refine smv rfl rfl ?_
 obtain ⟨q2, e3, hm⟩ := bS hm
 refine St.call [] (m_api_Code_2_sp ph0 e3) rfl (fun _ ha => ev2 ha rfl rfl) rfl en75 rfl rfl trivial ?_
 rintro _ F4 _ ⟨rfl, rfl⟩ l5
 refine sv (v := (.bool (decide (q2 ≥ 0)))) (Yields.ge rfl rfl) rfl ?_
 refine sas rfl rfl ?_
 refine snn ?_
 refine St.ret ?_
 obtain rfl := sI hm
 exact St.doneR1 rfl rfl ⟨rfl, rfl⟩ (fun w hs => Among.of Among.none w hs)
theorem m_code_large_sp {F : PH} {g : Nat} {a0 : List DCode} {pA0 : Option Addr} {pc0 : Nat} (ph0 : Fsl 48 KDCode F pA0 pc0 a0) {r : Bool} (hm : m_code_large g a0 = some r) :
  CallSp Tryz.prog 27 #[.slice pA0 a0.length pc0] F [] (fun u F' H' => u = (.bool r) ∧ H' = []) := by

 unfold m_code_large at hm
 refine CallSp.enter (args := [.slice pA0 a0.length pc0]) Tryz.func27 rfl rfl ?_
 intro w0 m0 hm0
 refine ssr ?_
 refine sas rfl rfl ?_
 refine snn ?_
 obtain ⟨z2, hm, hk5⟩ := bS hm
 refine St.cutI (fun a w => ∃ (F3 : PH), PH.le F F3 ∧ Has Tryz.f27.ntmps a [(2, .bool z2)] ∧ Sat ⟨w0, fun b => m0 b ≠ none, F⟩ F3 [] w) ?_ ?_
 ·skip
  refine St.region ?_
  refine smv rfl rfl ?_
  refine sv (v := (.int .i64 ((a0.length : Nat) : Int))) (Yields.lenSlice tu22 rfl) rfl ?_
  by_cases q6 : ((a0.length : Nat) : Int) > 120
  ·replace hm := iT hm q6
   refine sv (v := vT) (Yields.is q6 (Yields.gt rfl rfl)) rfl ?_
   refine smv rfl rfl ?_
   refine su rfl rfl rfl ?_
   refine su rfl rfl rfl ?_
   refine spt rfl rfl rfl ?_
   refine sas rfl rfl ?_
   refine St.nil ?_
   obtain rfl := sI hm
   intro a w ha hs
   exact ⟨F, (PH.le_refl _), ha.covers ⟨rfl, trivial⟩, (Among.of Among.none _ hs)⟩
  replace hm := iF hm q6
  refine sv (v := vF) (Yields.isnt q6 (Yields.gt rfl rfl)) rfl ?_
  refine smv rfl rfl ?_
  refine St.val (v := (.slice pA0 a0.length pc0)) (Yields.move rfl) rfl rfl rfl ?_
  obtain ⟨q7, e8, hm⟩ := bS hm
  refine St.call [] (m_api_Code_sp ph0 e8) rfl (fun _ ha => ev2 ha rfl rfl) rfl en51 rfl rfl rfl ?_
  rintro _ F9 _ ⟨rfl, rfl⟩ l10
  refine spf rfl rfl rfl ?_
  refine sas rfl rfl ?_
  refine St.nil ?_
  obtain rfl := sI hm
  intro a w ha hs
  exact ⟨F9, l10, ha.covers ⟨rfl, trivial⟩, (Among.of Among.none _ hs)⟩
 rintro a w ⟨F3, l4, ha, hs⟩
 replace hm := hk5
 refine St.use (?_ : St _ _ _ _ _ _) ha hs
 clear ha hs a w
 refine St.ret ?_
 obtain rfl := sI hm
 exact St.doneR1 rfl rfl ⟨rfl, rfl⟩ (fun w hs => Among.of Among.none w hs)
theorem m_slices_Index_string_string_sp {F : PH} {g : Nat} {a0 : List (List UInt8)} {a1 : List UInt8} {pA0 : Option Addr} {pc0 : Nat} (ph0 : Fsl 16 Kind.str F pA0 pc0 a0) {r : Int} (hm : m_slices_Index_string_string g a0 a1 = some r) :
  CallSp Tryz.prog 76 #[.slice pA0 a0.length pc0, .string (bs a1)] F [] (fun u F' H' => u = (.int .i64 r) ∧ H' = []) := by

 unfold m_slices_Index_string_string at hm
 refine CallSp.enter (args := [.slice pA0 a0.length pc0, .string (bs a1)]) Tryz.func76 rfl rfl ?_
 intro w0 m0 hm0
 refine ssr ?_
 refine sas rfl rfl ?_
 refine snn ?_
 obtain ⟨o3, hm, ho4⟩ := jS hm
 refine St.cutI (fun a w => ∃ z2 : Unit, o3 = .inl z2 ∧ Has Tryz.f76.ntmps a [] ∧ Sat ⟨w0, fun b => m0 b ≠ none, F⟩ F [] w) ?_ ?_
 ·skip
  refine ssr ?_
  refine smv rfl rfl ?_
  refine sv (v := (.int .i64 ((a0.length : Nat) : Int))) (Yields.lenSlice tu29 rfl) rfl ?_
  refine smv rfl rfl ?_
  refine snn ?_
  refine St.block ?_
  refine St.loopM hm (fun s6 a w => Has Tryz.f76.ntmps a [(0, .slice pA0 a0.length pc0), (1, .string (bs a1)), (7, .int .i64 ((a0.length : Nat) : Int)), (8, .int .i64 ((s6 : Nat) : Int))] ∧ Sat ⟨w0, fun b => m0 b ≠ none, F⟩ F [] w) ?_ ?_
  ·skip
   intro a w ha hs
   exact ⟨ha.covers ⟨rfl, rfl, rfl, rfl, trivial⟩, (Among.of Among.none _ hs)⟩
  rintro s6 o7 co8 hm ho9 a w ⟨ha, hs⟩
  refine St.use (?_ : St _ _ _ _ _ _) ha hs
  clear ha hs a w
  refine ssr ?_
  refine sv (v := (.bool (decide (((s6 : Nat) : Int) < ((a0.length : Nat) : Int))))) (Yields.lt rfl rfl) rfl ?_
  refine snn ?_
  refine St.seq ?_
  refine St.cond_b rfl ?_ ?_
  ·intro q10
   replace q10 : ((s6 : Nat) : Int) < ((a0.length : Nat) : Int) := of_decide_eq_true q10
   replace hm := iT hm q10
   refine skn ?_
   refine St.seq ?_
   refine St.block ?_
   refine ssr ?_
   refine smv rfl rfl ?_
   refine sas rfl rfl ?_
   refine snn ?_
   refine ssr ?_
   refine smv rfl rfl ?_
   refine smv rfl rfl ?_
   refine smv rfl rfl ?_
   obtain ⟨x11, e12, hm⟩ := bS hm
   obtain ⟨p13, cs14, jx15, R16, k17⟩ := ph0.nidx e12
   obtain rfl := R16
   refine sv (v := (.pointer (some p13))) (Yields.idx jx15 ts29 rfl rfl) rfl ?_
   refine sv (v := (.string (bs x11))) (Yields.load rfl (Loads.Fat k17 tc9 rfl)) rfl ?_
   refine sv (v := (.bool (decide (a1 = x11)))) (Yields.eqStr rfl rfl) rfl ?_
   refine snn ?_
   refine St.cond_b rfl ?_ ?_
   ·intro q18
    replace q18 : a1 = x11 := of_decide_eq_true q18
    replace hm := iT hm q18
    refine ssr ?_
    refine smv rfl rfl ?_
    refine sas rfl rfl ?_
    refine snn ?_
    refine St.ret ?_
    refine St.inret ?_
    refine St.thenret ?_
    refine St.thenret ?_
    refine St.inret ?_
    refine St.thenret ?_
    obtain rfl := sI hm
    obtain rfl := aR ho9
    obtain rfl := aR ho4
    exact St.doneR1 rfl rfl ⟨rfl, rfl⟩ (fun w hs => Among.of Among.none w hs)
   intro q19
   replace q19 : ¬ (a1 = x11) := of_decide_eq_false q19
   replace hm := iF hm q19
   refine St.skip ?_
   refine St.innorm ?_
   refine St.norm ?_
   refine St.region ?_
   refine sv (v := (.int .i64 ((s6 + 1 : Nat) : Int))) (Yields.addn (j := 1) rfl rfl rfl (by have q_0 := q10; have q_1 := ph0.bnd.2; omega)) rfl ?_
   refine smv rfl rfl ?_
   refine snn ?_
   obtain rfl := sI hm
   intro a w ha hs
   exact ⟨s6 + 1, aL ho9, ha.covers ⟨rfl, rfl, rfl, rfl, trivial⟩, (Among.of Among.none _ hs)⟩
  intro q20
  replace q20 : ¬ (((s6 : Nat) : Int) < ((a0.length : Nat) : Int)) := of_decide_eq_false q20
  replace hm := iF hm q20
  refine St.exit ?_
  refine St.thenexit ?_
  refine St.thenexit ?_
  refine St.inexit ?_
  obtain rfl := sI hm
  obtain rfl := aR ho9
  intro a w ha hs
  exact ⟨(), rfl, ha.covers trivial, (Among.of Among.none _ hs)⟩
 rintro a w ⟨z2, rfl, ha, hs⟩
 replace hm := aL ho4
 refine St.use (?_ : St _ _ _ _ _ _) ha hs
 clear ha hs a w
 refine ssr ?_
 refine sas rfl rfl ?_
 refine snn ?_
 refine St.ret ?_
 obtain rfl := sI hm
 exact St.doneR1 rfl rfl ⟨rfl, rfl⟩ (fun w hs => Among.of Among.none w hs)
theorem m_slices_Contains_string_string_sp {F : PH} {g : Nat} {a0 : List (List UInt8)} {a1 : List UInt8} {pA0 : Option Addr} {pc0 : Nat} (ph0 : Fsl 16 Kind.str F pA0 pc0 a0) {r : Bool} (hm : m_slices_Contains_string_string g a0 a1 = some r) :
  CallSp Tryz.prog 53 #[.slice pA0 a0.length pc0, .string (bs a1)] F [] (fun u F' H' => u = (.bool r) ∧ H' = []) := by

 unfold m_slices_Contains_string_string at hm
 refine CallSp.enter (args := [.slice pA0 a0.length pc0, .string (bs a1)]) Tryz.func53 rfl rfl ?_
 intro w0 m0 hm0
 refine ssr ?_
 refine sas rfl rfl ?_
 refine snn ?_
 refine ssr ?_
 refine smv rfl rfl ?_
 refine smv rfl rfl ?_
 obtain ⟨q2, e3, hm⟩ := bS hm
 refine St.call [] (m_slices_Index_string_string_sp ph0 e3) rfl (fun _ ha => ev2 ha rfl rfl) rfl en76 rfl rfl trivial ?_
 rintro _ F4 _ ⟨rfl, rfl⟩ l5
 refine sv (v := (.bool (decide (q2 ≥ 0)))) (Yields.ge rfl rfl) rfl ?_
 refine sas rfl rfl ?_
 refine snn ?_
 refine St.ret ?_
 obtain rfl := sI hm
 exact St.doneR1 rfl rfl ⟨rfl, rfl⟩ (fun w hs => Among.of Among.none w hs)
theorem m_code_isName_sp {F : PH} {g : Nat} {a0 : List UInt8} {a1 : Bool} {r : Bool} (hm : m_code_isName g a0 a1 = some r) :
  CallSp Tryz.prog 28 #[.string (bs a0), .bool a1] F [] (fun u F' H' => u = (.bool r) ∧ H' = []) := by

 unfold m_code_isName at hm
 refine CallSp.enter (args := [.string (bs a0), .bool a1]) Tryz.func28 rfl rfl ?_
 intro w0 m0 hm0
 refine ssr ?_
 refine sas rfl rfl ?_
 refine snn ?_
 refine St.seq ?_
 obtain ⟨z1, hm, hk4⟩ := bS hm
 refine St.cutI (fun a w => ∃ (F2 : PH), PH.le F F2 ∧ Has Tryz.f28.ntmps a [(0, .string (bs a0)), (1, .bool a1), (18, .bool z1)] ∧ Sat ⟨w0, fun b => m0 b ≠ none, F⟩ F2 [] w) ?_ ?_
 ·skip
  refine St.region ?_
  refine smv rfl rfl ?_
  refine sv (v := (.int .i64 ((a0.length : Nat) : Int))) (Yields.lenStr tu9 rfl) rfl ?_
  by_cases q5 : ((a0.length : Nat) : Int) < 1
  ·replace hm := iT hm q5
   refine sv (v := vT) (Yields.is q5 (Yields.lt rfl rfl)) rfl ?_
   refine smv rfl rfl ?_
   refine su rfl rfl rfl ?_
   refine su rfl rfl rfl ?_
   refine su rfl rfl rfl ?_
   refine spt rfl rfl rfl ?_
   refine smv rfl rfl ?_
   refine su rfl rfl rfl ?_
   refine su rfl rfl rfl ?_
   refine su rfl rfl rfl ?_
   refine spt rfl rfl rfl ?_
   refine St.nil ?_
   obtain rfl := sI hm
   intro a w ha hs
   exact ⟨F, (PH.le_refl _), ha.covers ⟨rfl, rfl, rfl, trivial⟩, (Among.of Among.none _ hs)⟩
  replace hm := iF hm q5
  refine sv (v := vF) (Yields.isnt q5 (Yields.lt rfl rfl)) rfl ?_
  refine smv rfl rfl ?_
  refine St.val (v := (.string (bs a0))) (Yields.move rfl) rfl rfl rfl ?_
  refine St.val (v := (.int .i64 ((a0.length : Nat) : Int))) (Yields.lenStr tu9 rfl) rfl rfl rfl ?_
  by_cases q6 : ((a0.length : Nat) : Int) > 16
  ·replace hm := iT hm q6
   refine St.val (v := vT) (Yields.is q6 (Yields.gt rfl rfl)) rfl rfl rfl ?_
   refine spf rfl rfl rfl ?_
   refine smv rfl rfl ?_
   refine su rfl rfl rfl ?_
   refine su rfl rfl rfl ?_
   refine su rfl rfl rfl ?_
   refine spt rfl rfl rfl ?_
   refine St.nil ?_
   obtain rfl := sI hm
   intro a w ha hs
   exact ⟨F, (PH.le_refl _), ha.covers ⟨rfl, rfl, rfl, trivial⟩, (Among.of Among.none _ hs)⟩
  replace hm := iF hm q6
  refine St.val (v := vF) (Yields.isnt q6 (Yields.gt rfl rfl)) rfl rfl rfl ?_
  refine spf rfl rfl rfl ?_
  refine smv rfl rfl ?_
  refine St.val (v := (.string (bs a0))) (Yields.move rfl) rfl rfl rfl ?_
  obtain ⟨q7, e8, hm⟩ := bS hm
  refine St.call [] (m_code_isWord_sp e8) rfl (fun _ ha => ev1 ha rfl) rfl en10 rfl rfl rfl ?_
  rintro _ F9 _ ⟨rfl, rfl⟩ l10
  refine St.val (v := (.bool (!q7))) (Yields.not rfl) rfl rfl rfl ?_
  refine spf rfl rfl rfl ?_
  refine St.nil ?_
  obtain rfl := sI hm
  intro a w ha hs
  exact ⟨F9, l10, ha.covers ⟨rfl, rfl, rfl, trivial⟩, (Among.of Among.none _ hs)⟩
 rintro a w ⟨F2, l3, ha, hs⟩
 replace hm := hk4
 refine St.use (?_ : St _ _ _ _ _ _) ha hs
 clear ha hs a w
 refine St.cond_b rfl ?_ ?_
 ·intro q11
  replace q11 : z1 = true := q11
  replace hm := iT hm q11
  refine ssr ?_
  refine sas rfl rfl ?_
  refine snn ?_
  refine St.ret ?_
  refine St.thenret ?_
  obtain rfl := sI hm
  exact St.doneR1 rfl rfl ⟨rfl, rfl⟩ (fun w hs => Among.of Among.none w hs)
 intro q12
 replace q12 : ¬ (z1 = true) := bf q12
 replace hm := iF hm q12
 refine skn ?_
 refine St.seq ?_
 refine ssr ?_
 refine smv rfl rfl ?_
 refine snn ?_
 refine St.cond_b rfl ?_ ?_
 ·intro q13
  replace q13 : a1 = true := q13
  replace hm := iT hm q13
  obtain ⟨z14, hm, hk15⟩ := bS hm
  refine St.cutI (fun a w => Has Tryz.f28.ntmps a [(4, .bool z14)] ∧ Sat ⟨w0, fun b => m0 b ≠ none, F⟩ F2 [] w) ?_ ?_
  ·skip
   refine St.region ?_
   refine smv rfl rfl ?_
   obtain ⟨x16, e17, hm⟩ := bS hm
   refine sv (v := (.int .u8 ((x16.toNat : Nat) : Int))) (Yields.indexStr (nlit e17) tu9 rfl rfl) rfl ?_
   by_cases q18 : ((x16.toNat : Nat) : Int) ≥ 65
   ·replace hm := iT hm q18
    refine sv (v := vT) (Yields.is q18 (Yields.ge rfl rfl)) rfl ?_
    refine smv rfl rfl ?_
    refine St.val (v := (.string (bs a0))) (Yields.move rfl) rfl rfl rfl ?_
    obtain ⟨x19, e20, hm⟩ := bS hm
    refine St.val (v := (.int .u8 ((x19.toNat : Nat) : Int))) (Yields.indexStr (nlit e20) tu9 rfl rfl) rfl rfl rfl ?_
    refine St.val (v := (.bool (decide (((x19.toNat : Nat) : Int) ≤ 90)))) (Yields.le rfl rfl) rfl rfl rfl ?_
    refine spt rfl rfl rfl ?_
    refine sas rfl rfl ?_
    refine St.nil ?_
    obtain rfl := sI hm
    intro a w ha hs
    exact ⟨ha.covers ⟨rfl, trivial⟩, (Among.of Among.none _ hs)⟩
   replace hm := iF hm q18
   refine sv (v := vF) (Yields.isnt q18 (Yields.ge rfl rfl)) rfl ?_
   refine smv rfl rfl ?_
   refine su rfl rfl rfl ?_
   refine su rfl rfl rfl ?_
   refine su rfl rfl rfl ?_
   refine spf rfl rfl rfl ?_
   refine sas rfl rfl ?_
   refine St.nil ?_
   obtain rfl := sI hm
   intro a w ha hs
   exact ⟨ha.covers ⟨rfl, trivial⟩, (Among.of Among.none _ hs)⟩
  rintro a w ⟨ha, hs⟩
  replace hm := hk15
  refine St.use (?_ : St _ _ _ _ _ _) ha hs
  clear ha hs a w
  refine St.ret ?_
  refine St.thenret ?_
  obtain rfl := sI hm
  exact St.doneR1 rfl rfl ⟨rfl, rfl⟩ (fun w hs => Among.of Among.none w hs)
 intro q21
 replace q21 : ¬ (a1 = true) := bf q21
 replace hm := iF hm q21
 refine skn ?_
 refine ssr ?_
 refine St.buildSlice (e := 9) (cells := #[.string (bs [100, 97, 116, 97]), .string (bs [99, 108, 97, 115, 115]), .string (bs [105, 110, 115, 116, 97, 110, 99, 101]), .string (bs [111, 112]), .string (bs [101, 110, 100]), .string (bs [119, 104, 101, 114, 101]), .string (bs [108, 101, 116]), .string (bs [105, 110]), .string (bs [102, 114, 101, 101]), .string (bs [99, 97, 115, 101]), .string (bs [114, 105, 103, 105, 100]), .string (bs [111, 102]), .string (bs [102, 97, 105, 108])]) (vs := #[(0, .string (bs [100, 97, 116, 97])), (1, .string (bs [99, 108, 97, 115, 115])), (2, .string (bs [105, 110, 115, 116, 97, 110, 99, 101])), (3, .string (bs [111, 112])), (4, .string (bs [101, 110, 100])), (5, .string (bs [119, 104, 101, 114, 101])), (6, .string (bs [108, 101, 116])), (7, .string (bs [105, 110])), (8, .string (bs [102, 114, 101, 101])), (9, .string (bs [99, 97, 115, 101])), (10, .string (bs [114, 105, 103, 105, 100])), (11, .string (bs [111, 102])), (12, .string (bs [102, 97, 105, 108]))]) (fun a _ => by simp only [List.map_toArray, List.map_cons, List.map_nil, Act.eval] <;> rfl) (fun _ => by kernel_rfl) rfl trivial ?_
 intro b22
 refine St.weak (R := []) (c' := rowo (some ⟨b22, 0, none⟩) ([[100, 97, 116, 97], [99, 108, 97, 115, 115], [105, 110, 115, 116, 97, 110, 99, 101], [111, 112], [101, 110, 100], [119, 104, 101, 114, 101], [108, 101, 116], [105, 110], [102, 114, 101, 101], [99, 97, 115, 101], [114, 105, 103, 105, 100], [111, 102], [102, 97, 105, 108]] : List (List UInt8)).length 13 9 1 [.string (bs [100, 97, 116, 97]), .string (bs [99, 108, 97, 115, 115]), .string (bs [105, 110, 115, 116, 97, 110, 99, 101]), .string (bs [111, 112]), .string (bs [101, 110, 100]), .string (bs [119, 104, 101, 114, 101]), .string (bs [108, 101, 116]), .string (bs [105, 110]), .string (bs [102, 114, 101, 101]), .string (bs [99, 97, 115, 101]), .string (bs [114, 105, 103, 105, 100]), .string (bs [111, 102]), .string (bs [102, 97, 105, 108])]) 0 rfl rfl (fun m hm => rowo_of_row (row_of_blk (k := 13) rfl (by decide) hm)) ?_
 refine sas rfl rfl ?_
 refine snn ?_
 obtain ⟨z24, hm, hk27⟩ := bS hm
 refine St.cutI (fun a w => ∃ (F25 : PH), PH.le F2 F25 ∧ Has Tryz.f28.ntmps a [(4, .bool z24)] ∧ Sat ⟨w0, fun b => m0 b ≠ none, F⟩ F25 [] w) ?_ ?_
 ·skip
  refine St.region ?_
  refine smv rfl rfl ?_
  obtain ⟨x28, e29, hm⟩ := bS hm
  refine sv (v := (.int .u8 ((x28.toNat : Nat) : Int))) (Yields.indexStr (nlit e29) tu9 rfl rfl) rfl ?_
  by_cases q30 : ((x28.toNat : Nat) : Int) ≥ 97
  ·replace hm := iT hm q30
   refine sv (v := vT) (Yields.is q30 (Yields.ge rfl rfl)) rfl ?_
   refine smv rfl rfl ?_
   refine St.val (v := (.string (bs a0))) (Yields.move rfl) rfl rfl rfl ?_
   obtain ⟨x31, e32, hm⟩ := bS hm
   refine St.val (v := (.int .u8 ((x31.toNat : Nat) : Int))) (Yields.indexStr (nlit e32) tu9 rfl rfl) rfl rfl rfl ?_
   by_cases q33 : ((x31.toNat : Nat) : Int) ≤ 122
   ·replace hm := iT hm q33
    refine St.val (v := vT) (Yields.is q33 (Yields.le rfl rfl)) rfl rfl rfl ?_
    refine spt rfl rfl rfl ?_
    refine smv rfl rfl ?_
    refine su rfl rfl rfl ?_
    refine su rfl rfl rfl ?_
    refine su rfl rfl rfl ?_
    refine su rfl rfl rfl ?_
    refine St.unwanted trivial rfl rfl ?_
    refine St.unwanted trivial rfl rfl ?_
    refine St.unwanted trivial rfl rfl ?_
    refine su rfl rfl rfl ?_
    refine spt rfl rfl rfl ?_
    refine smv rfl rfl ?_
    refine St.val (v := (.slice (some ⟨b22, 0, none⟩) ([[100, 97, 116, 97], [99, 108, 97, 115, 115], [105, 110, 115, 116, 97, 110, 99, 101], [111, 112], [101, 110, 100], [119, 104, 101, 114, 101], [108, 101, 116], [105, 110], [102, 114, 101, 101], [99, 97, 115, 101], [114, 105, 103, 105, 100], [111, 102], [102, 97, 105, 108]] : List (List UInt8)).length 13)) (Yields.move rfl) rfl rfl rfl ?_
    refine St.val (v := (.string (bs a0))) (Yields.move rfl) rfl rfl rfl ?_
    refine St.pick (R := []) 0 rfl rfl ?_
    obtain ⟨q34, e35, hm⟩ := bS hm
    refine St.call [] (CallSp.lend (Hl := [rowo (some ⟨b22, 0, none⟩) ([[100, 97, 116, 97], [99, 108, 97, 115, 115], [105, 110, 115, 116, 97, 110, 99, 101], [111, 112], [101, 110, 100], [119, 104, 101, 114, 101], [108, 101, 116], [105, 110], [102, 114, 101, 101], [99, 97, 115, 101], [114, 105, 103, 105, 100], [111, 102], [102, 97, 105, 108]] : List (List UInt8)).length 13 9 1 [.string (bs [100, 97, 116, 97]), .string (bs [99, 108, 97, 115, 115]), .string (bs [105, 110, 115, 116, 97, 110, 99, 101]), .string (bs [111, 112]), .string (bs [101, 110, 100]), .string (bs [119, 104, 101, 114, 101]), .string (bs [108, 101, 116]), .string (bs [105, 110]), .string (bs [102, 114, 101, 101]), .string (bs [99, 97, 115, 101]), .string (bs [114, 105, 103, 105, 100]), .string (bs [111, 102]), .string (bs [102, 97, 105, 108])]]) (fun m_ hm_ hd_ h1_ h2_ => (m_slices_Contains_string_string_sp (lentR hm_ 0 rfl rfl (show Cat Kind.str F2 [.string (bs [100, 97, 116, 97]), .string (bs [99, 108, 97, 115, 115]), .string (bs [105, 110, 115, 116, 97, 110, 99, 101]), .string (bs [111, 112]), .string (bs [101, 110, 100]), .string (bs [119, 104, 101, 114, 101]), .string (bs [108, 101, 116]), .string (bs [105, 110]), .string (bs [102, 114, 101, 101]), .string (bs [99, 97, 115, 101]), .string (bs [114, 105, 103, 105, 100]), .string (bs [111, 102]), .string (bs [102, 97, 105, 108])] ([[100, 97, 116, 97], [99, 108, 97, 115, 115], [105, 110, 115, 116, 97, 110, 99, 101], [111, 112], [101, 110, 100], [119, 104, 101, 114, 101], [108, 101, 116], [105, 110], [102, 114, 101, 101], [99, 97, 115, 101], [114, 105, 103, 105, 100], [111, 102], [102, 97, 105, 108]] : List (List UInt8)) from ⟨[.string (bs [100, 97, 116, 97])], _, rfl, rfl, ⟨[.string (bs [99, 108, 97, 115, 115])], _, rfl, rfl, ⟨[.string (bs [105, 110, 115, 116, 97, 110, 99, 101])], _, rfl, rfl, ⟨[.string (bs [111, 112])], _, rfl, rfl, ⟨[.string (bs [101, 110, 100])], _, rfl, rfl, ⟨[.string (bs [119, 104, 101, 114, 101])], _, rfl, rfl, ⟨[.string (bs [108, 101, 116])], _, rfl, rfl, ⟨[.string (bs [105, 110])], _, rfl, rfl, ⟨[.string (bs [102, 114, 101, 101])], _, rfl, rfl, ⟨[.string (bs [99, 97, 115, 101])], _, rfl, rfl, ⟨[.string (bs [114, 105, 103, 105, 100])], _, rfl, rfl, ⟨[.string (bs [111, 102])], _, rfl, rfl, ⟨[.string (bs [102, 97, 105, 108])], _, rfl, rfl, rfl⟩⟩⟩⟩⟩⟩⟩⟩⟩⟩⟩⟩⟩) (show Bnd 16 ([[100, 97, 116, 97], [99, 108, 97, 115, 115], [105, 110, 115, 116, 97, 110, 99, 101], [111, 112], [101, 110, 100], [119, 104, 101, 114, 101], [108, 101, 116], [105, 110], [102, 114, 101, 101], [99, 97, 115, 101], [114, 105, 103, 105, 100], [111, 102], [102, 97, 105, 108]] : List (List UInt8)) from ⟨by simp, by simp⟩) h1_ h2_) e35).mono (fun _ _ _ h_ _ _ => h_))) rfl (fun _ ha => ev2 ha rfl rfl) rfl en53 rfl rfl rfl ?_
    rintro _ F36 _ ⟨_, rfl, rfl, rfl⟩ l37
    refine St.val (v := (.bool (!q34))) (Yields.not rfl) rfl rfl rfl ?_
    refine spt rfl rfl rfl ?_
    refine sas rfl rfl ?_
    refine St.nil ?_
    obtain rfl := sI hm
    intro a w ha hs
    exact ⟨F36, l37, ha.covers ⟨rfl, trivial⟩, (Among.of Among.none _ hs)⟩
   replace hm := iF hm q33
   refine St.val (v := vF) (Yields.isnt q33 (Yields.le rfl rfl)) rfl rfl rfl ?_
   refine spt rfl rfl rfl ?_
   refine smv rfl rfl ?_
   refine St.val (v := (.string (bs a0))) (Yields.move rfl) rfl rfl rfl ?_
   obtain ⟨x38, e39, hm⟩ := bS hm
   refine St.val (v := (.int .u8 ((x38.toNat : Nat) : Int))) (Yields.indexStr (nlit e39) tu9 rfl rfl) rfl rfl rfl ?_
   by_cases q40 : ((x38.toNat : Nat) : Int) = 95
   ·replace hm := iT hm q40
    refine St.val (v := vT) (Yields.is q40 (Yields.eq rfl rfl)) rfl rfl rfl ?_
    refine St.val (v := vT) (Yields.move rfl) rfl rfl rfl ?_
    refine St.val (v := (.string (bs a0))) (Yields.move rfl) rfl rfl rfl ?_
    refine St.val (v := (.int .i64 ((a0.length : Nat) : Int))) (Yields.lenStr tu9 rfl) rfl rfl rfl ?_
    by_cases q41 : ((a0.length : Nat) : Int) > 1
    ·replace hm := iT hm q41
     refine St.val (v := vT) (Yields.is q41 (Yields.gt rfl rfl)) rfl rfl rfl ?_
     refine St.val (v := vT) (Yields.pick_t rfl rfl) rfl rfl rfl ?_
     refine spf rfl rfl rfl ?_
     refine smv rfl rfl ?_
     refine St.val (v := (.slice (some ⟨b22, 0, none⟩) ([[100, 97, 116, 97], [99, 108, 97, 115, 115], [105, 110, 115, 116, 97, 110, 99, 101], [111, 112], [101, 110, 100], [119, 104, 101, 114, 101], [108, 101, 116], [105, 110], [102, 114, 101, 101], [99, 97, 115, 101], [114, 105, 103, 105, 100], [111, 102], [102, 97, 105, 108]] : List (List UInt8)).length 13)) (Yields.move rfl) rfl rfl rfl ?_
     refine St.val (v := (.string (bs a0))) (Yields.move rfl) rfl rfl rfl ?_
     refine St.pick (R := []) 0 rfl rfl ?_
     obtain ⟨q42, e43, hm⟩ := bS hm
     refine St.call [] (CallSp.lend (Hl := [rowo (some ⟨b22, 0, none⟩) ([[100, 97, 116, 97], [99, 108, 97, 115, 115], [105, 110, 115, 116, 97, 110, 99, 101], [111, 112], [101, 110, 100], [119, 104, 101, 114, 101], [108, 101, 116], [105, 110], [102, 114, 101, 101], [99, 97, 115, 101], [114, 105, 103, 105, 100], [111, 102], [102, 97, 105, 108]] : List (List UInt8)).length 13 9 1 [.string (bs [100, 97, 116, 97]), .string (bs [99, 108, 97, 115, 115]), .string (bs [105, 110, 115, 116, 97, 110, 99, 101]), .string (bs [111, 112]), .string (bs [101, 110, 100]), .string (bs [119, 104, 101, 114, 101]), .string (bs [108, 101, 116]), .string (bs [105, 110]), .string (bs [102, 114, 101, 101]), .string (bs [99, 97, 115, 101]), .string (bs [114, 105, 103, 105, 100]), .string (bs [111, 102]), .string (bs [102, 97, 105, 108])]]) (fun m_ hm_ hd_ h1_ h2_ => (m_slices_Contains_string_string_sp (lentR hm_ 0 rfl rfl (show Cat Kind.str F2 [.string (bs [100, 97, 116, 97]), .string (bs [99, 108, 97, 115, 115]), .string (bs [105, 110, 115, 116, 97, 110, 99, 101]), .string (bs [111, 112]), .string (bs [101, 110, 100]), .string (bs [119, 104, 101, 114, 101]), .string (bs [108, 101, 116]), .string (bs [105, 110]), .string (bs [102, 114, 101, 101]), .string (bs [99, 97, 115, 101]), .string (bs [114, 105, 103, 105, 100]), .string (bs [111, 102]), .string (bs [102, 97, 105, 108])] ([[100, 97, 116, 97], [99, 108, 97, 115, 115], [105, 110, 115, 116, 97, 110, 99, 101], [111, 112], [101, 110, 100], [119, 104, 101, 114, 101], [108, 101, 116], [105, 110], [102, 114, 101, 101], [99, 97, 115, 101], [114, 105, 103, 105, 100], [111, 102], [102, 97, 105, 108]] : List (List UInt8)) from ⟨[.string (bs [100, 97, 116, 97])], _, rfl, rfl, ⟨[.string (bs [99, 108, 97, 115, 115])], _, rfl, rfl, ⟨[.string (bs [105, 110, 115, 116, 97, 110, 99, 101])], _, rfl, rfl, ⟨[.string (bs [111, 112])], _, rfl, rfl, ⟨[.string (bs [101, 110, 100])], _, rfl, rfl, ⟨[.string (bs [119, 104, 101, 114, 101])], _, rfl, rfl, ⟨[.string (bs [108, 101, 116])], _, rfl, rfl, ⟨[.string (bs [105, 110])], _, rfl, rfl, ⟨[.string (bs [102, 114, 101, 101])], _, rfl, rfl, ⟨[.string (bs [99, 97, 115, 101])], _, rfl, rfl, ⟨[.string (bs [114, 105, 103, 105, 100])], _, rfl, rfl, ⟨[.string (bs [111, 102])], _, rfl, rfl, ⟨[.string (bs [102, 97, 105, 108])], _, rfl, rfl, rfl⟩⟩⟩⟩⟩⟩⟩⟩⟩⟩⟩⟩⟩) (show Bnd 16 ([[100, 97, 116, 97], [99, 108, 97, 115, 115], [105, 110, 115, 116, 97, 110, 99, 101], [111, 112], [101, 110, 100], [119, 104, 101, 114, 101], [108, 101, 116], [105, 110], [102, 114, 101, 101], [99, 97, 115, 101], [114, 105, 103, 105, 100], [111, 102], [102, 97, 105, 108]] : List (List UInt8)) from ⟨by simp, by simp⟩) h1_ h2_) e43).mono (fun _ _ _ h_ _ _ => h_))) rfl (fun _ ha => ev2 ha rfl rfl) rfl en53 rfl rfl rfl ?_
     rintro _ F44 _ ⟨_, rfl, rfl, rfl⟩ l45
     refine St.val (v := (.bool (!q42))) (Yields.not rfl) rfl rfl rfl ?_
     refine spt rfl rfl rfl ?_
     refine sas rfl rfl ?_
     refine St.nil ?_
     obtain rfl := sI hm
     intro a w ha hs
     exact ⟨F44, l45, ha.covers ⟨rfl, trivial⟩, (Among.of Among.none _ hs)⟩
    replace hm := iF hm q41
    refine St.val (v := vF) (Yields.isnt q41 (Yields.gt rfl rfl)) rfl rfl rfl ?_
    refine St.val (v := vF) (Yields.pick_t rfl rfl) rfl rfl rfl ?_
    refine spf rfl rfl rfl ?_
    refine smv rfl rfl ?_
    refine su rfl rfl rfl ?_
    refine su rfl rfl rfl ?_
    refine su rfl rfl rfl ?_
    refine su rfl rfl rfl ?_
    refine spf rfl rfl rfl ?_
    refine sas rfl rfl ?_
    refine St.nil ?_
    obtain rfl := sI hm
    intro a w ha hs
    exact ⟨F2, (PH.le_refl _), ha.covers ⟨rfl, trivial⟩, (Among.of Among.none _ hs)⟩
   replace hm := iF hm q40
   refine St.val (v := vF) (Yields.isnt q40 (Yields.eq rfl rfl)) rfl rfl rfl ?_
   refine St.val (v := vF) (Yields.move rfl) rfl rfl rfl ?_
   refine su rfl rfl rfl ?_
   refine su rfl rfl rfl ?_
   refine su rfl rfl rfl ?_
   refine St.val (v := vF) (Yields.pick_f rfl rfl) rfl rfl rfl ?_
   refine spf rfl rfl rfl ?_
   refine smv rfl rfl ?_
   refine su rfl rfl rfl ?_
   refine su rfl rfl rfl ?_
   refine su rfl rfl rfl ?_
   refine su rfl rfl rfl ?_
   refine spf rfl rfl rfl ?_
   refine sas rfl rfl ?_
   refine St.nil ?_
   obtain rfl := sI hm
   intro a w ha hs
   exact ⟨F2, (PH.le_refl _), ha.covers ⟨rfl, trivial⟩, (Among.of Among.none _ hs)⟩
  replace hm := iF hm q30
  refine sv (v := vF) (Yields.isnt q30 (Yields.ge rfl rfl)) rfl ?_
  refine smv rfl rfl ?_
  refine su rfl rfl rfl ?_
  refine su rfl rfl rfl ?_
  refine su rfl rfl rfl ?_
  refine spf rfl rfl rfl ?_
  refine smv rfl rfl ?_
  refine St.val (v := (.string (bs a0))) (Yields.move rfl) rfl rfl rfl ?_
  obtain ⟨x46, e47, hm⟩ := bS hm
  refine St.val (v := (.int .u8 ((x46.toNat : Nat) : Int))) (Yields.indexStr (nlit e47) tu9 rfl rfl) rfl rfl rfl ?_
  by_cases q48 : ((x46.toNat : Nat) : Int) = 95
  ·replace hm := iT hm q48
   refine St.val (v := vT) (Yields.is q48 (Yields.eq rfl rfl)) rfl rfl rfl ?_
   refine St.val (v := vT) (Yields.move rfl) rfl rfl rfl ?_
   refine St.val (v := (.string (bs a0))) (Yields.move rfl) rfl rfl rfl ?_
   refine St.val (v := (.int .i64 ((a0.length : Nat) : Int))) (Yields.lenStr tu9 rfl) rfl rfl rfl ?_
   by_cases q49 : ((a0.length : Nat) : Int) > 1
   ·replace hm := iT hm q49
    refine St.val (v := vT) (Yields.is q49 (Yields.gt rfl rfl)) rfl rfl rfl ?_
    refine St.val (v := vT) (Yields.pick_t rfl rfl) rfl rfl rfl ?_
    refine spf rfl rfl rfl ?_
    refine smv rfl rfl ?_
    refine St.val (v := (.slice (some ⟨b22, 0, none⟩) ([[100, 97, 116, 97], [99, 108, 97, 115, 115], [105, 110, 115, 116, 97, 110, 99, 101], [111, 112], [101, 110, 100], [119, 104, 101, 114, 101], [108, 101, 116], [105, 110], [102, 114, 101, 101], [99, 97, 115, 101], [114, 105, 103, 105, 100], [111, 102], [102, 97, 105, 108]] : List (List UInt8)).length 13)) (Yields.move rfl) rfl rfl rfl ?_
    refine St.val (v := (.string (bs a0))) (Yields.move rfl) rfl rfl rfl ?_
    refine St.pick (R := []) 0 rfl rfl ?_
    obtain ⟨q50, e51, hm⟩ := bS hm
    refine St.call [] (CallSp.lend (Hl := [rowo (some ⟨b22, 0, none⟩) ([[100, 97, 116, 97], [99, 108, 97, 115, 115], [105, 110, 115, 116, 97, 110, 99, 101], [111, 112], [101, 110, 100], [119, 104, 101, 114, 101], [108, 101, 116], [105, 110], [102, 114, 101, 101], [99, 97, 115, 101], [114, 105, 103, 105, 100], [111, 102], [102, 97, 105, 108]] : List (List UInt8)).length 13 9 1 [.string (bs [100, 97, 116, 97]), .string (bs [99, 108, 97, 115, 115]), .string (bs [105, 110, 115, 116, 97, 110, 99, 101]), .string (bs [111, 112]), .string (bs [101, 110, 100]), .string (bs [119, 104, 101, 114, 101]), .string (bs [108, 101, 116]), .string (bs [105, 110]), .string (bs [102, 114, 101, 101]), .string (bs [99, 97, 115, 101]), .string (bs [114, 105, 103, 105, 100]), .string (bs [111, 102]), .string (bs [102, 97, 105, 108])]]) (fun m_ hm_ hd_ h1_ h2_ => (m_slices_Contains_string_string_sp (lentR hm_ 0 rfl rfl (show Cat Kind.str F2 [.string (bs [100, 97, 116, 97]), .string (bs [99, 108, 97, 115, 115]), .string (bs [105, 110, 115, 116, 97, 110, 99, 101]), .string (bs [111, 112]), .string (bs [101, 110, 100]), .string (bs [119, 104, 101, 114, 101]), .string (bs [108, 101, 116]), .string (bs [105, 110]), .string (bs [102, 114, 101, 101]), .string (bs [99, 97, 115, 101]), .string (bs [114, 105, 103, 105, 100]), .string (bs [111, 102]), .string (bs [102, 97, 105, 108])] ([[100, 97, 116, 97], [99, 108, 97, 115, 115], [105, 110, 115, 116, 97, 110, 99, 101], [111, 112], [101, 110, 100], [119, 104, 101, 114, 101], [108, 101, 116], [105, 110], [102, 114, 101, 101], [99, 97, 115, 101], [114, 105, 103, 105, 100], [111, 102], [102, 97, 105, 108]] : List (List UInt8)) from ⟨[.string (bs [100, 97, 116, 97])], _, rfl, rfl, ⟨[.string (bs [99, 108, 97, 115, 115])], _, rfl, rfl, ⟨[.string (bs [105, 110, 115, 116, 97, 110, 99, 101])], _, rfl, rfl, ⟨[.string (bs [111, 112])], _, rfl, rfl, ⟨[.string (bs [101, 110, 100])], _, rfl, rfl, ⟨[.string (bs [119, 104, 101, 114, 101])], _, rfl, rfl, ⟨[.string (bs [108, 101, 116])], _, rfl, rfl, ⟨[.string (bs [105, 110])], _, rfl, rfl, ⟨[.string (bs [102, 114, 101, 101])], _, rfl, rfl, ⟨[.string (bs [99, 97, 115, 101])], _, rfl, rfl, ⟨[.string (bs [114, 105, 103, 105, 100])], _, rfl, rfl, ⟨[.string (bs [111, 102])], _, rfl, rfl, ⟨[.string (bs [102, 97, 105, 108])], _, rfl, rfl, rfl⟩⟩⟩⟩⟩⟩⟩⟩⟩⟩⟩⟩⟩) (show Bnd 16 ([[100, 97, 116, 97], [99, 108, 97, 115, 115], [105, 110, 115, 116, 97, 110, 99, 101], [111, 112], [101, 110, 100], [119, 104, 101, 114, 101], [108, 101, 116], [105, 110], [102, 114, 101, 101], [99, 97, 115, 101], [114, 105, 103, 105, 100], [111, 102], [102, 97, 105, 108]] : List (List UInt8)) from ⟨by simp, by simp⟩) h1_ h2_) e51).mono (fun _ _ _ h_ _ _ => h_))) rfl (fun _ ha => ev2 ha rfl rfl) rfl en53 rfl rfl rfl ?_
    rintro _ F52 _ ⟨_, rfl, rfl, rfl⟩ l53
    refine St.val (v := (.bool (!q50))) (Yields.not rfl) rfl rfl rfl ?_
    refine spt rfl rfl rfl ?_
    refine sas rfl rfl ?_
    refine St.nil ?_
    obtain rfl := sI hm
    intro a w ha hs
    exact ⟨F52, l53, ha.covers ⟨rfl, trivial⟩, (Among.of Among.none _ hs)⟩
   replace hm := iF hm q49
   refine St.val (v := vF) (Yields.isnt q49 (Yields.gt rfl rfl)) rfl rfl rfl ?_
   refine St.val (v := vF) (Yields.pick_t rfl rfl) rfl rfl rfl ?_
   refine spf rfl rfl rfl ?_
   refine smv rfl rfl ?_
   refine su rfl rfl rfl ?_
   refine su rfl rfl rfl ?_
   refine su rfl rfl rfl ?_
   refine su rfl rfl rfl ?_
   refine spf rfl rfl rfl ?_
   refine sas rfl rfl ?_
   refine St.nil ?_
   obtain rfl := sI hm
   intro a w ha hs
   exact ⟨F2, (PH.le_refl _), ha.covers ⟨rfl, trivial⟩, (Among.of Among.none _ hs)⟩
  replace hm := iF hm q48
  refine St.val (v := vF) (Yields.isnt q48 (Yields.eq rfl rfl)) rfl rfl rfl ?_
  refine St.val (v := vF) (Yields.move rfl) rfl rfl rfl ?_
  refine su rfl rfl rfl ?_
  refine su rfl rfl rfl ?_
  refine su rfl rfl rfl ?_
  refine St.val (v := vF) (Yields.pick_f rfl rfl) rfl rfl rfl ?_
  refine spf rfl rfl rfl ?_
  refine smv rfl rfl ?_
  refine su rfl rfl rfl ?_
  refine su rfl rfl rfl ?_
  refine su rfl rfl rfl ?_
  refine su rfl rfl rfl ?_
  refine spf rfl rfl rfl ?_
  refine sas rfl rfl ?_
  refine St.nil ?_
  obtain rfl := sI hm
  intro a w ha hs
  exact ⟨F2, (PH.le_refl _), ha.covers ⟨rfl, trivial⟩, (Among.of Among.none _ hs)⟩
 rintro a w ⟨F25, l26, ha, hs⟩
 replace hm := hk27
 refine St.use (?_ : St _ _ _ _ _ _) ha hs
 clear ha hs a w
 refine St.ret ?_
 obtain rfl := sI hm
 exact St.doneR1 rfl rfl ⟨rfl, rfl⟩ (fun w hs => Among.of Among.none w hs)
theorem m_code_isNumber_f1_sp {F : PH} {g : Nat} {a0 : Int} {r : Bool} (hm : m_code_isNumber_f1 g a0 = some r) :
  CallSp Tryz.prog 55 #[.int .i64 a0] F [] (fun u F' H' => u = (.bool r) ∧ H' = []) := by

 unfold m_code_isNumber_f1 at hm
 refine CallSp.enter (args := [.int .i64 a0]) Tryz.func55 rfl rfl ?_
 intro w0 m0 hm0
 refine ssr ?_
 refine sas rfl rfl ?_
 refine snn ?_
 obtain ⟨z1, hm, hk2⟩ := bS hm
 refine St.cutI (fun a w => Has Tryz.f55.ntmps a [(2, .bool z1)] ∧ Sat ⟨w0, fun b => m0 b ≠ none, F⟩ F [] w) ?_ ?_
 ·skip
  refine St.region ?_
  refine smv rfl rfl ?_
  by_cases q3 : a0 < 0
  ·replace hm := iT hm q3
   refine sv (v := vT) (Yields.is q3 (Yields.lt rfl rfl)) rfl ?_
   refine smv rfl rfl ?_
   refine su rfl rfl rfl ?_
   refine su rfl rfl rfl ?_
   refine spt rfl rfl rfl ?_
   refine sas rfl rfl ?_
   refine St.nil ?_
   obtain rfl := sI hm
   intro a w ha hs
   exact ⟨ha.covers ⟨rfl, trivial⟩, (Among.of Among.none _ hs)⟩
  replace hm := iF hm q3
  refine sv (v := vF) (Yields.isnt q3 (Yields.lt rfl rfl)) rfl ?_
  refine smv rfl rfl ?_
  refine St.val (v := (.int .i64 a0)) (Yields.move rfl) rfl rfl rfl ?_
  refine St.val (v := (.bool (decide (a0 > 400)))) (Yields.gt rfl rfl) rfl rfl rfl ?_
  refine spf rfl rfl rfl ?_
  refine sas rfl rfl ?_
  refine St.nil ?_
  obtain rfl := sI hm
  intro a w ha hs
  exact ⟨ha.covers ⟨rfl, trivial⟩, (Among.of Among.none _ hs)⟩
 rintro a w ⟨ha, hs⟩
 replace hm := hk2
 refine St.use (?_ : St _ _ _ _ _ _) ha hs
 clear ha hs a w
 refine St.ret ?_
 obtain rfl := sI hm
 exact St.doneR1 rfl rfl ⟨rfl, rfl⟩ (fun w hs => Among.of Among.none w hs)
theorem m_slices_IndexFunc_int_int_sp {F : PH} {g : Nat} {a0 : List Int} {pA0 : Option Addr} {pc0 : Nat} (ph0 : Fsl 8 (Kind.int .i64) F pA0 pc0 a0) {r : Int} (hm : m_slices_IndexFunc_int_int g a0 = some r) :
  CallSp Tryz.prog 77 #[.slice pA0 a0.length pc0, .func (.func 55) #[] #[]] F [] (fun u F' H' => u = (.int .i64 r) ∧ H' = []) := by

 unfold m_slices_IndexFunc_int_int at hm
 refine CallSp.enter (args := [.slice pA0 a0.length pc0, .func (.func 55) #[] #[]]) Tryz.func77 rfl rfl ?_
 intro w0 m0 hm0
 refine ssr ?_
 refine sas rfl rfl ?_
 refine snn ?_
 obtain ⟨o5, hm, ho6⟩ := jS hm
 refine St.cutI (fun a w => ∃ z2 : Unit, o5 = .inl z2 ∧ ∃ (F3 : PH), PH.le F F3 ∧ Has Tryz.f77.ntmps a [] ∧ Sat ⟨w0, fun b => m0 b ≠ none, F⟩ F3 [] w) ?_ ?_
 ·skip
  refine ssr ?_
  refine smv rfl rfl ?_
  refine sv (v := (.int .i64 ((a0.length : Nat) : Int))) (Yields.lenSlice tu37 rfl) rfl ?_
  refine smv rfl rfl ?_
  refine snn ?_
  refine St.block ?_
  refine St.loopM hm (fun s9 a w => ∃ (F13 : PH), PH.le F F13 ∧ Has Tryz.f77.ntmps a [(0, .slice pA0 a0.length pc0), (1, .func (.func 55) #[] #[]), (7, .int .i64 ((a0.length : Nat) : Int)), (8, .int .i64 ((s9 : Nat) : Int))] ∧ Sat ⟨w0, fun b => m0 b ≠ none, F⟩ F13 [] w) ?_ ?_
  ·skip
   intro a w ha hs
   exact ⟨F, (PH.le_refl _), ha.covers ⟨rfl, rfl, rfl, rfl, trivial⟩, (Among.of Among.none _ hs)⟩
  rintro s9 o10 co11 hm ho12 a w ⟨F13, l14, ha, hs⟩
  refine St.use (?_ : St _ _ _ _ _ _) ha hs
  clear ha hs a w
  refine ssr ?_
  refine sv (v := (.bool (decide (((s9 : Nat) : Int) < ((a0.length : Nat) : Int))))) (Yields.lt rfl rfl) rfl ?_
  refine snn ?_
  refine St.seq ?_
  refine St.cond_b rfl ?_ ?_
  ·intro q15
   replace q15 : ((s9 : Nat) : Int) < ((a0.length : Nat) : Int) := of_decide_eq_true q15
   replace hm := iT hm q15
   refine skn ?_
   refine St.seq ?_
   refine St.block ?_
   refine ssr ?_
   refine smv rfl rfl ?_
   refine sas rfl rfl ?_
   refine snn ?_
   refine ssr ?_
   refine smv rfl rfl ?_
   refine smv rfl rfl ?_
   refine smv rfl rfl ?_
   obtain ⟨x16, e17, hm⟩ := bS hm
   obtain ⟨p18, cs19, jx20, R21, k22⟩ := (Fsl.mono l14 ph0).nidx e17
   obtain rfl := R21
   refine sv (v := (.pointer (some p18))) (Yields.idx jx20 ts37 rfl rfl) rfl ?_
   refine sv (v := (.int .i64 x16)) (Yields.load rfl (Loads.Fat k22 tc3 rfl)) rfl ?_
   obtain ⟨q23, e24, hm⟩ := bS hm
   refine St.call [] (m_code_isNumber_f1_sp e24) rfl (fun _ ha => ev1 ha rfl) rfl en55 rfl rfl trivial ?_
   rintro _ F25 _ ⟨rfl, rfl⟩ l26
   refine snn ?_
   refine St.cond_b rfl ?_ ?_
   ·intro q27
    replace q27 : q23 = true := q27
    replace hm := iT hm q27
    refine ssr ?_
    refine smv rfl rfl ?_
    refine sas rfl rfl ?_
    refine snn ?_
    refine St.ret ?_
    refine St.inret ?_
    refine St.thenret ?_
    refine St.thenret ?_
    refine St.inret ?_
    refine St.thenret ?_
    obtain rfl := sI hm
    obtain rfl := aR ho12
    obtain rfl := aR ho6
    exact St.doneR1 rfl rfl ⟨rfl, rfl⟩ (fun w hs => Among.of Among.none w hs)
   intro q28
   replace q28 : ¬ (q23 = true) := bf q28
   replace hm := iF hm q28
   refine St.skip ?_
   refine St.innorm ?_
   refine St.norm ?_
   refine St.region ?_
   refine sv (v := (.int .i64 ((s9 + 1 : Nat) : Int))) (Yields.addn (j := 1) rfl rfl rfl (by have q_0 := q15; have q_1 := ph0.bnd.2; omega)) rfl ?_
   refine smv rfl rfl ?_
   refine snn ?_
   obtain rfl := sI hm
   intro a w ha hs
   exact ⟨s9 + 1, aL ho12, F25, (PH.le_trans l14 l26), ha.covers ⟨rfl, rfl, rfl, rfl, trivial⟩, (Among.of Among.none _ hs)⟩
  intro q29
  replace q29 : ¬ (((s9 : Nat) : Int) < ((a0.length : Nat) : Int)) := of_decide_eq_false q29
  replace hm := iF hm q29
  refine St.exit ?_
  refine St.thenexit ?_
  refine St.thenexit ?_
  refine St.inexit ?_
  obtain rfl := sI hm
  obtain rfl := aR ho12
  intro a w ha hs
  exact ⟨(), rfl, F13, l14, ha.covers trivial, (Among.of Among.none _ hs)⟩
 rintro a w ⟨z2, rfl, F3, l4, ha, hs⟩
 replace hm := aL ho6
 refine St.use (?_ : St _ _ _ _ _ _) ha hs
 clear ha hs a w
 refine ssr ?_
 refine sas rfl rfl ?_
 refine snn ?_
 refine St.ret ?_
 obtain rfl := sI hm
 exact St.doneR1 rfl rfl ⟨rfl, rfl⟩ (fun w hs => Among.of Among.none w hs)
theorem m_slices_ContainsFunc_int_int_sp {F : PH} {g : Nat} {a0 : List Int} {pA0 : Option Addr} {pc0 : Nat} (ph0 : Fsl 8 (Kind.int .i64) F pA0 pc0 a0) {r : Bool} (hm : m_slices_ContainsFunc_int_int g a0 = some r) :
  CallSp Tryz.prog 54 #[.slice pA0 a0.length pc0, .func (.func 55) #[] #[]] F [] (fun u F' H' => u = (.bool r) ∧ H' = []) := by

 unfold m_slices_ContainsFunc_int_int at hm
 refine CallSp.enter (args := [.slice pA0 a0.length pc0, .func (.func 55) #[] #[]]) Tryz.func54 rfl rfl ?_
 intro w0 m0 hm0
 refine ssr ?_
 refine sas rfl rfl ?_
 refine snn ?_
 refine ssr ?_
 refine smv rfl rfl ?_
 refine smv rfl rfl ?_
 obtain ⟨q2, e3, hm⟩ := bS hm
 refine St.call [] (m_slices_IndexFunc_int_int_sp ph0 e3) rfl (fun _ ha => ev2 ha rfl rfl) rfl en77 rfl rfl trivial ?_
 rintro _ F4 _ ⟨rfl, rfl⟩ l5
 refine sv (v := (.bool (decide (q2 ≥ 0)))) (Yields.ge rfl rfl) rfl ?_
 refine sas rfl rfl ?_
 refine snn ?_
 refine St.ret ?_
 obtain rfl := sI hm
 exact St.doneR1 rfl rfl ⟨rfl, rfl⟩ (fun w hs => Among.of Among.none w hs)
theorem m_code_isNumber_sp {F : PH} {g : Nat} {a0 : List Int} {pA0 : Option Addr} {pc0 : Nat} (ph0 : Fsl 8 (Kind.int .i64) F pA0 pc0 a0) {r : Bool} (hm : m_code_isNumber g a0 = some r) :
  CallSp Tryz.prog 29 #[.slice pA0 a0.length pc0] F [] (fun u F' H' => u = (.bool r) ∧ H' = []) := by

 unfold m_code_isNumber at hm
 refine CallSp.enter (args := [.slice pA0 a0.length pc0]) Tryz.func29 rfl rfl ?_
 intro w0 m0 hm0
 refine ssr ?_
 refine sas rfl rfl ?_
 refine snn ?_
 refine ssr ?_
 refine smv rfl rfl ?_
 obtain ⟨q2, e3, hm⟩ := bS hm
 refine St.call [] (m_slices_ContainsFunc_int_int_sp ph0 e3) rfl (fun _ ha => ev2 ha rfl rfl) rfl en54 rfl rfl trivial ?_
 rintro _ F4 _ ⟨rfl, rfl⟩ l5
 refine sv (v := (.bool (!q2))) (Yields.not rfl) rfl ?_
 refine sas rfl rfl ?_
 refine snn ?_
 refine St.ret ?_
 obtain rfl := sI hm
 exact St.doneR1 rfl rfl ⟨rfl, rfl⟩ (fun w hs => Among.of Among.none w hs)
theorem m_code_isInt_sp {F : PH} {g : Nat} {a0 : Int} {r : Bool} (hm : m_code_isInt g a0 = some r) :
  CallSp Tryz.prog 57 #[.int .i64 a0] F [] (fun u F' H' => u = (.bool r) ∧ H' = []) := by

 unfold m_code_isInt at hm
 refine CallSp.enter (args := [.int .i64 a0]) Tryz.func57 rfl rfl ?_
 intro w0 m0 hm0
 refine ssr ?_
 refine sas rfl rfl ?_
 refine snn ?_
 obtain ⟨z1, hm, hk2⟩ := bS hm
 refine St.cutI (fun a w => Has Tryz.f57.ntmps a [(2, .bool z1)] ∧ Sat ⟨w0, fun b => m0 b ≠ none, F⟩ F [] w) ?_ ?_
 ·skip
  refine St.region ?_
  refine smv rfl rfl ?_
  by_cases q3 : a0 ≥ (-1000000000)
  ·replace hm := iT hm q3
   refine sv (v := vT) (Yields.is q3 (Yields.ge rfl rfl)) rfl ?_
   refine smv rfl rfl ?_
   refine St.val (v := (.int .i64 a0)) (Yields.move rfl) rfl rfl rfl ?_
   refine St.val (v := (.bool (decide (a0 ≤ 1000000000)))) (Yields.le rfl rfl) rfl rfl rfl ?_
   refine spt rfl rfl rfl ?_
   refine sas rfl rfl ?_
   refine St.nil ?_
   obtain rfl := sI hm
   intro a w ha hs
   exact ⟨ha.covers ⟨rfl, trivial⟩, (Among.of Among.none _ hs)⟩
  replace hm := iF hm q3
  refine sv (v := vF) (Yields.isnt q3 (Yields.ge rfl rfl)) rfl ?_
  refine smv rfl rfl ?_
  refine su rfl rfl rfl ?_
  refine su rfl rfl rfl ?_
  refine spf rfl rfl rfl ?_
  refine sas rfl rfl ?_
  refine St.nil ?_
  obtain rfl := sI hm
  intro a w ha hs
  exact ⟨ha.covers ⟨rfl, trivial⟩, (Among.of Among.none _ hs)⟩
 rintro a w ⟨ha, hs⟩
 replace hm := hk2
 refine St.use (?_ : St _ _ _ _ _ _) ha hs
 clear ha hs a w
 refine St.ret ?_
 obtain rfl := sI hm
 exact St.doneR1 rfl rfl ⟨rfl, rfl⟩ (fun w hs => Among.of Among.none w hs)
end Go.Proofs.YtefclodjekeeiaaGreatDoor
