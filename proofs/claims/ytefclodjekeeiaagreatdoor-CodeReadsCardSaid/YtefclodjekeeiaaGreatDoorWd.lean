/- Each function does what its plain words tell. -/
import Derived.Test.YtefclodjekeeiaaGreatDoorWc
namespace Go.Proofs.YtefclodjekeeiaaGreatDoor
open Go Go.Sy Go.RowKit
set_option linter.unusedVariables false
open Go.Mir
theorem m_ref14_Parse_sp {F : PH} {g : Nat} {a0 : List UInt8} {r : List DCode × Int × Int} (hm : m_ref14_Parse g a0 = some r) :
  CallSp Tryz.prog 5 #[.string (bs a0)] F [] (fun u F' H' => ∃ (B0 : Option Addr) (d0 : Nat), u = (.tuple #[.slice B0 r.1.length d0, .int .i64 r.2.1, .int .i64 r.2.2]) ∧ Fsl 48 KDCode F' B0 d0 r.1 ∧ H' = []) := by

 unfold m_ref14_Parse at hm
 refine CallSp.enter (args := [.string (bs a0)]) Tryz.func5 rfl rfl ?_
 intro w0 m0 hm0
 refine ssr ?_
 refine sas rfl rfl ?_
 refine sas rfl rfl ?_
 refine sas rfl rfl ?_
 refine snn ?_
 refine St.seq ?_
 refine ssr ?_
 refine smv rfl rfl ?_
 refine sv (v := (.int .i64 ((a0.length : Nat) : Int))) (Yields.lenStr tu9 rfl) rfl ?_
 refine sv (v := (.bool (decide (((a0.length : Nat) : Int) > 20000)))) (Yields.gt rfl rfl) rfl ?_
 refine snn ?_
 refine St.cond_b rfl ?_ ?_
 ·intro q1
  replace q1 : ((a0.length : Nat) : Int) > 20000 := of_decide_eq_true q1
  replace hm := iT hm q1
  refine ssr ?_
  refine sas rfl rfl ?_
  refine sas rfl rfl ?_
  refine sas rfl rfl ?_
  refine snn ?_
  refine St.ret ?_
  refine St.thenret ?_
  obtain rfl := sI hm
  exact St.doneR3 rfl rfl rfl rfl ⟨none, 0, rfl, Fsl.nil, rfl⟩ (fun w hs => Among.of Among.none w hs)
 intro q2
 replace q2 : ¬ (((a0.length : Nat) : Int) > 20000) := of_decide_eq_false q2
 replace hm := iF hm q2
 refine skn ?_
 refine St.seq ?_
 refine ssr ?_
 refine smv rfl rfl ?_
 refine sv (v := (.bool (decide (a0 = ([] : List UInt8))))) (Yields.eqStr rfl rfl) rfl ?_
 refine snn ?_
 refine St.cond_b rfl ?_ ?_
 ·intro q3
  replace q3 : a0 = ([] : List UInt8) := of_decide_eq_true q3
  replace hm := iT hm q3
  refine ssr ?_
  refine sas rfl rfl ?_
  refine sas rfl rfl ?_
  refine sas rfl rfl ?_
  refine snn ?_
  refine St.ret ?_
  refine St.thenret ?_
  obtain rfl := sI hm
  exact St.doneR3 rfl rfl rfl rfl ⟨none, 0, rfl, Fsl.nil, rfl⟩ (fun w hs => Among.of Among.none w hs)
 intro q4
 replace q4 : ¬ (a0 = ([] : List UInt8)) := of_decide_eq_false q4
 replace hm := iF hm q4
 refine skn ?_
 obtain ⟨z5, hm, hk6⟩ := bS hm
 refine St.cutI (fun a w => Has Tryz.f5.ntmps a [(0, .string (bs z5))] ∧ Sat ⟨w0, fun b => m0 b ≠ none, F⟩ F [] w) ?_ ?_
 ·skip
  refine ssr ?_
  refine smv rfl rfl ?_
  refine smv rfl rfl ?_
  refine sv (v := (.int .i64 ((a0.length : Nat) : Int))) (Yields.lenStr tu9 rfl) rfl ?_
  obtain ⟨x7, e8, hm⟩ := bS hm
  refine sv (v := (.int .i64 (((a0.length : Nat) : Int) - 1))) (Yields.sub rfl rfl (by have q_0 := (Mir.small_le e8); omega) (by have q_0 := (Mir.small_le e8); omega)) rfl ?_
  obtain ⟨x9, e10, hm⟩ := bS hm
  refine sv (v := (.int .u8 ((x9.toNat : Nat) : Int))) (Yields.indexStr e10 tu9 rfl rfl) rfl ?_
  refine sv (v := (.bool (decide (((x9.toNat : Nat) : Int) = 10)))) (Yields.eq rfl rfl) rfl ?_
  refine snn ?_
  refine St.cond_b rfl ?_ ?_
  ·intro q11
   replace q11 : ((x9.toNat : Nat) : Int) = 10 := of_decide_eq_true q11
   replace hm := iT hm q11
   refine St.region ?_
   refine smv rfl rfl ?_
   refine smv rfl rfl ?_
   refine sv (v := (.int .i64 ((a0.length : Nat) : Int))) (Yields.lenStr tu9 rfl) rfl ?_
   refine sv (v := (.int .i64 (((a0.length : Nat) : Int) - 1))) (Yields.sub rfl rfl (by have q_0 := (Mir.small_le e8); omega) (by have q_0 := (Mir.small_le e8); omega)) rfl ?_
   obtain ⟨x12, e13, hm⟩ := bS hm
   refine sv (v := (.string (bs x12))) (Yields.subST e13 tu9 rfl rfl) rfl ?_
   refine sas rfl rfl ?_
   refine St.nil ?_
   obtain rfl := sI hm
   intro a w ha hs
   exact ⟨ha.covers ⟨rfl, trivial⟩, (Among.of Among.none _ hs)⟩
  intro q14
  replace q14 : ¬ (((x9.toNat : Nat) : Int) = 10) := of_decide_eq_false q14
  replace hm := iF hm q14
  refine St.skip ?_
  obtain rfl := sI hm
  intro a w ha hs
  exact ⟨ha.covers ⟨rfl, trivial⟩, (Among.of Among.none _ hs)⟩
 rintro a w ⟨ha, hs⟩
 replace hm := hk6
 refine St.use (?_ : St _ _ _ _ _ _) ha hs
 clear ha hs a w
 refine ssr ?_
 refine smv rfl rfl ?_
 obtain ⟨q15, e16, hm⟩ := bS hm
 refine St.call [] (m_strings_Split_sp e16) rfl (fun _ ha => ev2 ha rfl rfl) rfl en8 rfl rfl trivial ?_
 rintro _ F17 _ ⟨A19, c20, rfl, h21, rfl⟩ l18
 refine sas rfl rfl ?_
 refine snn ?_
 refine ssr ?_
 refine sas rfl rfl ?_
 refine snn ?_
 obtain ⟨o37, hm, ho38⟩ := jS hm
 refine St.cutI (fun a w => ∃ z23 : List DCode, o37 = .inl z23 ∧ ∃ (A27 : Option Addr) (c28 : Nat) (cells30 : List Value) (A33 : Option Addr) (c34 : Nat) (cells35 : List Value) (F24 : PH), PH.le F17 F24 ∧ Nest KDCode KDInstr hd_DCode DCode.L F24 cells30 A33 c34 cells35 z23 ∧ Bnd 48 z23 ∧ Bnd 96 (Mir.lastL DCode.L z23) ∧ Has Tryz.f5.ntmps a [(6, .slice A27 z23.length c28)] ∧ Sat ⟨w0, fun b => m0 b ≠ none, F⟩ F24 [rowo A27 z23.length c28 36 3 cells30, rowo A33 (Mir.lastL DCode.L z23).length c34 40 7 cells35] w) ?_ ?_
 ·skip
  refine ssr ?_
  refine sas rfl rfl ?_
  refine snn ?_
  refine St.block ?_
  refine St.loopM hm (fun s53 a w => ∃ (A58 : Option Addr) (c59 : Nat) (cells61 : List Value) (A64 : Option Addr) (c65 : Nat) (cells66 : List Value) (F68 : PH), PH.le F17 F68 ∧ Nest KDCode KDInstr hd_DCode DCode.L F68 cells61 A64 c65 cells66 s53.1 ∧ Bnd 48 s53.1 ∧ Bnd 96 (Mir.lastL DCode.L s53.1) ∧ Has Tryz.f5.ntmps a [(5, .slice A19 q15.length c20), (6, .slice A58 s53.1.length c59), (7, .int .i64 ((s53.2 : Nat) : Int))] ∧ Sat ⟨w0, fun b => m0 b ≠ none, F⟩ F68 [rowo A58 s53.1.length c59 36 3 cells61, rowo A64 (Mir.lastL DCode.L s53.1).length c65 40 7 cells66] w) ?_ ?_
  ·skip
   refine St.rowo_new 36 3 ?_
   refine St.rowo_new 40 7 ?_
   intro a w ha hs
   exact ⟨none, 0, [], none, 0, [], F17, (PH.le_refl _), (Nest.nil : Nest KDCode KDInstr hd_DCode DCode.L F17 [] none 0 [] []), Bnd.of_nil, Bnd.of_nil, ha.covers ⟨rfl, rfl, rfl, trivial⟩, (Among.of (Among.take 1 rfl rfl (Among.take 0 rfl rfl Among.none)) _ hs)⟩
  rintro s53 o54 co55 hm ho56 a w ⟨A58, c59, cells61, A64, c65, cells66, F68, l69, h60, b62, b67, ha, hs⟩
  refine St.use (?_ : St _ _ _ _ _ _) ha hs
  clear ha hs a w
  refine St.seq ?_
  refine ssr ?_
  refine smv rfl rfl ?_
  refine smv rfl rfl ?_
  refine sv (v := (.int .i64 ((q15.length : Nat) : Int))) (Yields.lenSlice tu29 rfl) rfl ?_
  refine sv (v := (.bool (decide (((s53.2 : Nat) : Int) < ((q15.length : Nat) : Int))))) (Yields.lt rfl rfl) rfl ?_
  refine snn ?_
  refine St.cond_b rfl ?_ ?_
  ·intro q72
   replace q72 : ((s53.2 : Nat) : Int) < ((q15.length : Nat) : Int) := of_decide_eq_true q72
   replace hm := iT hm q72
   refine skn ?_
   obtain ⟨o87, hm, ho88⟩ := jS hm
   refine St.cutI (fun a w => ∃ z73 : List DCode, o87 = .inl z73 ∧ ∃ (A77 : Option Addr) (c78 : Nat) (cells80 : List Value) (A83 : Option Addr) (c84 : Nat) (cells85 : List Value) (F74 : PH), PH.le F68 F74 ∧ Nest KDCode KDInstr hd_DCode DCode.L F74 cells80 A83 c84 cells85 z73 ∧ Bnd 48 z73 ∧ Bnd 96 (Mir.lastL DCode.L z73) ∧ Has Tryz.f5.ntmps a [(5, .slice A19 q15.length c20), (6, .slice A77 z73.length c78), (7, .int .i64 ((s53.2 : Nat) : Int))] ∧ Sat ⟨w0, fun b => m0 b ≠ none, F⟩ F74 [rowo A77 z73.length c78 36 3 cells80, rowo A83 (Mir.lastL DCode.L z73).length c84 40 7 cells85] w) ?_ ?_
   ·skip
    refine St.block ?_
    refine ssr ?_
    refine smv rfl rfl ?_
    refine smv rfl rfl ?_
    obtain ⟨x89, e90, hm⟩ := bS hm
    obtain ⟨p91, cs92, jx93, R94, k95⟩ := (Fsl.mono l69 h21).nidx e90
    obtain rfl := R94
    refine sv (v := (.pointer (some p91))) (Yields.idx jx93 ts29 rfl rfl) rfl ?_
    refine sv (v := (.string (bs x89))) (Yields.load rfl (Loads.Fat k95 tc9 rfl)) rfl ?_
    obtain ⟨q96, e97, hm⟩ := bS hm
    refine St.call [rowo A58 s53.1.length c59 36 3 cells61, rowo A64 (Mir.lastL DCode.L s53.1).length c65 40 7 cells66] (m_strings_Split_sp e97) rfl (fun _ ha => ev2 ha rfl rfl) rfl en8 rfl rfl trivial ?_
    rintro _ F98 _ ⟨A100, c101, rfl, h102, rfl⟩ l99
    refine sas rfl rfl ?_
    refine snn ?_
    refine St.seq ?_
    refine ssr ?_
    refine smv rfl rfl ?_
    obtain ⟨q104, e105, hm⟩ := bS hm
    refine St.call [rowo A58 s53.1.length c59 36 3 cells61, rowo A64 (Mir.lastL DCode.L s53.1).length c65 40 7 cells66] (m_ref14_areWords_sp h102 e105) rfl (fun _ ha => ev1 ha rfl) rfl en14 rfl rfl trivial ?_
    rintro _ F106 _ ⟨rfl, rfl⟩ l107
    refine sv (v := (.bool (!q104))) (Yields.not rfl) rfl ?_
    refine snn ?_
    refine St.cond_b rfl ?_ ?_
    ·intro q108
     replace q108 : ¬ (q104 = true) := nb_t q108
     replace hm := iF hm q108
     refine ssr ?_
     refine smv rfl rfl ?_
     refine sv (v := (.int .i64 ((s53.2 + 1 : Nat) : Int))) (Yields.addn (j := 1) rfl rfl rfl (by have q_0 := q72; have q_1 := h21.bnd.2; omega)) rfl ?_
     refine sas rfl rfl ?_
     refine sas rfl rfl ?_
     refine sas rfl rfl ?_
     refine snn ?_
     refine St.ret ?_
     refine St.thenret ?_
     refine St.inret ?_
     refine St.thenret ?_
     refine St.thenret ?_
     refine St.inret ?_
     refine St.thenret ?_
     obtain rfl := sI hm
     obtain rfl := aR ho88
     obtain rfl := aR ho56
     obtain rfl := aR ho38
     exact St.doneR3 rfl rfl rfl rfl ⟨none, 0, rfl, Fsl.nil, rfl⟩ (fun w hs => Among.of Among.none w hs)
    intro q109
    replace q109 : q104 = true := nb_f q109
    replace hm := iT hm q109
    refine skn ?_
    refine St.seq ?_
    refine ssr ?_
    refine smv rfl rfl ?_
    obtain ⟨x110, e111, hm⟩ := bS hm
    replace e111 := nlit e111
    obtain ⟨p112, cs113, jx114, R115, k116⟩ := (Fsl.mono l107 h102).idx e111
    obtain rfl := R115
    refine sv (v := (.pointer (some p112))) (Yields.idx jx114 ts29 rfl rfl) rfl ?_
    refine sv (v := (.string (bs x110))) (Yields.load rfl (Loads.Fat k116 tc9 rfl)) rfl ?_
    refine sv (v := (.bool (decide (x110 = ([99, 111, 100, 101] : List UInt8))))) (Yields.eqStr rfl rfl) rfl ?_
    refine snn ?_
    refine St.cond_b rfl ?_ ?_
    ·intro q117
     replace q117 : x110 = ([99, 111, 100, 101] : List UInt8) := of_decide_eq_true q117
     replace hm := iT hm q117
     refine St.seq ?_
     refine ssr ?_
     refine smv rfl rfl ?_
     refine sv (v := (.int .i64 ((q96.length : Nat) : Int))) (Yields.lenSlice tu29 rfl) rfl ?_
     refine sv (v := (.bool (!decide (((q96.length : Nat) : Int) = 3)))) (Yields.ne rfl rfl) rfl ?_
     refine snn ?_
     refine St.cond_b rfl ?_ ?_
     ·intro q118
      replace q118 : ¬ (((q96.length : Nat) : Int) = 3) := nd_t q118
      replace hm := iF hm q118
      refine ssr ?_
      refine smv rfl rfl ?_
      refine sv (v := (.int .i64 ((s53.2 + 1 : Nat) : Int))) (Yields.addn (j := 1) rfl rfl rfl (by have q_0 := q72; have q_1 := h21.bnd.2; omega)) rfl ?_
      refine sas rfl rfl ?_
      refine sas rfl rfl ?_
      refine sas rfl rfl ?_
      refine snn ?_
      refine St.ret ?_
      refine St.thenret ?_
      refine St.thenret ?_
      refine St.inret ?_
      refine St.thenret ?_
      refine St.thenret ?_
      refine St.inret ?_
      refine St.thenret ?_
      obtain rfl := sI hm
      obtain rfl := aR ho88
      obtain rfl := aR ho56
      obtain rfl := aR ho38
      exact St.doneR3 rfl rfl rfl rfl ⟨none, 0, rfl, Fsl.nil, rfl⟩ (fun w hs => Among.of Among.none w hs)
     intro q119
     replace q119 : ((q96.length : Nat) : Int) = 3 := nd_f q119
     replace hm := iT hm q119
     refine skn ?_
     refine ssr ?_
     refine smv rfl rfl ?_
     obtain ⟨x120, e121, hm⟩ := bS hm
     replace e121 := nlit e121
     obtain ⟨p122, cs123, jx124, R125, k126⟩ := (Fsl.mono l107 h102).idx e121
     obtain rfl := R125
     refine sv (v := (.pointer (some p122))) (Yields.idx jx124 ts29 rfl rfl) rfl ?_
     refine sv (v := (.string (bs x120))) (Yields.load rfl (Loads.Fat k126 tc9 rfl)) rfl ?_
     obtain ⟨q127, e128, hm⟩ := bS hm
     refine St.call [rowo A58 s53.1.length c59 36 3 cells61, rowo A64 (Mir.lastL DCode.L s53.1).length c65 40 7 cells66] (m_ref14_number_sp e128) rfl (fun _ ha => ev1 ha rfl) rfl en15 rfl rfl trivial ?_
     rintro _ F129 _ ⟨rfl, rfl⟩ l130
     refine smv rfl rfl ?_
     refine sv (v := (.int .i64 q127.1)) (Yields.extract rfl rfl) rfl ?_
     refine sv (v := (.bool q127.2)) (Yields.extract rfl rfl) rfl ?_
     refine sas rfl rfl ?_
     refine sas rfl rfl ?_
     refine snn ?_
     refine St.seq ?_
     obtain ⟨z131, hm, hk134⟩ := bS hm
     refine St.cutI (fun a w => ∃ (F132 : PH), PH.le F129 F132 ∧ Has Tryz.f5.ntmps a [(5, .slice A19 q15.length c20), (6, .slice A58 s53.1.length c59), (7, .int .i64 ((s53.2 : Nat) : Int)), (8, .slice A100 q96.length c101), (9, .int .i64 q127.1), (73, .bool z131)] ∧ Sat ⟨w0, fun b => m0 b ≠ none, F⟩ F132 [rowo A58 s53.1.length c59 36 3 cells61, rowo A64 (Mir.lastL DCode.L s53.1).length c65 40 7 cells66] w) ?_ ?_
     ·skip
      refine St.region ?_
      by_cases q135 : q127.2 = true
      ·replace hm := iT hm q135
       have hb136 : (q127.2) = true := q135
       try rw [hb136]
       refine smv rfl rfl ?_
       refine sv (v := vF) (Yields.not_t rfl) rfl ?_
       refine smv rfl rfl ?_
       refine St.val (v := (.slice A100 q96.length c101)) (Yields.move rfl) rfl rfl rfl ?_
       obtain ⟨x137, e138, hm⟩ := bS hm
       replace e138 := nlit e138
       obtain ⟨p139, cs140, jx141, R142, k143⟩ := (Fsl.mono (PH.le_trans l107 l130) h102).idx e138
       obtain rfl := R142
       refine St.val (v := (.pointer (some p139))) (Yields.idx jx141 ts29 rfl rfl) rfl rfl rfl ?_
       refine St.val (v := (.string (bs x137))) (Yields.load rfl (Loads.Fat k143 tc9 rfl)) rfl rfl rfl ?_
       obtain ⟨q144, e145, hm⟩ := bS hm
       refine St.call [rowo A58 s53.1.length c59 36 3 cells61, rowo A64 (Mir.lastL DCode.L s53.1).length c65 40 7 cells66] (m_ref14_isRun_sp e145) rfl (fun _ ha => ev1 ha rfl) rfl en16 rfl rfl rfl ?_
       rintro _ F146 _ ⟨rfl, rfl⟩ l147
       refine St.val (v := (.bool (!q144))) (Yields.not rfl) rfl rfl rfl ?_
       refine spf rfl rfl rfl ?_
       refine St.nil ?_
       obtain rfl := sI hm
       intro a w ha hs
       exact ⟨F146, l147, ha.covers ⟨rfl, rfl, rfl, rfl, rfl, rfl, trivial⟩, (Among.of (Among.take 0 rfl rfl (Among.take 0 rfl rfl Among.none)) _ hs)⟩
      replace hm := iF hm q135
      have hb148 : (q127.2) = false := eq_false_of_ne_true q135
      try rw [hb148]
      refine smv rfl rfl ?_
      refine sv (v := vT) (Yields.not_f rfl) rfl ?_
      refine smv rfl rfl ?_
      refine su rfl rfl rfl ?_
      refine su rfl rfl rfl ?_
      refine su rfl rfl rfl ?_
      refine su rfl rfl rfl ?_
      refine su rfl rfl rfl ?_
      refine spt rfl rfl rfl ?_
      refine St.nil ?_
      obtain rfl := sI hm
      intro a w ha hs
      exact ⟨F129, (PH.le_refl _), ha.covers ⟨rfl, rfl, rfl, rfl, rfl, rfl, trivial⟩, (Among.of (Among.take 0 rfl rfl (Among.take 0 rfl rfl Among.none)) _ hs)⟩
     rintro a w ⟨F132, l133, ha, hs⟩
     replace hm := hk134
     refine St.use (?_ : St _ _ _ _ _ _) ha hs
     clear ha hs a w
     refine St.cond_b rfl ?_ ?_
     ·intro q149
      replace q149 : z131 = true := q149
      replace hm := iT hm q149
      refine ssr ?_
      refine smv rfl rfl ?_
      refine sv (v := (.int .i64 ((s53.2 + 1 : Nat) : Int))) (Yields.addn (j := 1) rfl rfl rfl (by have q_0 := q72; have q_1 := h21.bnd.2; omega)) rfl ?_
      refine sas rfl rfl ?_
      refine sas rfl rfl ?_
      refine sas rfl rfl ?_
      refine snn ?_
      refine St.ret ?_
      refine St.thenret ?_
      refine St.thenret ?_
      refine St.inret ?_
      refine St.thenret ?_
      refine St.thenret ?_
      refine St.inret ?_
      refine St.thenret ?_
      obtain rfl := sI hm
      obtain rfl := aR ho88
      obtain rfl := aR ho56
      obtain rfl := aR ho38
      exact St.doneR3 rfl rfl rfl rfl ⟨none, 0, rfl, Fsl.nil, rfl⟩ (fun w hs => Among.of Among.none w hs)
     intro q150
     replace q150 : ¬ (z131 = true) := bf q150
     replace hm := iF hm q150
     refine skn ?_
     refine ssr ?_
     refine smv rfl rfl ?_
     refine smv rfl rfl ?_
     obtain ⟨x151, e152, hm⟩ := bS hm
     replace e152 := nlit e152
     obtain ⟨p153, cs154, jx155, R156, k157⟩ := (Fsl.mono (PH.le_trans l107 (PH.le_trans l130 l133)) h102).idx e152
     obtain rfl := R156
     refine sv (v := (.pointer (some p153))) (Yields.idx jx155 ts29 rfl rfl) rfl ?_
     refine sv (v := (.string (bs x151))) (Yields.load rfl (Loads.Fat k157 tc9 rfl)) rfl ?_
     refine smv rfl rfl ?_
     refine sv (v := (.agg #[.string (bs x151), .int .i64 q127.1, .slice none 0 0])) (Yields.build (v := (.agg #[.string (bs x151), .int .i64 q127.1, .slice none 0 0])) (vs := #[(0, .string (bs x151)), (1, .int .i64 q127.1)]) (fun _ ha => evp2 ha rfl rfl) (fun _ => by kernel_rfl)) rfl ?_
     refine St.buildSlice (e := 36) (cells := #[.string (bs x151), .int .i64 q127.1, .slice none 0 0]) (vs := #[(0, .agg #[.string (bs x151), .int .i64 q127.1, .slice none 0 0])]) (fun _ ha => evp1 ha rfl) (fun _ => by kernel_rfl) rfl trivial ?_
     intro b158
     refine St.frz 2 rfl rfl rfl (Cat.mono (PH.le_trans l99 (PH.le_trans l107 (PH.le_trans l130 l133))) (Nest.inner h60)) b67 ?_
     intro F159 l160 h161
     have h162 := Nest.cat tailed_DCode (Nest.mono (PH.le_trans l99 (PH.le_trans l107 (PH.le_trans l130 (PH.le_trans l133 l160)))) h60) h161
     obtain ⟨x168, e169, hm⟩ := bS hm
     refine St.nest_push (R := [blk b158 (.cells #[.string (bs x151), .int .i64 q127.1, .slice none 0 0] 36 (0, 0))]) (R3 := []) (D2 := KDInstr) (hd := hd_DCode) (tl := DCode.L) (e2 := 40) (sz2 := 7) e169 ts22 rfl rfl rfl rfl 1 rfl rfl 0 rfl 0 rfl rfl h162 rfl rfl rfl rfl rfl trivial ?_
     intro A163 c164 cells165 h166 he167
     refine sas rfl rfl ?_
     refine snn ?_
     refine St.exit ?_
     refine St.thenexit ?_
     refine St.inexit ?_
     obtain rfl := sI hm
     intro a w ha hs
     exact ⟨x168, rfl, A163, c164, cells165, none, 0, [], F159, (PH.le_trans l99 (PH.le_trans l107 (PH.le_trans l130 (PH.le_trans l133 l160)))), h166, (Bnd.of_push e169), (by rw [he167]; exact Bnd.of_nil), ha.covers ⟨rfl, rfl, rfl, trivial⟩, (Among.of (Among.take 0 rfl rfl (Among.take 0 rfl rfl Among.none)) _ hs)⟩
    intro q172
    replace q172 : ¬ (x110 = ([99, 111, 100, 101] : List UInt8)) := of_decide_eq_false q172
    replace hm := iF hm q172
    refine skn ?_
    refine ssr ?_
    refine smv rfl rfl ?_
    obtain ⟨q173, e174, hm⟩ := bS hm
    refine St.call [rowo A58 s53.1.length c59 36 3 cells61, rowo A64 (Mir.lastL DCode.L s53.1).length c65 40 7 cells66] (m_ref14_instr_sp (Fsl.mono l107 h102) e174) rfl (fun _ ha => ev1 ha rfl) rfl en17 rfl rfl trivial ?_
    rintro _ F175 _ ⟨A177, c178, A181, c182, rfl, h179, h183, rfl⟩ l176
    refine smv rfl rfl ?_
    refine sv (v := (.agg #[.int .i64 q173.1.Op, .int .i64 q173.1.A, .int .i64 q173.1.B, .int .i64 q173.1.N, .string (bs q173.1.Name), .slice A177 q173.1.Args.length c178, .slice A181 q173.1.Cases.length c182])) (Yields.extract rfl rfl) rfl ?_
    refine sv (v := (.bool q173.2)) (Yields.extract rfl rfl) rfl ?_
    refine St.alloc tz40 trivial rfl ?_
    intro b185
    refine St.storen (R := [rowo A58 s53.1.length c59 36 3 cells61, rowo A64 (Mir.lastL DCode.L s53.1).length c65 40 7 cells66]) rfl rfl 0 rfl rfl ta40 rfl rfl rfl trivial (cs' := #[.int .i64 q173.1.Op, .int .i64 q173.1.A, .int .i64 q173.1.B, .int .i64 q173.1.N, .string (bs q173.1.Name), .slice A177 q173.1.Args.length c178, .slice A181 q173.1.Cases.length c182]) rfl ?_
    refine sas rfl rfl ?_
    refine snn ?_
    refine St.seq ?_
    obtain ⟨z186, hm, hk187⟩ := bS hm
    refine St.cutI (fun a w => Has Tryz.f5.ntmps a [(5, .slice A19 q15.length c20), (6, .slice A58 s53.1.length c59), (7, .int .i64 ((s53.2 : Nat) : Int)), (11, .pointer (some ⟨b185, 0, none⟩)), (95, .bool z186)] ∧ Sat ⟨w0, fun b => m0 b ≠ none, F⟩ F175 [blk b185 (.cells #[.int .i64 q173.1.Op, .int .i64 q173.1.A, .int .i64 q173.1.B, .int .i64 q173.1.N, .string (bs q173.1.Name), .slice A177 q173.1.Args.length c178, .slice A181 q173.1.Cases.length c182] 40 (0, 0)), rowo A58 s53.1.length c59 36 3 cells61, rowo A64 (Mir.lastL DCode.L s53.1).length c65 40 7 cells66] w) ?_ ?_
    ·skip
     refine St.region ?_
     by_cases q188 : q173.2 = true
     ·replace hm := iT hm q188
      have hb189 : (q173.2) = true := q188
      try rw [hb189]
      refine smv rfl rfl ?_
      refine sv (v := vF) (Yields.not_t rfl) rfl ?_
      refine smv rfl rfl ?_
      refine St.val (v := (.slice A58 s53.1.length c59)) (Yields.move rfl) rfl rfl rfl ?_
      refine St.val (v := (.int .i64 ((s53.1.length : Nat) : Int))) (Yields.lenSlice tu22 rfl) rfl rfl rfl ?_
      refine St.val (v := (.bool (decide (((s53.1.length : Nat) : Int) = 0)))) (Yields.eq rfl rfl) rfl rfl rfl ?_
      refine spf rfl rfl rfl ?_
      refine St.nil ?_
      obtain rfl := sI hm
      intro a w ha hs
      exact ⟨ha.covers ⟨rfl, rfl, rfl, rfl, rfl, trivial⟩, (Among.of (Among.take 0 rfl rfl (Among.take 0 rfl rfl (Among.take 0 rfl rfl Among.none))) _ hs)⟩
     replace hm := iF hm q188
     have hb190 : (q173.2) = false := eq_false_of_ne_true q188
     try rw [hb190]
     refine smv rfl rfl ?_
     refine sv (v := vT) (Yields.not_f rfl) rfl ?_
     refine smv rfl rfl ?_
     refine su rfl rfl rfl ?_
     refine su rfl rfl rfl ?_
     refine su rfl rfl rfl ?_
     refine spt rfl rfl rfl ?_
     refine St.nil ?_
     obtain rfl := sI hm
     intro a w ha hs
     exact ⟨ha.covers ⟨rfl, rfl, rfl, rfl, rfl, trivial⟩, (Among.of (Among.take 0 rfl rfl (Among.take 0 rfl rfl (Among.take 0 rfl rfl Among.none))) _ hs)⟩
    rintro a w ⟨ha, hs⟩
    replace hm := hk187
    refine St.use (?_ : St _ _ _ _ _ _) ha hs
    clear ha hs a w
    refine St.cond_b rfl ?_ ?_
    ·intro q191
     replace q191 : z186 = true := q191
     replace hm := iT hm q191
     refine ssr ?_
     refine smv rfl rfl ?_
     refine sv (v := (.int .i64 ((s53.2 + 1 : Nat) : Int))) (Yields.addn (j := 1) rfl rfl rfl (by have q_0 := q72; have q_1 := h21.bnd.2; omega)) rfl ?_
     refine sas rfl rfl ?_
     refine sas rfl rfl ?_
     refine sas rfl rfl ?_
     refine snn ?_
     refine St.ret ?_
     refine St.thenret ?_
     refine St.inret ?_
     refine St.thenret ?_
     refine St.thenret ?_
     refine St.inret ?_
     refine St.thenret ?_
     obtain rfl := sI hm
     obtain rfl := aR ho88
     obtain rfl := aR ho56
     obtain rfl := aR ho38
     exact St.doneR3 rfl rfl rfl rfl ⟨none, 0, rfl, Fsl.nil, rfl⟩ (fun w hs => Among.of Among.none w hs)
    intro q192
    replace q192 : ¬ (z186 = true) := bf q192
    replace hm := iF hm q192
    refine skn ?_
    refine ssr ?_
    refine smv rfl rfl ?_
    refine sv (v := (.int .i64 ((s53.1.length : Nat) : Int))) (Yields.lenSlice tu22 rfl) rfl ?_
    refine sv (v := (.int .i64 (((s53.1.length : Nat) : Int) - 1))) (Yields.sub rfl rfl (by have q_0 := b62.2; omega) (by have q_0 := b62.2; omega)) rfl ?_
    refine sas rfl rfl ?_
    refine snn ?_
    refine StD.start [9, 12] [blk b185 (.cells #[.int .i64 q173.1.Op, .int .i64 q173.1.A, .int .i64 q173.1.B, .int .i64 q173.1.N, .string (bs q173.1.Name), .slice A177 q173.1.Args.length c178, .slice A181 q173.1.Cases.length c182] 40 (0, 0)), rowo A58 s53.1.length c59 36 3 cells61, rowo A64 (Mir.lastL DCode.L s53.1).length c65 40 7 cells66] hmix ?_
    refine sdp 0 (v := (.slice A58 s53.1.length c59)) (listed' := #[true, false, false, false, false, false, false, false, false, false, false, false, false]) rfl (fun _ => Yields.move rfl) rfl (by kernel_rfl) rfl ?_
    refine sdp 1 (v := (.int .i64 (((s53.1.length : Nat) : Int) - 1))) (listed' := #[true, true, false, false, false, false, false, false, false, false, false, false, false]) rfl (fun _ => Yields.move rfl) rfl (by kernel_rfl) rfl ?_
    refine sdp 2 (v := (.slice A58 s53.1.length c59)) (listed' := #[true, true, true, false, false, false, false, false, false, false, false, false, false]) rfl (fun _ => Yields.move rfl) rfl (by kernel_rfl) rfl ?_
    refine sdp 3 (v := (.int .i64 (((s53.1.length : Nat) : Int) - 1))) (listed' := #[true, true, true, true, false, false, false, false, false, false, false, false, false]) rfl (fun _ => Yields.move rfl) rfl (by kernel_rfl) rfl ?_
    obtain ⟨x193, e194, hm⟩ := bS hm
    obtain ⟨jx195, jx196⟩ := idx_rng e194
    have k197 := Nest.at (Nest.mono (PH.le_trans l99 (PH.le_trans l107 l176)) h60) e194 (by omega)
    refine St.rowo_at 1 rfl (by omega) ?_
    intro hA198
    refine sdp 4 (v := (.pointer (some ⟨bk A58, bo A58 + (((s53.1.length : Nat) : Int) - 1).toNat * 3, none⟩))) (listed' := #[true, true, true, true, true, false, false, false, false, false, false, false, false]) rfl (fun _ => Yields.idx (IdxAt.own hA198 jx195 jx196) ts22 rfl rfl) rfl (by kernel_rfl) rfl ?_
    refine sdp 5 (v := (.pointer (some ⟨bk A58, bo A58 + ((((s53.1.length : Nat) : Int) - 1).toNat * 3 + 2), none⟩))) (listed' := #[true, true, true, true, true, true, false, false, false, false, false, false, false]) rfl (fun _ => Yields.fieldAddr (v := (.pointer (some ⟨bk A58, bo A58 + ((((s53.1.length : Nat) : Int) - 1).toNat * 3 + 2), none⟩))) rfl (fieldA (off := 2) (fun _ => by kernel_rfl))) rfl (by kernel_rfl) rfl ?_
    refine sdt [0, 1, 2, 3, 4, 5, 10, 11] 6 (v := (.slice A64 (Mir.lastL DCode.L s53.1).length c65)) (listed' := #[true, true, true, true, true, true, true, false, false, false, false, false, false]) rfl (Yields.load rfl (Loads.rA1 1 rfl tc34 (k197 2 _ rfl))) rfl Among.refl (by kernel_rfl) rfl ?_
    refine sdt [0, 1, 2, 3, 4, 5, 10, 11] 7 (v := (.agg #[.int .i64 q173.1.Op, .int .i64 q173.1.A, .int .i64 q173.1.B, .int .i64 q173.1.N, .string (bs q173.1.Name), .slice A177 q173.1.Args.length c178, .slice A181 q173.1.Cases.length c182])) (listed' := #[true, true, true, true, true, true, true, true, false, false, false, false, false]) rfl (Yields.load rfl (Loads.Hk (vs := [.int .i64 q173.1.Op, .int .i64 q173.1.A, .int .i64 q173.1.B, .int .i64 q173.1.N, .string (bs q173.1.Name), .slice A177 q173.1.Args.length c178, .slice A181 q173.1.Cases.length c182]) 0 rfl ta40 rfl rfl)) rfl Among.refl (by kernel_rfl) rfl ?_
    refine StD.only (i := 8) rfl (by kernel_rfl) (listed' := #[true, true, true, true, true, true, true, true, true, false, false, false, false]) rfl ?_
    intro hcl199
    refine St.buildSlice (e := 40) (cells := #[.int .i64 q173.1.Op, .int .i64 q173.1.A, .int .i64 q173.1.B, .int .i64 q173.1.N, .string (bs q173.1.Name), .slice A177 q173.1.Args.length c178, .slice A181 q173.1.Cases.length c182]) (vs := #[(0, .agg #[.int .i64 q173.1.Op, .int .i64 q173.1.A, .int .i64 q173.1.B, .int .i64 q173.1.N, .string (bs q173.1.Name), .slice A177 q173.1.Args.length c178, .slice A181 q173.1.Cases.length c182])]) (fun _ ha => evp1 ha rfl) (fun _ => by kernel_rfl) rfl trivial ?_
    intro b200
    refine StD.next hcl199 (fun _ => (Among.of (Among.take 1 rfl rfl (Among.take 1 rfl rfl (Among.take 1 rfl rfl Among.none))))) ?_
    refine StD.only (i := 9) rfl (by kernel_rfl) (listed' := #[true, true, true, true, true, true, true, true, true, true, false, false, false]) rfl ?_
    intro hcl201
    obtain ⟨x206, e207, hm⟩ := bS hm
    refine St.pushL (R := [blk b200 (.cells #[.int .i64 q173.1.Op, .int .i64 q173.1.A, .int .i64 q173.1.B, .int .i64 q173.1.N, .string (bs q173.1.Name), .slice A177 q173.1.Args.length c178, .slice A181 q173.1.Cases.length c182] 40 (0, 0)), blk b185 (.cells #[.int .i64 q173.1.Op, .int .i64 q173.1.A, .int .i64 q173.1.B, .int .i64 q173.1.N, .string (bs q173.1.Name), .slice A177 q173.1.Args.length c178, .slice A181 q173.1.Cases.length c182] 40 (0, 0)), rowo A58 s53.1.length c59 36 3 cells61]) (R3 := [blk b185 (.cells #[.int .i64 q173.1.Op, .int .i64 q173.1.A, .int .i64 q173.1.B, .int .i64 q173.1.N, .string (bs q173.1.Name), .slice A177 q173.1.Args.length c178, .slice A181 q173.1.Cases.length c182] 40 (0, 0)), rowo A58 s53.1.length c59 36 3 cells61]) e207 ts34 rfl rfl rfl rfl rfl 3 rfl rfl 0 rfl 0 rfl rfl (Cat.mono (PH.le_trans l99 (PH.le_trans l107 l176)) (Nest.inner h60)) ⟨[.int .i64 q173.1.Op, .int .i64 q173.1.A, .int .i64 q173.1.B, .int .i64 q173.1.N, .string (bs q173.1.Name), .slice A177 q173.1.Args.length c178, .slice A181 q173.1.Cases.length c182], _, rfl, (DInstr.of h179 h183), rfl⟩ rfl trivial ?_
    intro A202 c203 cells204 h205
    refine StD.next hcl201 (fun h => by cases h) ?_
    obtain ⟨x209, e210, hm⟩ := bS hm
    obtain ⟨jx211, jx212⟩ := idx_rng e210
    have k213 := Nest.at (Nest.mono (PH.le_trans l99 (PH.le_trans l107 l176)) h60) e210 (by omega)
    refine sdp 10 (v := (.pointer (some ⟨bk A58, bo A58 + (((s53.1.length : Nat) : Int) - 1).toNat * 3, none⟩))) (listed' := #[true, true, true, true, true, true, true, true, true, true, true, false, false]) rfl (fun _ => Yields.idx (IdxAt.own hA198 jx211 jx212) ts22 rfl rfl) rfl (by kernel_rfl) rfl ?_
    refine sdp 11 (v := (.pointer (some ⟨bk A58, bo A58 + ((((s53.1.length : Nat) : Int) - 1).toNat * 3 + 2), none⟩))) (listed' := #[true, true, true, true, true, true, true, true, true, true, true, true, false]) rfl (fun _ => Yields.fieldAddr (v := (.pointer (some ⟨bk A58, bo A58 + ((((s53.1.length : Nat) : Int) - 1).toNat * 3 + 2), none⟩))) rfl (fieldA (off := 2) (fun _ => by kernel_rfl))) rfl (by kernel_rfl) rfl ?_
    refine StD.only (i := 12) rfl (by kernel_rfl) (listed' := #[true, true, true, true, true, true, true, true, true, true, true, true, true]) rfl ?_
    intro hcl214
    obtain ⟨x219, e220, hm⟩ := bS hm
    refine St.nest_put (R := [rowo A202 x206.length c203 40 7 cells204, blk b185 (.cells #[.int .i64 q173.1.Op, .int .i64 q173.1.A, .int .i64 q173.1.B, .int .i64 q173.1.N, .string (bs q173.1.Name), .slice A177 q173.1.Args.length c178, .slice A181 q173.1.Cases.length c182] 40 (0, 0))]) (R3 := [blk b185 (.cells #[.int .i64 q173.1.Op, .int .i64 q173.1.A, .int .i64 q173.1.B, .int .i64 q173.1.N, .string (bs q173.1.Name), .slice A177 q173.1.Args.length c178, .slice A181 q173.1.Cases.length c182] 40 (0, 0))]) tailed_DCode (Nest.mono (PH.le_trans l99 (PH.le_trans l107 l176)) h60) e220 h205 rfl (by have q_ : KDCode.sz = 3 := rfl; simp only [q_]; omega) rfl rfl 2 rfl rfl 0 rfl rfl tc34 trivial ?_
    intro cells218 h215 hl216 he217
    try rw [hl216]
    refine StD.next hcl214 (fun h => by cases h) ?_
    refine StD.done (by kernel_rfl) ?_
    refine St.innorm ?_
    obtain rfl := sI hm
    intro a w ha hs
    exact ⟨x219, rfl, A58, c59, cells218, A202, c203, cells204, F175, (PH.le_trans l99 (PH.le_trans l107 l176)), h215, (Bnd.of_len hl216 b62), (by rw [he217]; exact (Bnd.of_push e207)), ha.covers ⟨rfl, rfl, rfl, trivial⟩, (Among.of (Among.take 0 rfl rfl (Among.take 0 rfl rfl Among.none)) _ hs)⟩
   rintro a w ⟨z73, rfl, A77, c78, cells80, A83, c84, cells85, F74, l75, h79, b81, b86, ha, hs⟩
   replace hm := aL ho88
   refine St.use (?_ : St _ _ _ _ _ _) ha hs
   clear ha hs a w
   refine St.region ?_
   refine smv rfl rfl ?_
   refine sv (v := (.int .i64 ((s53.2 + 1 : Nat) : Int))) (Yields.addn (j := 1) rfl rfl rfl (by have q_0 := q72; have q_1 := h21.bnd.2; omega)) rfl ?_
   refine sas rfl rfl ?_
   refine snn ?_
   obtain rfl := sI hm
   intro a w ha hs
   exact ⟨(z73, s53.2 + 1), aL ho56, A77, c78, cells80, A83, c84, cells85, F74, (PH.le_trans l69 l75), h79, b81, b86, ha.covers ⟨rfl, rfl, rfl, trivial⟩, (Among.of (Among.take 0 rfl rfl (Among.take 0 rfl rfl Among.none)) _ hs)⟩
  intro q221
  replace q221 : ¬ (((s53.2 : Nat) : Int) < ((q15.length : Nat) : Int)) := of_decide_eq_false q221
  replace hm := iF hm q221
  refine St.exit ?_
  refine St.thenexit ?_
  refine St.thenexit ?_
  refine St.inexit ?_
  obtain rfl := sI hm
  obtain rfl := aR ho56
  intro a w ha hs
  exact ⟨s53.1, rfl, A58, c59, cells61, A64, c65, cells66, F68, l69, h60, b62, b67, ha.covers ⟨rfl, trivial⟩, (Among.of (Among.take 0 rfl rfl (Among.take 0 rfl rfl Among.none)) _ hs)⟩
 rintro a w ⟨z23, rfl, A27, c28, cells30, A33, c34, cells35, F24, l25, h29, b31, b36, ha, hs⟩
 replace hm := aL ho38
 refine St.use (?_ : St _ _ _ _ _ _) ha hs
 clear ha hs a w
 refine St.seq ?_
 refine ssr ?_
 refine smv rfl rfl ?_
 refine St.frz 1 rfl rfl rfl (Nest.inner h29) b36 ?_
 intro F222 l223 h224
 have h225 := Nest.cat tailed_DCode (Nest.mono l223 h29) h224
 refine St.pick (R := []) 0 rfl rfl ?_
 obtain ⟨q226, e227, hm⟩ := bS hm
 refine St.call [] (CallSp.lend (Hl := [rowo A27 z23.length c28 36 3 cells30]) (fun m_ hm_ hd_ h1_ h2_ => (m_ref14_sizes_sp (lentR hm_ 0 rfl rfl h225 b31 h1_ h2_) e227).mono (fun _ _ _ h_ _ _ => h_))) rfl (fun _ ha => ev1 ha rfl) rfl en18 rfl rfl trivial ?_
 rintro _ F228 _ ⟨_, rfl, rfl, rfl⟩ l229
 refine sas rfl rfl ?_
 refine snn ?_
 refine ssr ?_
 refine smv rfl rfl ?_
 refine sv (v := (.bool (!decide (q226 = 0)))) (Yields.ne rfl rfl) rfl ?_
 refine snn ?_
 refine St.cond_b rfl ?_ ?_
 ·intro q230
  replace q230 : ¬ (q226 = 0) := nd_t q230
  replace hm := iF hm q230
  refine ssr ?_
  refine smv rfl rfl ?_
  refine sas rfl rfl ?_
  refine sas rfl rfl ?_
  refine sas rfl rfl ?_
  refine snn ?_
  refine St.ret ?_
  refine St.thenret ?_
  obtain rfl := sI hm
  exact St.doneR3 rfl rfl rfl rfl ⟨none, 0, rfl, Fsl.nil, rfl⟩ (fun w hs => Among.of Among.none w hs)
 intro q231
 replace q231 : q226 = 0 := nd_f q231
 replace hm := iT hm q231
 refine skn ?_
 refine St.seq ?_
 refine ssr ?_
 refine smv rfl rfl ?_
 refine St.pick (R := []) 0 rfl rfl ?_
 obtain ⟨q232, e233, hm⟩ := bS hm
 refine St.call [] (CallSp.lend (Hl := [rowo A27 z23.length c28 36 3 cells30]) (fun m_ hm_ hd_ h1_ h2_ => (m_ref14_isTold_sp (lentR hm_ 0 rfl rfl (Cat.mono l229 h225) b31 h1_ h2_) e233).mono (fun _ _ _ h_ _ _ => h_))) rfl (fun _ ha => ev1 ha rfl) rfl en19 rfl rfl trivial ?_
 rintro _ F234 _ ⟨_, rfl, rfl, rfl⟩ l235
 refine sv (v := (.bool (!q232))) (Yields.not rfl) rfl ?_
 refine snn ?_
 refine St.cond_b rfl ?_ ?_
 ·intro q236
  replace q236 : ¬ (q232 = true) := nb_t q236
  replace hm := iF hm q236
  refine ssr ?_
  refine sas rfl rfl ?_
  refine sas rfl rfl ?_
  refine sas rfl rfl ?_
  refine snn ?_
  refine St.ret ?_
  refine St.thenret ?_
  obtain rfl := sI hm
  exact St.doneR3 rfl rfl rfl rfl ⟨none, 0, rfl, Fsl.nil, rfl⟩ (fun w hs => Among.of Among.none w hs)
 intro q237
 replace q237 : q232 = true := nb_f q237
 replace hm := iT hm q237
 refine skn ?_
 refine ssr ?_
 refine smv rfl rfl ?_
 refine sas rfl rfl ?_
 refine sas rfl rfl ?_
 refine sas rfl rfl ?_
 refine snn ?_
 refine St.ret ?_
 refine St.frz 0 rfl rfl rfl (Cat.mono (PH.le_trans l229 l235) h225) b31 ?_
 intro F238 l239 h240
 obtain rfl := sI hm
 exact St.doneR3 rfl rfl rfl rfl ⟨A27, c28, rfl, h240, rfl⟩ (fun w hs => Among.of Among.none w hs)
theorem m_ref01_SameInts_sp {F : PH} {g : Nat} {a0 : List Int} {a1 : List Int} {pA0 : Option Addr} {pc0 : Nat} {pA1 : Option Addr} {pc1 : Nat} (ph0 : Fsl 8 (Kind.int .i64) F pA0 pc0 a0) (ph1 : Fsl 8 (Kind.int .i64) F pA1 pc1 a1) {r : Bool} (hm : m_ref01_SameInts g a0 a1 = some r) :
  CallSp Tryz.prog 20 #[.slice pA0 a0.length pc0, .slice pA1 a1.length pc1] F [] (fun u F' H' => u = (.bool r) ∧ H' = []) := by

 unfold m_ref01_SameInts at hm
 refine CallSp.enter (args := [.slice pA0 a0.length pc0, .slice pA1 a1.length pc1]) Tryz.func20 rfl rfl ?_
 intro w0 m0 hm0
 refine ssr ?_
 refine sas rfl rfl ?_
 refine snn ?_
 refine St.seq ?_
 refine ssr ?_
 refine smv rfl rfl ?_
 refine sv (v := (.int .i64 ((a0.length : Nat) : Int))) (Yields.lenSlice tu37 rfl) rfl ?_
 refine smv rfl rfl ?_
 refine sv (v := (.int .i64 ((a1.length : Nat) : Int))) (Yields.lenSlice tu37 rfl) rfl ?_
 refine sv (v := (.bool (!decide (((a0.length : Nat) : Int) = ((a1.length : Nat) : Int))))) (Yields.ne rfl rfl) rfl ?_
 refine snn ?_
 refine St.cond_b rfl ?_ ?_
 ·intro q3
  replace q3 : ¬ (((a0.length : Nat) : Int) = ((a1.length : Nat) : Int)) := nd_t q3
  replace hm := iF hm q3
  refine ssr ?_
  refine sas rfl rfl ?_
  refine snn ?_
  refine St.ret ?_
  refine St.thenret ?_
  obtain rfl := sI hm
  exact St.doneR1 rfl rfl ⟨rfl, rfl⟩ (fun w hs => Among.of Among.none w hs)
 intro q4
 replace q4 : ((a0.length : Nat) : Int) = ((a1.length : Nat) : Int) := nd_f q4
 replace hm := iT hm q4
 refine skn ?_
 obtain ⟨o6, hm, ho7⟩ := jS hm
 refine St.cutI (fun a w => ∃ z5 : Unit, o6 = .inl z5 ∧ Has Tryz.f20.ntmps a [] ∧ Sat ⟨w0, fun b => m0 b ≠ none, F⟩ F [] w) ?_ ?_
 ·skip
  refine ssr ?_
  refine sas rfl rfl ?_
  refine snn ?_
  refine St.block ?_
  refine St.loopM hm (fun s9 a w => Has Tryz.f20.ntmps a [(0, .slice pA0 a0.length pc0), (1, .slice pA1 a1.length pc1), (5, .int .i64 ((s9 : Nat) : Int))] ∧ Sat ⟨w0, fun b => m0 b ≠ none, F⟩ F [] w) ?_ ?_
  ·skip
   intro a w ha hs
   exact ⟨ha.covers ⟨rfl, rfl, rfl, trivial⟩, (Among.of Among.none _ hs)⟩
  rintro s9 o10 co11 hm ho12 a w ⟨ha, hs⟩
  refine St.use (?_ : St _ _ _ _ _ _) ha hs
  clear ha hs a w
  refine St.seq ?_
  refine ssr ?_
  refine smv rfl rfl ?_
  refine smv rfl rfl ?_
  refine sv (v := (.int .i64 ((a0.length : Nat) : Int))) (Yields.lenSlice tu37 rfl) rfl ?_
  refine sv (v := (.bool (decide (((s9 : Nat) : Int) < ((a0.length : Nat) : Int))))) (Yields.lt rfl rfl) rfl ?_
  refine snn ?_
  refine St.cond_b rfl ?_ ?_
  ·intro q13
   replace q13 : ((s9 : Nat) : Int) < ((a0.length : Nat) : Int) := of_decide_eq_true q13
   replace hm := iT hm q13
   refine skn ?_
   refine St.seq ?_
   refine St.block ?_
   refine St.seq ?_
   refine StD.start [] [] hmix ?_
   refine sdp 0 (v := (.slice pA0 a0.length pc0)) (listed' := #[true, false, false, false, false, false, false, false, false]) rfl (fun _ => Yields.move rfl) rfl (by kernel_rfl) rfl ?_
   refine sdp 1 (v := (.int .i64 ((s9 : Nat) : Int))) (listed' := #[true, true, false, false, false, false, false, false, false]) rfl (fun _ => Yields.move rfl) rfl (by kernel_rfl) rfl ?_
   obtain ⟨x14, e15, hm⟩ := bS hm
   obtain ⟨p16, cs17, jx18, R19, k20⟩ := ph0.nidx e15
   obtain rfl := R19
   refine sdp 2 (v := (.pointer (some p16))) (listed' := #[true, true, true, false, false, false, false, false, false]) rfl (fun _ => Yields.idx jx18 ts37 rfl rfl) rfl (by kernel_rfl) rfl ?_
   refine sdt [0, 1, 2, 4, 5, 6, 8] 3 (v := (.int .i64 x14)) (listed' := #[true, true, true, true, false, false, false, false, false]) rfl (Yields.load rfl (Loads.Fat k20 tc3 rfl)) rfl Among.refl (by kernel_rfl) rfl ?_
   refine sdp 4 (v := (.slice pA1 a1.length pc1)) (listed' := #[true, true, true, true, true, false, false, false, false]) rfl (fun _ => Yields.move rfl) rfl (by kernel_rfl) rfl ?_
   refine sdp 5 (v := (.int .i64 ((s9 : Nat) : Int))) (listed' := #[true, true, true, true, true, true, false, false, false]) rfl (fun _ => Yields.move rfl) rfl (by kernel_rfl) rfl ?_
   obtain ⟨x21, e22, hm⟩ := bS hm
   obtain ⟨p23, cs24, jx25, R26, k27⟩ := ph1.nidx e22
   obtain rfl := R26
   refine sdp 6 (v := (.pointer (some p23))) (listed' := #[true, true, true, true, true, true, true, false, false]) rfl (fun _ => Yields.idx jx25 ts37 rfl rfl) rfl (by kernel_rfl) rfl ?_
   refine sdt [0, 1, 2, 4, 5, 6, 8] 7 (v := (.int .i64 x21)) (listed' := #[true, true, true, true, true, true, true, true, false]) rfl (Yields.load rfl (Loads.Fat k27 tc3 rfl)) rfl Among.refl (by kernel_rfl) rfl ?_
   refine sdp 8 (v := (.bool (!decide (x14 = x21)))) (listed' := #[true, true, true, true, true, true, true, true, true]) rfl (fun _ => Yields.ne rfl rfl) rfl (by kernel_rfl) rfl ?_
   refine StD.done (by kernel_rfl) ?_
   refine St.norm ?_
   refine St.cond_b rfl ?_ ?_
   ·intro q28
    replace q28 : ¬ (x14 = x21) := nd_t q28
    replace hm := iF hm q28
    refine ssr ?_
    refine sas rfl rfl ?_
    refine snn ?_
    refine St.ret ?_
    refine St.inret ?_
    refine St.thenret ?_
    refine St.thenret ?_
    refine St.inret ?_
    refine St.thenret ?_
    obtain rfl := sI hm
    obtain rfl := aR ho12
    obtain rfl := aR ho7
    exact St.doneR1 rfl rfl ⟨rfl, rfl⟩ (fun w hs => Among.of Among.none w hs)
   intro q29
   replace q29 : x14 = x21 := nd_f q29
   replace hm := iT hm q29
   refine St.skip ?_
   refine St.innorm ?_
   refine St.norm ?_
   refine St.region ?_
   refine smv rfl rfl ?_
   refine sv (v := (.int .i64 ((s9 + 1 : Nat) : Int))) (Yields.addn (j := 1) rfl rfl rfl (by have q_0 := q13; have q_1 := ph0.bnd.2; omega)) rfl ?_
   refine sas rfl rfl ?_
   refine snn ?_
   obtain rfl := sI hm
   intro a w ha hs
   exact ⟨s9 + 1, aL ho12, ha.covers ⟨rfl, rfl, rfl, trivial⟩, (Among.of Among.none _ hs)⟩
  intro q30
  replace q30 : ¬ (((s9 : Nat) : Int) < ((a0.length : Nat) : Int)) := of_decide_eq_false q30
  replace hm := iF hm q30
  refine St.exit ?_
  refine St.thenexit ?_
  refine St.thenexit ?_
  refine St.inexit ?_
  obtain rfl := sI hm
  obtain rfl := aR ho12
  intro a w ha hs
  exact ⟨(), rfl, ha.covers trivial, (Among.of Among.none _ hs)⟩
 rintro a w ⟨z5, rfl, ha, hs⟩
 replace hm := aL ho7
 refine St.use (?_ : St _ _ _ _ _ _) ha hs
 clear ha hs a w
 refine ssr ?_
 refine sas rfl rfl ?_
 refine snn ?_
 refine St.ret ?_
 obtain rfl := sI hm
 exact St.doneR1 rfl rfl ⟨rfl, rfl⟩ (fun w hs => Among.of Among.none w hs)
theorem m_law14_same_sp {F : PH} {g : Nat} {a0 : List DCode} {a1 : List DCode} {pA0 : Option Addr} {pc0 : Nat} {pA1 : Option Addr} {pc1 : Nat} (ph0 : Fsl 48 KDCode F pA0 pc0 a0) (ph1 : Fsl 48 KDCode F pA1 pc1 a1) {r : Bool} (hm : m_law14_same g a0 a1 = some r) :
  CallSp Tryz.prog 6 #[.slice pA0 a0.length pc0, .slice pA1 a1.length pc1] F [] (fun u F' H' => u = (.bool r) ∧ H' = []) := by

 unfold m_law14_same at hm
 refine CallSp.enter (args := [.slice pA0 a0.length pc0, .slice pA1 a1.length pc1]) Tryz.func6 rfl rfl ?_
 intro w0 m0 hm0
 refine ssr ?_
 refine sas rfl rfl ?_
 refine snn ?_
 refine St.seq ?_
 refine ssr ?_
 refine smv rfl rfl ?_
 refine sv (v := (.int .i64 ((a0.length : Nat) : Int))) (Yields.lenSlice tu22 rfl) rfl ?_
 refine smv rfl rfl ?_
 refine sv (v := (.int .i64 ((a1.length : Nat) : Int))) (Yields.lenSlice tu22 rfl) rfl ?_
 refine sv (v := (.bool (!decide (((a0.length : Nat) : Int) = ((a1.length : Nat) : Int))))) (Yields.ne rfl rfl) rfl ?_
 refine snn ?_
 refine St.cond_b rfl ?_ ?_
 ·intro q3
  replace q3 : ¬ (((a0.length : Nat) : Int) = ((a1.length : Nat) : Int)) := nd_t q3
  replace hm := iF hm q3
  refine ssr ?_
  refine sas rfl rfl ?_
  refine snn ?_
  refine St.ret ?_
  refine St.thenret ?_
  obtain rfl := sI hm
  exact St.doneR1 rfl rfl ⟨rfl, rfl⟩ (fun w hs => Among.of Among.none w hs)
 intro q4
 replace q4 : ((a0.length : Nat) : Int) = ((a1.length : Nat) : Int) := nd_f q4
 replace hm := iT hm q4
 refine skn ?_
 obtain ⟨o8, hm, ho9⟩ := jS hm
 refine St.cutI (fun a w => ∃ z5 : Unit, o8 = .inl z5 ∧ ∃ (F6 : PH), PH.le F F6 ∧ Has Tryz.f6.ntmps a [] ∧ Sat ⟨w0, fun b => m0 b ≠ none, F⟩ F6 [] w) ?_ ?_
 ·skip
  refine ssr ?_
  refine sas rfl rfl ?_
  refine snn ?_
  refine St.block ?_
  refine St.loopM hm (fun s12 a w => ∃ (F16 : PH), PH.le F F16 ∧ Has Tryz.f6.ntmps a [(0, .slice pA0 a0.length pc0), (1, .slice pA1 a1.length pc1), (5, .int .i64 ((s12 : Nat) : Int))] ∧ Sat ⟨w0, fun b => m0 b ≠ none, F⟩ F16 [] w) ?_ ?_
  ·skip
   intro a w ha hs
   exact ⟨F, (PH.le_refl _), ha.covers ⟨rfl, rfl, rfl, trivial⟩, (Among.of Among.none _ hs)⟩
  rintro s12 o13 co14 hm ho15 a w ⟨F16, l17, ha, hs⟩
  refine St.use (?_ : St _ _ _ _ _ _) ha hs
  clear ha hs a w
  refine St.seq ?_
  refine ssr ?_
  refine smv rfl rfl ?_
  refine smv rfl rfl ?_
  refine sv (v := (.int .i64 ((a0.length : Nat) : Int))) (Yields.lenSlice tu22 rfl) rfl ?_
  refine sv (v := (.bool (decide (((s12 : Nat) : Int) < ((a0.length : Nat) : Int))))) (Yields.lt rfl rfl) rfl ?_
  refine snn ?_
  refine St.cond_b rfl ?_ ?_
  ·intro q18
   replace q18 : ((s12 : Nat) : Int) < ((a0.length : Nat) : Int) := of_decide_eq_true q18
   replace hm := iT hm q18
   refine skn ?_
   obtain ⟨o22, hm, ho23⟩ := jS hm
   refine St.cutI (fun a w => ∃ z19 : Unit, o22 = .inl z19 ∧ ∃ (F20 : PH), PH.le F16 F20 ∧ Has Tryz.f6.ntmps a [(0, .slice pA0 a0.length pc0), (1, .slice pA1 a1.length pc1), (5, .int .i64 ((s12 : Nat) : Int))] ∧ Sat ⟨w0, fun b => m0 b ≠ none, F⟩ F20 [] w) ?_ ?_
   ·skip
    refine St.block ?_
    refine St.seq ?_
    obtain ⟨z24, hm, hk25⟩ := bS hm
    refine St.cutI (fun a w => Has Tryz.f6.ntmps a [(0, .slice pA0 a0.length pc0), (1, .slice pA1 a1.length pc1), (5, .int .i64 ((s12 : Nat) : Int)), (59, .bool z24)] ∧ Sat ⟨w0, fun b => m0 b ≠ none, F⟩ F16 [] w) ?_ ?_
    ·skip
     refine StD.start [] [] hmix ?_
     refine sdp 0 (v := (.slice pA0 a0.length pc0)) (listed' := #[true, false, false, false, false, false, false, false, false, false, false, false, false, false, false, false, false, false, false, false, false, false, false, false, false, false, false, false, false, false, false, false, false, false, false, false, false, false, false]) rfl (fun _ => Yields.move rfl) rfl (by kernel_rfl) rfl ?_
     refine sdp 1 (v := (.int .i64 ((s12 : Nat) : Int))) (listed' := #[true, true, false, false, false, false, false, false, false, false, false, false, false, false, false, false, false, false, false, false, false, false, false, false, false, false, false, false, false, false, false, false, false, false, false, false, false, false, false]) rfl (fun _ => Yields.move rfl) rfl (by kernel_rfl) rfl ?_
     obtain ⟨x26, e27, hm⟩ := bS hm
     obtain ⟨p28, cs29, jx30, R31, k32⟩ := (Fsl.mono l17 ph0).nidx e27
     obtain ⟨A33, c34, rfl, h35⟩ := DCode.opn R31
     refine sdp 2 (v := (.pointer (some p28))) (listed' := #[true, true, true, false, false, false, false, false, false, false, false, false, false, false, false, false, false, false, false, false, false, false, false, false, false, false, false, false, false, false, false, false, false, false, false, false, false, false, false]) rfl (fun _ => Yields.idx jx30 ts22 rfl rfl) rfl (by kernel_rfl) rfl ?_
     refine sdp 3 (v := (.pointer (some p28))) (listed' := #[true, true, true, true, false, false, false, false, false, false, false, false, false, false, false, false, false, false, false, false, false, false, false, false, false, false, false, false, false, false, false, false, false, false, false, false, false, false, false]) rfl (fun _ => Yields.fieldAddr (v := (.pointer (some p28))) rfl (fun _ => by kernel_rfl)) rfl (by kernel_rfl) rfl ?_
     refine sdt [0, 1, 2, 3, 5, 6, 7, 8, 10, 11, 12, 13, 14, 15, 17, 18, 19, 20, 22, 23, 24, 25, 26, 27, 28, 30, 31, 32, 33, 34, 36, 37, 38] 4 (v := (.string (bs x26.Name))) (listed' := #[true, true, true, true, true, false, false, false, false, false, false, false, false, false, false, false, false, false, false, false, false, false, false, false, false, false, false, false, false, false, false, false, false, false, false, false, false, false, false]) rfl (Yields.load rfl (Loads.Fat k32 tc9 rfl)) rfl Among.refl (by kernel_rfl) rfl ?_
     refine sdp 5 (v := (.slice pA1 a1.length pc1)) (listed' := #[true, true, true, true, true, true, false, false, false, false, false, false, false, false, false, false, false, false, false, false, false, false, false, false, false, false, false, false, false, false, false, false, false, false, false, false, false, false, false]) rfl (fun _ => Yields.move rfl) rfl (by kernel_rfl) rfl ?_
     refine sdp 6 (v := (.int .i64 ((s12 : Nat) : Int))) (listed' := #[true, true, true, true, true, true, true, false, false, false, false, false, false, false, false, false, false, false, false, false, false, false, false, false, false, false, false, false, false, false, false, false, false, false, false, false, false, false, false]) rfl (fun _ => Yields.move rfl) rfl (by kernel_rfl) rfl ?_
     obtain ⟨x37, e38, hm⟩ := bS hm
     obtain ⟨p39, cs40, jx41, R42, k43⟩ := (Fsl.mono l17 ph1).nidx e38
     obtain ⟨A44, c45, rfl, h46⟩ := DCode.opn R42
     refine sdp 7 (v := (.pointer (some p39))) (listed' := #[true, true, true, true, true, true, true, true, false, false, false, false, false, false, false, false, false, false, false, false, false, false, false, false, false, false, false, false, false, false, false, false, false, false, false, false, false, false, false]) rfl (fun _ => Yields.idx jx41 ts22 rfl rfl) rfl (by kernel_rfl) rfl ?_
     refine sdp 8 (v := (.pointer (some p39))) (listed' := #[true, true, true, true, true, true, true, true, true, false, false, false, false, false, false, false, false, false, false, false, false, false, false, false, false, false, false, false, false, false, false, false, false, false, false, false, false, false, false]) rfl (fun _ => Yields.fieldAddr (v := (.pointer (some p39))) rfl (fun _ => by kernel_rfl)) rfl (by kernel_rfl) rfl ?_
     refine sdt [0, 1, 2, 3, 5, 6, 7, 8, 10, 11, 12, 13, 14, 15, 17, 18, 19, 20, 22, 23, 24, 25, 26, 27, 28, 30, 31, 32, 33, 34, 36, 37, 38] 9 (v := (.string (bs x37.Name))) (listed' := #[true, true, true, true, true, true, true, true, true, true, false, false, false, false, false, false, false, false, false, false, false, false, false, false, false, false, false, false, false, false, false, false, false, false, false, false, false, false, false]) rfl (Yields.load rfl (Loads.Fat k43 tc9 rfl)) rfl Among.refl (by kernel_rfl) rfl ?_
     by_cases q48 : x26.Name = x37.Name
     ·replace hm := iT hm q48
      refine sdp 10 (v := (.bool false)) (listed' := #[true, true, true, true, true, true, true, true, true, true, true, false, false, false, false, false, false, false, false, false, false, false, false, false, false, false, false, false, false, false, false, false, false, false, false, false, false, false, false]) rfl (fun _ => Yields.nis q48 (Yields.neStr rfl rfl)) rfl (by kernel_rfl) rfl ?_
      refine sdp 11 (v := (.bool false)) (listed' := #[true, true, true, true, true, true, true, true, true, true, true, true, false, false, false, false, false, false, false, false, false, false, false, false, false, false, false, false, false, false, false, false, false, false, false, false, false, false, false]) rfl (fun _ => Yields.move rfl) rfl (by kernel_rfl) rfl ?_
      refine StD.takeP (i := 12) (v := (.slice pA0 a0.length pc0)) rfl (fun _ => Yields.move rfl) rfl rfl rfl CalmI.out (by kernel_rfl) (listed' := #[true, true, true, true, true, true, true, true, true, true, true, true, true, false, false, false, false, false, false, false, false, false, false, false, false, false, false, false, false, false, false, false, false, false, false, false, false, false, false]) rfl ?_
      refine StD.takeP (i := 13) (v := (.int .i64 ((s12 : Nat) : Int))) rfl (fun _ => Yields.move rfl) rfl rfl rfl CalmI.out (by kernel_rfl) (listed' := #[true, true, true, true, true, true, true, true, true, true, true, true, true, true, false, false, false, false, false, false, false, false, false, false, false, false, false, false, false, false, false, false, false, false, false, false, false, false, false]) rfl ?_
      obtain ⟨x49, e50, hm⟩ := bS hm
      obtain ⟨p51, cs52, jx53, R54, k55⟩ := (Fsl.mono l17 ph0).nidx e50
      obtain ⟨A56, c57, rfl, h58⟩ := DCode.opn R54
      refine StD.takeP (i := 14) (v := (.pointer (some p51))) rfl (fun _ => Yields.idx jx53 ts22 rfl rfl) rfl rfl rfl CalmI.out (by kernel_rfl) (listed' := #[true, true, true, true, true, true, true, true, true, true, true, true, true, true, true, false, false, false, false, false, false, false, false, false, false, false, false, false, false, false, false, false, false, false, false, false, false, false, false]) rfl ?_
      refine StD.takeP (i := 15) (v := (.pointer (some (p51.add 1)))) rfl (fun _ => Yields.fieldAddr (v := (.pointer (some (p51.add 1)))) rfl (fun _ => by kernel_rfl)) rfl rfl rfl CalmI.out (by kernel_rfl) (listed' := #[true, true, true, true, true, true, true, true, true, true, true, true, true, true, true, true, false, false, false, false, false, false, false, false, false, false, false, false, false, false, false, false, false, false, false, false, false, false, false]) rfl ?_
      refine StD.take [0, 1, 2, 3, 5, 6, 7, 8, 10, 11, 12, 13, 14, 15, 17, 18, 19, 20, 22, 23, 24, 25, 26, 27, 28, 30, 31, 32, 33, 34, 36, 37, 38] (i := 16) (v := (.int .i64 x49.Arity)) rfl (Yields.load rfl (Loads.Fatk 1 k55 tc3 rfl)) rfl rfl rfl Among.refl CalmI.out (by kernel_rfl) (listed' := #[true, true, true, true, true, true, true, true, true, true, true, true, true, true, true, true, true, false, false, false, false, false, false, false, false, false, false, false, false, false, false, false, false, false, false, false, false, false, false]) rfl ?_
      refine StD.takeP (i := 17) (v := (.slice pA1 a1.length pc1)) rfl (fun _ => Yields.move rfl) rfl rfl rfl CalmI.out (by kernel_rfl) (listed' := #[true, true, true, true, true, true, true, true, true, true, true, true, true, true, true, true, true, true, false, false, false, false, false, false, false, false, false, false, false, false, false, false, false, false, false, false, false, false, false]) rfl ?_
      refine StD.takeP (i := 18) (v := (.int .i64 ((s12 : Nat) : Int))) rfl (fun _ => Yields.move rfl) rfl rfl rfl CalmI.out (by kernel_rfl) (listed' := #[true, true, true, true, true, true, true, true, true, true, true, true, true, true, true, true, true, true, true, false, false, false, false, false, false, false, false, false, false, false, false, false, false, false, false, false, false, false, false]) rfl ?_
      obtain ⟨x60, e61, hm⟩ := bS hm
      obtain ⟨p62, cs63, jx64, R65, k66⟩ := (Fsl.mono l17 ph1).nidx e61
      obtain ⟨A67, c68, rfl, h69⟩ := DCode.opn R65
      refine StD.takeP (i := 19) (v := (.pointer (some p62))) rfl (fun _ => Yields.idx jx64 ts22 rfl rfl) rfl rfl rfl CalmI.out (by kernel_rfl) (listed' := #[true, true, true, true, true, true, true, true, true, true, true, true, true, true, true, true, true, true, true, true, false, false, false, false, false, false, false, false, false, false, false, false, false, false, false, false, false, false, false]) rfl ?_
      refine StD.takeP (i := 20) (v := (.pointer (some (p62.add 1)))) rfl (fun _ => Yields.fieldAddr (v := (.pointer (some (p62.add 1)))) rfl (fun _ => by kernel_rfl)) rfl rfl rfl CalmI.out (by kernel_rfl) (listed' := #[true, true, true, true, true, true, true, true, true, true, true, true, true, true, true, true, true, true, true, true, true, false, false, false, false, false, false, false, false, false, false, false, false, false, false, false, false, false, false]) rfl ?_
      refine StD.take [0, 1, 2, 3, 5, 6, 7, 8, 10, 11, 12, 13, 14, 15, 17, 18, 19, 20, 22, 23, 24, 25, 26, 27, 28, 30, 31, 32, 33, 34, 36, 37, 38] (i := 21) (v := (.int .i64 x60.Arity)) rfl (Yields.load rfl (Loads.Fatk 1 k66 tc3 rfl)) rfl rfl rfl Among.refl CalmI.out (by kernel_rfl) (listed' := #[true, true, true, true, true, true, true, true, true, true, true, true, true, true, true, true, true, true, true, true, true, true, false, false, false, false, false, false, false, false, false, false, false, false, false, false, false, false, false]) rfl ?_
      by_cases q71 : x49.Arity = x60.Arity
      ·replace hm := iT hm q71
       refine StD.takeP (i := 22) (v := (.bool false)) rfl (fun _ => Yields.nis q71 (Yields.ne rfl rfl)) rfl rfl rfl CalmI.out (by kernel_rfl) (listed' := #[true, true, true, true, true, true, true, true, true, true, true, true, true, true, true, true, true, true, true, true, true, true, true, false, false, false, false, false, false, false, false, false, false, false, false, false, false, false, false]) rfl ?_
       refine sdp 23 (v := (.bool false)) (listed' := #[true, true, true, true, true, true, true, true, true, true, true, true, true, true, true, true, true, true, true, true, true, true, true, true, false, false, false, false, false, false, false, false, false, false, false, false, false, false, false]) rfl (fun _ => Yields.pick_f rfl rfl) rfl (by kernel_rfl) rfl ?_
       refine sdp 24 (v := (.bool false)) (listed' := #[true, true, true, true, true, true, true, true, true, true, true, true, true, true, true, true, true, true, true, true, true, true, true, true, true, false, false, false, false, false, false, false, false, false, false, false, false, false, false]) rfl (fun _ => Yields.move rfl) rfl (by kernel_rfl) rfl ?_
       refine StD.takeP (i := 25) (v := (.slice pA0 a0.length pc0)) rfl (fun _ => Yields.move rfl) rfl rfl rfl CalmI.out (by kernel_rfl) (listed' := #[true, true, true, true, true, true, true, true, true, true, true, true, true, true, true, true, true, true, true, true, true, true, true, true, true, true, false, false, false, false, false, false, false, false, false, false, false, false, false]) rfl ?_
       refine StD.takeP (i := 26) (v := (.int .i64 ((s12 : Nat) : Int))) rfl (fun _ => Yields.move rfl) rfl rfl rfl CalmI.out (by kernel_rfl) (listed' := #[true, true, true, true, true, true, true, true, true, true, true, true, true, true, true, true, true, true, true, true, true, true, true, true, true, true, true, false, false, false, false, false, false, false, false, false, false, false, false]) rfl ?_
       obtain ⟨x72, e73, hm⟩ := bS hm
       obtain ⟨p74, cs75, jx76, R77, k78⟩ := (Fsl.mono l17 ph0).nidx e73
       obtain ⟨A79, c80, rfl, h81⟩ := DCode.opn R77
       refine StD.takeP (i := 27) (v := (.pointer (some p74))) rfl (fun _ => Yields.idx jx76 ts22 rfl rfl) rfl rfl rfl CalmI.out (by kernel_rfl) (listed' := #[true, true, true, true, true, true, true, true, true, true, true, true, true, true, true, true, true, true, true, true, true, true, true, true, true, true, true, true, false, false, false, false, false, false, false, false, false, false, false]) rfl ?_
       refine StD.takeP (i := 28) (v := (.pointer (some (p74.add 2)))) rfl (fun _ => Yields.fieldAddr (v := (.pointer (some (p74.add 2)))) rfl (fun _ => by kernel_rfl)) rfl rfl rfl CalmI.out (by kernel_rfl) (listed' := #[true, true, true, true, true, true, true, true, true, true, true, true, true, true, true, true, true, true, true, true, true, true, true, true, true, true, true, true, true, false, false, false, false, false, false, false, false, false, false]) rfl ?_
       refine StD.take [0, 1, 2, 3, 5, 6, 7, 8, 10, 11, 12, 13, 14, 15, 17, 18, 19, 20, 22, 23, 24, 25, 26, 27, 28, 30, 31, 32, 33, 34, 36, 37, 38] (i := 29) (v := (.slice A79 x72.L.length c80)) rfl (Yields.load rfl (Loads.Fatk 2 k78 tc34 rfl)) rfl rfl rfl Among.refl CalmI.out (by kernel_rfl) (listed' := #[true, true, true, true, true, true, true, true, true, true, true, true, true, true, true, true, true, true, true, true, true, true, true, true, true, true, true, true, true, true, false, false, false, false, false, false, false, false, false]) rfl ?_
       refine StD.takeP (i := 30) (v := (.int .i64 ((x72.L.length : Nat) : Int))) rfl (fun _ => Yields.lenSlice tu34 rfl) rfl rfl rfl CalmI.out (by kernel_rfl) (listed' := #[true, true, true, true, true, true, true, true, true, true, true, true, true, true, true, true, true, true, true, true, true, true, true, true, true, true, true, true, true, true, true, false, false, false, false, false, false, false, false]) rfl ?_
       refine StD.takeP (i := 31) (v := (.slice pA1 a1.length pc1)) rfl (fun _ => Yields.move rfl) rfl rfl rfl CalmI.out (by kernel_rfl) (listed' := #[true, true, true, true, true, true, true, true, true, true, true, true, true, true, true, true, true, true, true, true, true, true, true, true, true, true, true, true, true, true, true, true, false, false, false, false, false, false, false]) rfl ?_
       refine StD.takeP (i := 32) (v := (.int .i64 ((s12 : Nat) : Int))) rfl (fun _ => Yields.move rfl) rfl rfl rfl CalmI.out (by kernel_rfl) (listed' := #[true, true, true, true, true, true, true, true, true, true, true, true, true, true, true, true, true, true, true, true, true, true, true, true, true, true, true, true, true, true, true, true, true, false, false, false, false, false, false]) rfl ?_
       obtain ⟨x83, e84, hm⟩ := bS hm
       obtain ⟨p85, cs86, jx87, R88, k89⟩ := (Fsl.mono l17 ph1).nidx e84
       obtain ⟨A90, c91, rfl, h92⟩ := DCode.opn R88
       refine StD.takeP (i := 33) (v := (.pointer (some p85))) rfl (fun _ => Yields.idx jx87 ts22 rfl rfl) rfl rfl rfl CalmI.out (by kernel_rfl) (listed' := #[true, true, true, true, true, true, true, true, true, true, true, true, true, true, true, true, true, true, true, true, true, true, true, true, true, true, true, true, true, true, true, true, true, true, false, false, false, false, false]) rfl ?_
       refine StD.takeP (i := 34) (v := (.pointer (some (p85.add 2)))) rfl (fun _ => Yields.fieldAddr (v := (.pointer (some (p85.add 2)))) rfl (fun _ => by kernel_rfl)) rfl rfl rfl CalmI.out (by kernel_rfl) (listed' := #[true, true, true, true, true, true, true, true, true, true, true, true, true, true, true, true, true, true, true, true, true, true, true, true, true, true, true, true, true, true, true, true, true, true, true, false, false, false, false]) rfl ?_
       refine StD.take [0, 1, 2, 3, 5, 6, 7, 8, 10, 11, 12, 13, 14, 15, 17, 18, 19, 20, 22, 23, 24, 25, 26, 27, 28, 30, 31, 32, 33, 34, 36, 37, 38] (i := 35) (v := (.slice A90 x83.L.length c91)) rfl (Yields.load rfl (Loads.Fatk 2 k89 tc34 rfl)) rfl rfl rfl Among.refl CalmI.out (by kernel_rfl) (listed' := #[true, true, true, true, true, true, true, true, true, true, true, true, true, true, true, true, true, true, true, true, true, true, true, true, true, true, true, true, true, true, true, true, true, true, true, true, false, false, false]) rfl ?_
       refine StD.takeP (i := 36) (v := (.int .i64 ((x83.L.length : Nat) : Int))) rfl (fun _ => Yields.lenSlice tu34 rfl) rfl rfl rfl CalmI.out (by kernel_rfl) (listed' := #[true, true, true, true, true, true, true, true, true, true, true, true, true, true, true, true, true, true, true, true, true, true, true, true, true, true, true, true, true, true, true, true, true, true, true, true, true, false, false]) rfl ?_
       refine StD.takeP (i := 37) (v := (.bool (!decide (((x72.L.length : Nat) : Int) = ((x83.L.length : Nat) : Int))))) rfl (fun _ => Yields.ne rfl rfl) rfl rfl rfl CalmI.out (by kernel_rfl) (listed' := #[true, true, true, true, true, true, true, true, true, true, true, true, true, true, true, true, true, true, true, true, true, true, true, true, true, true, true, true, true, true, true, true, true, true, true, true, true, true, false]) rfl ?_
       refine sdp 38 (v := (.bool (!decide (((x72.L.length : Nat) : Int) = ((x83.L.length : Nat) : Int))))) (listed' := #[true, true, true, true, true, true, true, true, true, true, true, true, true, true, true, true, true, true, true, true, true, true, true, true, true, true, true, true, true, true, true, true, true, true, true, true, true, true, true]) rfl (fun _ => Yields.pick_f rfl rfl) rfl (by kernel_rfl) rfl ?_
       refine StD.done (by kernel_rfl) ?_
       obtain rfl := sI hm
       intro a w ha hs
       exact ⟨ha.covers ⟨rfl, rfl, rfl, rfl, trivial⟩, (Among.of Among.none _ hs)⟩
      replace hm := iF hm q71
      refine StD.takeP (i := 22) (v := (.bool true)) rfl (fun _ => Yields.nisnt q71 (Yields.ne rfl rfl)) rfl rfl rfl CalmI.out (by kernel_rfl) (listed' := #[true, true, true, true, true, true, true, true, true, true, true, true, true, true, true, true, true, true, true, true, true, true, true, false, false, false, false, false, false, false, false, false, false, false, false, false, false, false, false]) rfl ?_
      refine sdp 23 (v := (.bool true)) (listed' := #[true, true, true, true, true, true, true, true, true, true, true, true, true, true, true, true, true, true, true, true, true, true, true, true, false, false, false, false, false, false, false, false, false, false, false, false, false, false, false]) rfl (fun _ => Yields.pick_f rfl rfl) rfl (by kernel_rfl) rfl ?_
      refine sdp 24 (v := (.bool true)) (listed' := #[true, true, true, true, true, true, true, true, true, true, true, true, true, true, true, true, true, true, true, true, true, true, true, true, true, false, false, false, false, false, false, false, false, false, false, false, false, false, false]) rfl (fun _ => Yields.move rfl) rfl (by kernel_rfl) rfl ?_
      refine StD.takeNot (i := 25) rfl rfl rfl rfl CalmI.out (by kernel_rfl) (listed' := #[true, true, true, true, true, true, true, true, true, true, true, true, true, true, true, true, true, true, true, true, true, true, true, true, true, true, false, false, false, false, false, false, false, false, false, false, false, false, false]) rfl ?_
      refine StD.takeNot (i := 26) rfl rfl rfl rfl CalmI.out (by kernel_rfl) (listed' := #[true, true, true, true, true, true, true, true, true, true, true, true, true, true, true, true, true, true, true, true, true, true, true, true, true, true, true, false, false, false, false, false, false, false, false, false, false, false, false]) rfl ?_
      refine StD.takeNot (i := 27) rfl rfl rfl rfl CalmI.out (by kernel_rfl) (listed' := #[true, true, true, true, true, true, true, true, true, true, true, true, true, true, true, true, true, true, true, true, true, true, true, true, true, true, true, true, false, false, false, false, false, false, false, false, false, false, false]) rfl ?_
      refine StD.takeNot (i := 28) rfl rfl rfl rfl CalmI.out (by kernel_rfl) (listed' := #[true, true, true, true, true, true, true, true, true, true, true, true, true, true, true, true, true, true, true, true, true, true, true, true, true, true, true, true, true, false, false, false, false, false, false, false, false, false, false]) rfl ?_
      refine StD.takeNot (i := 29) rfl rfl rfl rfl CalmI.out (by kernel_rfl) (listed' := #[true, true, true, true, true, true, true, true, true, true, true, true, true, true, true, true, true, true, true, true, true, true, true, true, true, true, true, true, true, true, false, false, false, false, false, false, false, false, false]) rfl ?_
      refine StD.takeNot (i := 30) rfl rfl rfl rfl CalmI.out (by kernel_rfl) (listed' := #[true, true, true, true, true, true, true, true, true, true, true, true, true, true, true, true, true, true, true, true, true, true, true, true, true, true, true, true, true, true, true, false, false, false, false, false, false, false, false]) rfl ?_
      refine StD.takeNot (i := 31) rfl rfl rfl rfl CalmI.out (by kernel_rfl) (listed' := #[true, true, true, true, true, true, true, true, true, true, true, true, true, true, true, true, true, true, true, true, true, true, true, true, true, true, true, true, true, true, true, true, false, false, false, false, false, false, false]) rfl ?_
      refine StD.takeNot (i := 32) rfl rfl rfl rfl CalmI.out (by kernel_rfl) (listed' := #[true, true, true, true, true, true, true, true, true, true, true, true, true, true, true, true, true, true, true, true, true, true, true, true, true, true, true, true, true, true, true, true, true, false, false, false, false, false, false]) rfl ?_
      refine StD.takeNot (i := 33) rfl rfl rfl rfl CalmI.out (by kernel_rfl) (listed' := #[true, true, true, true, true, true, true, true, true, true, true, true, true, true, true, true, true, true, true, true, true, true, true, true, true, true, true, true, true, true, true, true, true, true, false, false, false, false, false]) rfl ?_
      refine StD.takeNot (i := 34) rfl rfl rfl rfl CalmI.out (by kernel_rfl) (listed' := #[true, true, true, true, true, true, true, true, true, true, true, true, true, true, true, true, true, true, true, true, true, true, true, true, true, true, true, true, true, true, true, true, true, true, true, false, false, false, false]) rfl ?_
      refine StD.takeNot (i := 35) rfl rfl rfl rfl CalmI.out (by kernel_rfl) (listed' := #[true, true, true, true, true, true, true, true, true, true, true, true, true, true, true, true, true, true, true, true, true, true, true, true, true, true, true, true, true, true, true, true, true, true, true, true, false, false, false]) rfl ?_
      refine StD.takeNot (i := 36) rfl rfl rfl rfl CalmI.out (by kernel_rfl) (listed' := #[true, true, true, true, true, true, true, true, true, true, true, true, true, true, true, true, true, true, true, true, true, true, true, true, true, true, true, true, true, true, true, true, true, true, true, true, true, false, false]) rfl ?_
      refine StD.takeNot (i := 37) rfl rfl rfl rfl CalmI.out (by kernel_rfl) (listed' := #[true, true, true, true, true, true, true, true, true, true, true, true, true, true, true, true, true, true, true, true, true, true, true, true, true, true, true, true, true, true, true, true, true, true, true, true, true, true, false]) rfl ?_
      refine sdp 38 (v := (.bool true)) (listed' := #[true, true, true, true, true, true, true, true, true, true, true, true, true, true, true, true, true, true, true, true, true, true, true, true, true, true, true, true, true, true, true, true, true, true, true, true, true, true, true]) rfl (fun _ => Yields.pick_t rfl rfl) rfl (by kernel_rfl) rfl ?_
      refine StD.done (by kernel_rfl) ?_
      obtain rfl := sI hm
      intro a w ha hs
      exact ⟨ha.covers ⟨rfl, rfl, rfl, rfl, trivial⟩, (Among.of Among.none _ hs)⟩
     replace hm := iF hm q48
     refine sdp 10 (v := (.bool true)) (listed' := #[true, true, true, true, true, true, true, true, true, true, true, false, false, false, false, false, false, false, false, false, false, false, false, false, false, false, false, false, false, false, false, false, false, false, false, false, false, false, false]) rfl (fun _ => Yields.nisnt q48 (Yields.neStr rfl rfl)) rfl (by kernel_rfl) rfl ?_
     refine sdp 11 (v := (.bool true)) (listed' := #[true, true, true, true, true, true, true, true, true, true, true, true, false, false, false, false, false, false, false, false, false, false, false, false, false, false, false, false, false, false, false, false, false, false, false, false, false, false, false]) rfl (fun _ => Yields.move rfl) rfl (by kernel_rfl) rfl ?_
     refine StD.takeNot (i := 12) rfl rfl rfl rfl CalmI.out (by kernel_rfl) (listed' := #[true, true, true, true, true, true, true, true, true, true, true, true, true, false, false, false, false, false, false, false, false, false, false, false, false, false, false, false, false, false, false, false, false, false, false, false, false, false, false]) rfl ?_
     refine StD.takeNot (i := 13) rfl rfl rfl rfl CalmI.out (by kernel_rfl) (listed' := #[true, true, true, true, true, true, true, true, true, true, true, true, true, true, false, false, false, false, false, false, false, false, false, false, false, false, false, false, false, false, false, false, false, false, false, false, false, false, false]) rfl ?_
     refine StD.takeNot (i := 14) rfl rfl rfl rfl CalmI.out (by kernel_rfl) (listed' := #[true, true, true, true, true, true, true, true, true, true, true, true, true, true, true, false, false, false, false, false, false, false, false, false, false, false, false, false, false, false, false, false, false, false, false, false, false, false, false]) rfl ?_
     refine StD.takeNot (i := 15) rfl rfl rfl rfl CalmI.out (by kernel_rfl) (listed' := #[true, true, true, true, true, true, true, true, true, true, true, true, true, true, true, true, false, false, false, false, false, false, false, false, false, false, false, false, false, false, false, false, false, false, false, false, false, false, false]) rfl ?_
     refine StD.takeNot (i := 16) rfl rfl rfl rfl CalmI.out (by kernel_rfl) (listed' := #[true, true, true, true, true, true, true, true, true, true, true, true, true, true, true, true, true, false, false, false, false, false, false, false, false, false, false, false, false, false, false, false, false, false, false, false, false, false, false]) rfl ?_
     refine StD.takeNot (i := 17) rfl rfl rfl rfl CalmI.out (by kernel_rfl) (listed' := #[true, true, true, true, true, true, true, true, true, true, true, true, true, true, true, true, true, true, false, false, false, false, false, false, false, false, false, false, false, false, false, false, false, false, false, false, false, false, false]) rfl ?_
     refine StD.takeNot (i := 18) rfl rfl rfl rfl CalmI.out (by kernel_rfl) (listed' := #[true, true, true, true, true, true, true, true, true, true, true, true, true, true, true, true, true, true, true, false, false, false, false, false, false, false, false, false, false, false, false, false, false, false, false, false, false, false, false]) rfl ?_
     refine StD.takeNot (i := 19) rfl rfl rfl rfl CalmI.out (by kernel_rfl) (listed' := #[true, true, true, true, true, true, true, true, true, true, true, true, true, true, true, true, true, true, true, true, false, false, false, false, false, false, false, false, false, false, false, false, false, false, false, false, false, false, false]) rfl ?_
     refine StD.takeNot (i := 20) rfl rfl rfl rfl CalmI.out (by kernel_rfl) (listed' := #[true, true, true, true, true, true, true, true, true, true, true, true, true, true, true, true, true, true, true, true, true, false, false, false, false, false, false, false, false, false, false, false, false, false, false, false, false, false, false]) rfl ?_
     refine StD.takeNot (i := 21) rfl rfl rfl rfl CalmI.out (by kernel_rfl) (listed' := #[true, true, true, true, true, true, true, true, true, true, true, true, true, true, true, true, true, true, true, true, true, true, false, false, false, false, false, false, false, false, false, false, false, false, false, false, false, false, false]) rfl ?_
     refine StD.takeNot (i := 22) rfl rfl rfl rfl CalmI.out (by kernel_rfl) (listed' := #[true, true, true, true, true, true, true, true, true, true, true, true, true, true, true, true, true, true, true, true, true, true, true, false, false, false, false, false, false, false, false, false, false, false, false, false, false, false, false]) rfl ?_
     refine sdp 23 (v := (.bool true)) (listed' := #[true, true, true, true, true, true, true, true, true, true, true, true, true, true, true, true, true, true, true, true, true, true, true, true, false, false, false, false, false, false, false, false, false, false, false, false, false, false, false]) rfl (fun _ => Yields.pick_t rfl rfl) rfl (by kernel_rfl) rfl ?_
     refine sdp 24 (v := (.bool true)) (listed' := #[true, true, true, true, true, true, true, true, true, true, true, true, true, true, true, true, true, true, true, true, true, true, true, true, true, false, false, false, false, false, false, false, false, false, false, false, false, false, false]) rfl (fun _ => Yields.move rfl) rfl (by kernel_rfl) rfl ?_
     refine StD.takeNot (i := 25) rfl rfl rfl rfl CalmI.out (by kernel_rfl) (listed' := #[true, true, true, true, true, true, true, true, true, true, true, true, true, true, true, true, true, true, true, true, true, true, true, true, true, true, false, false, false, false, false, false, false, false, false, false, false, false, false]) rfl ?_
     refine StD.takeNot (i := 26) rfl rfl rfl rfl CalmI.out (by kernel_rfl) (listed' := #[true, true, true, true, true, true, true, true, true, true, true, true, true, true, true, true, true, true, true, true, true, true, true, true, true, true, true, false, false, false, false, false, false, false, false, false, false, false, false]) rfl ?_
     refine StD.takeNot (i := 27) rfl rfl rfl rfl CalmI.out (by kernel_rfl) (listed' := #[true, true, true, true, true, true, true, true, true, true, true, true, true, true, true, true, true, true, true, true, true, true, true, true, true, true, true, true, false, false, false, false, false, false, false, false, false, false, false]) rfl ?_
     refine StD.takeNot (i := 28) rfl rfl rfl rfl CalmI.out (by kernel_rfl) (listed' := #[true, true, true, true, true, true, true, true, true, true, true, true, true, true, true, true, true, true, true, true, true, true, true, true, true, true, true, true, true, false, false, false, false, false, false, false, false, false, false]) rfl ?_
     refine StD.takeNot (i := 29) rfl rfl rfl rfl CalmI.out (by kernel_rfl) (listed' := #[true, true, true, true, true, true, true, true, true, true, true, true, true, true, true, true, true, true, true, true, true, true, true, true, true, true, true, true, true, true, false, false, false, false, false, false, false, false, false]) rfl ?_
     refine StD.takeNot (i := 30) rfl rfl rfl rfl CalmI.out (by kernel_rfl) (listed' := #[true, true, true, true, true, true, true, true, true, true, true, true, true, true, true, true, true, true, true, true, true, true, true, true, true, true, true, true, true, true, true, false, false, false, false, false, false, false, false]) rfl ?_
     refine StD.takeNot (i := 31) rfl rfl rfl rfl CalmI.out (by kernel_rfl) (listed' := #[true, true, true, true, true, true, true, true, true, true, true, true, true, true, true, true, true, true, true, true, true, true, true, true, true, true, true, true, true, true, true, true, false, false, false, false, false, false, false]) rfl ?_
     refine StD.takeNot (i := 32) rfl rfl rfl rfl CalmI.out (by kernel_rfl) (listed' := #[true, true, true, true, true, true, true, true, true, true, true, true, true, true, true, true, true, true, true, true, true, true, true, true, true, true, true, true, true, true, true, true, true, false, false, false, false, false, false]) rfl ?_
     refine StD.takeNot (i := 33) rfl rfl rfl rfl CalmI.out (by kernel_rfl) (listed' := #[true, true, true, true, true, true, true, true, true, true, true, true, true, true, true, true, true, true, true, true, true, true, true, true, true, true, true, true, true, true, true, true, true, true, false, false, false, false, false]) rfl ?_
     refine StD.takeNot (i := 34) rfl rfl rfl rfl CalmI.out (by kernel_rfl) (listed' := #[true, true, true, true, true, true, true, true, true, true, true, true, true, true, true, true, true, true, true, true, true, true, true, true, true, true, true, true, true, true, true, true, true, true, true, false, false, false, false]) rfl ?_
     refine StD.takeNot (i := 35) rfl rfl rfl rfl CalmI.out (by kernel_rfl) (listed' := #[true, true, true, true, true, true, true, true, true, true, true, true, true, true, true, true, true, true, true, true, true, true, true, true, true, true, true, true, true, true, true, true, true, true, true, true, false, false, false]) rfl ?_
     refine StD.takeNot (i := 36) rfl rfl rfl rfl CalmI.out (by kernel_rfl) (listed' := #[true, true, true, true, true, true, true, true, true, true, true, true, true, true, true, true, true, true, true, true, true, true, true, true, true, true, true, true, true, true, true, true, true, true, true, true, true, false, false]) rfl ?_
     refine StD.takeNot (i := 37) rfl rfl rfl rfl CalmI.out (by kernel_rfl) (listed' := #[true, true, true, true, true, true, true, true, true, true, true, true, true, true, true, true, true, true, true, true, true, true, true, true, true, true, true, true, true, true, true, true, true, true, true, true, true, true, false]) rfl ?_
     refine sdp 38 (v := (.bool true)) (listed' := #[true, true, true, true, true, true, true, true, true, true, true, true, true, true, true, true, true, true, true, true, true, true, true, true, true, true, true, true, true, true, true, true, true, true, true, true, true, true, true]) rfl (fun _ => Yields.pick_t rfl rfl) rfl (by kernel_rfl) rfl ?_
     refine StD.done (by kernel_rfl) ?_
     obtain rfl := sI hm
     intro a w ha hs
     exact ⟨ha.covers ⟨rfl, rfl, rfl, rfl, trivial⟩, (Among.of Among.none _ hs)⟩
    rintro a w ⟨ha, hs⟩
    replace hm := hk25
    refine St.use (?_ : St _ _ _ _ _ _) ha hs
    clear ha hs a w
    refine St.cond_b rfl ?_ ?_
    ·intro q94
     replace q94 : z24 = true := q94
     replace hm := iT hm q94
     refine ssr ?_
     refine sas rfl rfl ?_
     refine snn ?_
     refine St.ret ?_
     refine St.thenret ?_
     refine St.inret ?_
     refine St.thenret ?_
     refine St.thenret ?_
     refine St.inret ?_
     refine St.thenret ?_
     obtain rfl := sI hm
     obtain rfl := aR ho23
     obtain rfl := aR ho15
     obtain rfl := aR ho9
     exact St.doneR1 rfl rfl ⟨rfl, rfl⟩ (fun w hs => Among.of Among.none w hs)
    intro q95
    replace q95 : ¬ (z24 = true) := bf q95
    replace hm := iF hm q95
    refine skn ?_
    refine ssr ?_
    refine sas rfl rfl ?_
    refine snn ?_
    refine St.block ?_
    refine St.loopM hm (fun s98 a w => ∃ (F102 : PH), PH.le F16 F102 ∧ Has Tryz.f6.ntmps a [(0, .slice pA0 a0.length pc0), (1, .slice pA1 a1.length pc1), (5, .int .i64 ((s12 : Nat) : Int)), (6, .int .i64 ((s98 : Nat) : Int))] ∧ Sat ⟨w0, fun b => m0 b ≠ none, F⟩ F102 [] w) ?_ ?_
    ·skip
     intro a w ha hs
     exact ⟨F16, (PH.le_refl _), ha.covers ⟨rfl, rfl, rfl, rfl, trivial⟩, (Among.of Among.none _ hs)⟩
    rintro s98 o99 co100 hm ho101 a w ⟨F102, l103, ha, hs⟩
    refine St.use (?_ : St _ _ _ _ _ _) ha hs
    clear ha hs a w
    refine St.seq ?_
    refine ssr ?_
    refine smv rfl rfl ?_
    refine smv rfl rfl ?_
    refine smv rfl rfl ?_
    obtain ⟨x104, e105, hm⟩ := bS hm
    obtain ⟨p106, cs107, jx108, R109, k110⟩ := (Fsl.mono (PH.le_trans l17 l103) ph0).nidx e105
    obtain ⟨A111, c112, rfl, h113⟩ := DCode.opn R109
    refine sv (v := (.pointer (some p106))) (Yields.idx jx108 ts22 rfl rfl) rfl ?_
    refine sfa (v := (.pointer (some (p106.add 2)))) rfl (fun _ => by kernel_rfl) rfl ?_
    refine sv (v := (.slice A111 x104.L.length c112)) (Yields.load rfl (Loads.Fatk 2 k110 tc34 rfl)) rfl ?_
    refine sv (v := (.int .i64 ((x104.L.length : Nat) : Int))) (Yields.lenSlice tu34 rfl) rfl ?_
    refine sv (v := (.bool (decide (((s98 : Nat) : Int) < ((x104.L.length : Nat) : Int))))) (Yields.lt rfl rfl) rfl ?_
    refine snn ?_
    refine St.cond_b rfl ?_ ?_
    ·intro q115
     replace q115 : ((s98 : Nat) : Int) < ((x104.L.length : Nat) : Int) := of_decide_eq_true q115
     replace hm := iT hm q115
     refine skn ?_
     obtain ⟨o119, hm, ho120⟩ := jS hm
     refine St.cutI (fun a w => ∃ z116 : Unit, o119 = .inl z116 ∧ ∃ (F117 : PH), PH.le F102 F117 ∧ Has Tryz.f6.ntmps a [(0, .slice pA0 a0.length pc0), (1, .slice pA1 a1.length pc1), (5, .int .i64 ((s12 : Nat) : Int)), (6, .int .i64 ((s98 : Nat) : Int))] ∧ Sat ⟨w0, fun b => m0 b ≠ none, F⟩ F117 [] w) ?_ ?_
     ·skip
      refine St.block ?_
      obtain ⟨z121, hm, hk140⟩ := bS hm
      refine St.cutI (fun a w => ∃ (b138 : Nat) (b139 : Nat) (A123 : Option Addr) (c124 : Nat) (A127 : Option Addr) (c128 : Nat) (A131 : Option Addr) (c132 : Nat) (A135 : Option Addr) (c136 : Nat), Fsl 8 (Kind.int .i64) F102 A123 c124 z121.2.2.2.2.2.1 ∧ Fsl 32 KDJump F102 A127 c128 z121.2.2.2.2.2.2.1 ∧ Fsl 8 (Kind.int .i64) F102 A131 c132 z121.2.2.2.2.2.2.2.2.2.2.2.2.1 ∧ Fsl 32 KDJump F102 A135 c136 z121.2.2.2.2.2.2.2.2.2.2.2.2.2 ∧ Has Tryz.f6.ntmps a [(0, .slice pA0 a0.length pc0), (1, .slice pA1 a1.length pc1), (5, .int .i64 ((s12 : Nat) : Int)), (6, .int .i64 ((s98 : Nat) : Int)), (7, .pointer (some ⟨b138, 0, none⟩)), (8, .pointer (some ⟨b139, 0, none⟩))] ∧ Sat ⟨w0, fun b => m0 b ≠ none, F⟩ F102 [blk b138 (.cells #[.int .i64 z121.1, .int .i64 z121.2.1, .int .i64 z121.2.2.1, .int .i64 z121.2.2.2.1, .string (bs z121.2.2.2.2.1), .slice A123 z121.2.2.2.2.2.1.length c124, .slice A127 z121.2.2.2.2.2.2.1.length c128] 40 (0, 0)), blk b139 (.cells #[.int .i64 z121.2.2.2.2.2.2.2.1, .int .i64 z121.2.2.2.2.2.2.2.2.1, .int .i64 z121.2.2.2.2.2.2.2.2.2.1, .int .i64 z121.2.2.2.2.2.2.2.2.2.2.1, .string (bs z121.2.2.2.2.2.2.2.2.2.2.2.1), .slice A131 z121.2.2.2.2.2.2.2.2.2.2.2.2.1.length c132, .slice A135 z121.2.2.2.2.2.2.2.2.2.2.2.2.2.length c136] 40 (0, 0))] w) ?_ ?_
      ·skip
       refine StD.start [19] [] hmix ?_
       refine sdp 0 (v := (.slice pA0 a0.length pc0)) (listed' := #[true, false, false, false, false, false, false, false, false, false, false, false, false, false, false, false, false, false, false, false]) rfl (fun _ => Yields.move rfl) rfl (by kernel_rfl) rfl ?_
       refine sdp 1 (v := (.int .i64 ((s12 : Nat) : Int))) (listed' := #[true, true, false, false, false, false, false, false, false, false, false, false, false, false, false, false, false, false, false, false]) rfl (fun _ => Yields.move rfl) rfl (by kernel_rfl) rfl ?_
       obtain ⟨x141, e142, hm⟩ := bS hm
       obtain ⟨p143, cs144, jx145, R146, k147⟩ := (Fsl.mono (PH.le_trans l17 l103) ph0).nidx e142
       obtain ⟨A148, c149, rfl, h150⟩ := DCode.opn R146
       refine sdp 2 (v := (.pointer (some p143))) (listed' := #[true, true, true, false, false, false, false, false, false, false, false, false, false, false, false, false, false, false, false, false]) rfl (fun _ => Yields.idx jx145 ts22 rfl rfl) rfl (by kernel_rfl) rfl ?_
       refine sdp 3 (v := (.pointer (some (p143.add 2)))) (listed' := #[true, true, true, true, false, false, false, false, false, false, false, false, false, false, false, false, false, false, false, false]) rfl (fun _ => Yields.fieldAddr (v := (.pointer (some (p143.add 2)))) rfl (fun _ => by kernel_rfl)) rfl (by kernel_rfl) rfl ?_
       refine sdt [0, 1, 2, 3, 5, 6, 8, 9, 10, 11, 13, 14] 4 (v := (.slice A148 x141.L.length c149)) (listed' := #[true, true, true, true, true, false, false, false, false, false, false, false, false, false, false, false, false, false, false, false]) rfl (Yields.load rfl (Loads.Fatk 2 k147 tc34 rfl)) rfl Among.refl (by kernel_rfl) rfl ?_
       refine sdp 5 (v := (.int .i64 ((s98 : Nat) : Int))) (listed' := #[true, true, true, true, true, true, false, false, false, false, false, false, false, false, false, false, false, false, false, false]) rfl (fun _ => Yields.move rfl) rfl (by kernel_rfl) rfl ?_
       obtain ⟨x152, e153, hm⟩ := bS hm
       obtain ⟨p154, cs155, jx156, R157, k158⟩ := h150.nidx e153
       obtain ⟨A159, c160, A162, c163, rfl, h161, h164⟩ := DInstr.opn R157
       refine sdp 6 (v := (.pointer (some p154))) (listed' := #[true, true, true, true, true, true, true, false, false, false, false, false, false, false, false, false, false, false, false, false]) rfl (fun _ => Yields.idx jx156 ts34 rfl rfl) rfl (by kernel_rfl) rfl ?_
       refine sdt [0, 1, 2, 3, 5, 6, 8, 9, 10, 11, 13, 14] 7 (v := (.agg #[.int .i64 x152.Op, .int .i64 x152.A, .int .i64 x152.B, .int .i64 x152.N, .string (bs x152.Name), .slice A159 x152.Args.length c160, .slice A162 x152.Cases.length c163])) (listed' := #[true, true, true, true, true, true, true, true, false, false, false, false, false, false, false, false, false, false, false, false]) rfl (Yields.load rfl (Loads.Fatn0 k158 ta40)) rfl Among.refl (by kernel_rfl) rfl ?_
       refine sdp 8 (v := (.slice pA1 a1.length pc1)) (listed' := #[true, true, true, true, true, true, true, true, true, false, false, false, false, false, false, false, false, false, false, false]) rfl (fun _ => Yields.move rfl) rfl (by kernel_rfl) rfl ?_
       refine sdp 9 (v := (.int .i64 ((s12 : Nat) : Int))) (listed' := #[true, true, true, true, true, true, true, true, true, true, false, false, false, false, false, false, false, false, false, false]) rfl (fun _ => Yields.move rfl) rfl (by kernel_rfl) rfl ?_
       obtain ⟨x167, e168, hm⟩ := bS hm
       obtain ⟨p169, cs170, jx171, R172, k173⟩ := (Fsl.mono (PH.le_trans l17 l103) ph1).nidx e168
       obtain ⟨A174, c175, rfl, h176⟩ := DCode.opn R172
       refine sdp 10 (v := (.pointer (some p169))) (listed' := #[true, true, true, true, true, true, true, true, true, true, true, false, false, false, false, false, false, false, false, false]) rfl (fun _ => Yields.idx jx171 ts22 rfl rfl) rfl (by kernel_rfl) rfl ?_
       refine sdp 11 (v := (.pointer (some (p169.add 2)))) (listed' := #[true, true, true, true, true, true, true, true, true, true, true, true, false, false, false, false, false, false, false, false]) rfl (fun _ => Yields.fieldAddr (v := (.pointer (some (p169.add 2)))) rfl (fun _ => by kernel_rfl)) rfl (by kernel_rfl) rfl ?_
       refine sdt [0, 1, 2, 3, 5, 6, 8, 9, 10, 11, 13, 14] 12 (v := (.slice A174 x167.L.length c175)) (listed' := #[true, true, true, true, true, true, true, true, true, true, true, true, true, false, false, false, false, false, false, false]) rfl (Yields.load rfl (Loads.Fatk 2 k173 tc34 rfl)) rfl Among.refl (by kernel_rfl) rfl ?_
       refine sdp 13 (v := (.int .i64 ((s98 : Nat) : Int))) (listed' := #[true, true, true, true, true, true, true, true, true, true, true, true, true, true, false, false, false, false, false, false]) rfl (fun _ => Yields.move rfl) rfl (by kernel_rfl) rfl ?_
       obtain ⟨x178, e179, hm⟩ := bS hm
       obtain ⟨p180, cs181, jx182, R183, k184⟩ := h176.nidx e179
       obtain ⟨A185, c186, A188, c189, rfl, h187, h190⟩ := DInstr.opn R183
       refine sdp 14 (v := (.pointer (some p180))) (listed' := #[true, true, true, true, true, true, true, true, true, true, true, true, true, true, true, false, false, false, false, false]) rfl (fun _ => Yields.idx jx182 ts34 rfl rfl) rfl (by kernel_rfl) rfl ?_
       refine sdt [0, 1, 2, 3, 5, 6, 8, 9, 10, 11, 13, 14] 15 (v := (.agg #[.int .i64 x178.Op, .int .i64 x178.A, .int .i64 x178.B, .int .i64 x178.N, .string (bs x178.Name), .slice A185 x178.Args.length c186, .slice A188 x178.Cases.length c189])) (listed' := #[true, true, true, true, true, true, true, true, true, true, true, true, true, true, true, true, false, false, false, false]) rfl (Yields.load rfl (Loads.Fatn0 k184 ta40)) rfl Among.refl (by kernel_rfl) rfl ?_
       refine StD.two (i := 16) (j := 17) rfl rfl (by kernel_rfl) (l1 := #[true, true, true, true, true, true, true, true, true, true, true, true, true, true, true, true, true, false, false, false]) (l2 := #[true, true, true, true, true, true, true, true, true, true, true, true, true, true, true, true, false, true, false, false]) rfl rfl ?_ ?_
       ·intro hcl193
        refine St.alloc tz40 trivial rfl ?_
        intro b194
        refine StD.next hcl193 (fun _ => (Among.of Among.none)) ?_
        refine StD.only (i := 17) rfl (by kernel_rfl) (listed' := #[true, true, true, true, true, true, true, true, true, true, true, true, true, true, true, true, true, true, false, false]) rfl ?_
        intro hcl195
        refine St.alloc tz40 trivial rfl ?_
        intro b196
        refine StD.next hcl195 (fun _ => (Among.of Among.none)) ?_
        refine StD.only (i := 18) rfl (by kernel_rfl) (listed' := #[true, true, true, true, true, true, true, true, true, true, true, true, true, true, true, true, true, true, true, false]) rfl ?_
        intro hcl197
        refine St.storen (R := [blk b196 (.cells #[.int .i64 0, .int .i64 0, .int .i64 0, .int .i64 0, .string (bs []), .slice none 0 0, .slice none 0 0] 40 (0, 0))]) rfl rfl 1 rfl rfl ta40 rfl rfl rfl trivial (cs' := #[.int .i64 x152.Op, .int .i64 x152.A, .int .i64 x152.B, .int .i64 x152.N, .string (bs x152.Name), .slice A159 x152.Args.length c160, .slice A162 x152.Cases.length c163]) rfl ?_
        refine StD.next hcl197 (fun _ => (Among.of Among.none)) ?_
        refine StD.only (i := 19) rfl (by kernel_rfl) (listed' := #[true, true, true, true, true, true, true, true, true, true, true, true, true, true, true, true, true, true, true, true]) rfl ?_
        intro hcl198
        refine St.storen (R := [blk b194 (.cells #[.int .i64 x152.Op, .int .i64 x152.A, .int .i64 x152.B, .int .i64 x152.N, .string (bs x152.Name), .slice A159 x152.Args.length c160, .slice A162 x152.Cases.length c163] 40 (0, 0))]) rfl rfl 1 rfl rfl ta40 rfl rfl rfl trivial (cs' := #[.int .i64 x178.Op, .int .i64 x178.A, .int .i64 x178.B, .int .i64 x178.N, .string (bs x178.Name), .slice A185 x178.Args.length c186, .slice A188 x178.Cases.length c189]) rfl ?_
        refine StD.next hcl198 (fun h => by cases h) ?_
        refine StD.done (by kernel_rfl) ?_
        obtain rfl := sI hm
        intro a w ha hs
        exact ⟨b194, b196, A159, c160, A162, c163, A185, c186, A188, c189, h161, h164, h187, h190, ha.covers ⟨rfl, rfl, rfl, rfl, rfl, rfl, trivial⟩, (Among.of (Among.take 1 rfl rfl (Among.take 0 rfl rfl Among.none)) _ hs)⟩
       intro hcl199
       refine St.alloc tz40 trivial rfl ?_
       intro b200
       refine StD.next hcl199 (fun _ => (Among.of Among.none)) ?_
       refine StD.only (i := 16) rfl (by kernel_rfl) (listed' := #[true, true, true, true, true, true, true, true, true, true, true, true, true, true, true, true, true, true, false, false]) rfl ?_
       intro hcl201
       refine St.alloc tz40 trivial rfl ?_
       intro b202
       refine StD.next hcl201 (fun _ => (Among.of Among.none)) ?_
       refine StD.only (i := 18) rfl (by kernel_rfl) (listed' := #[true, true, true, true, true, true, true, true, true, true, true, true, true, true, true, true, true, true, true, false]) rfl ?_
       intro hcl203
       refine St.storen (R := [blk b200 (.cells #[.int .i64 0, .int .i64 0, .int .i64 0, .int .i64 0, .string (bs []), .slice none 0 0, .slice none 0 0] 40 (0, 0))]) rfl rfl 0 rfl rfl ta40 rfl rfl rfl trivial (cs' := #[.int .i64 x152.Op, .int .i64 x152.A, .int .i64 x152.B, .int .i64 x152.N, .string (bs x152.Name), .slice A159 x152.Args.length c160, .slice A162 x152.Cases.length c163]) rfl ?_
       refine StD.next hcl203 (fun _ => (Among.of Among.none)) ?_
       refine StD.only (i := 19) rfl (by kernel_rfl) (listed' := #[true, true, true, true, true, true, true, true, true, true, true, true, true, true, true, true, true, true, true, true]) rfl ?_
       intro hcl204
       refine St.storen (R := [blk b202 (.cells #[.int .i64 x152.Op, .int .i64 x152.A, .int .i64 x152.B, .int .i64 x152.N, .string (bs x152.Name), .slice A159 x152.Args.length c160, .slice A162 x152.Cases.length c163] 40 (0, 0))]) rfl rfl 1 rfl rfl ta40 rfl rfl rfl trivial (cs' := #[.int .i64 x178.Op, .int .i64 x178.A, .int .i64 x178.B, .int .i64 x178.N, .string (bs x178.Name), .slice A185 x178.Args.length c186, .slice A188 x178.Cases.length c189]) rfl ?_
       refine StD.next hcl204 (fun h => by cases h) ?_
       refine StD.done (by kernel_rfl) ?_
       obtain rfl := sI hm
       intro a w ha hs
       exact ⟨b202, b200, A159, c160, A162, c163, A185, c186, A188, c189, h161, h164, h187, h190, ha.covers ⟨rfl, rfl, rfl, rfl, rfl, rfl, trivial⟩, (Among.of (Among.take 1 rfl rfl (Among.take 0 rfl rfl Among.none)) _ hs)⟩
      rintro a w ⟨b138, b139, A123, c124, A127, c128, A131, c132, A135, c136, h125, h129, h133, h137, ha, hs⟩
      replace hm := hk140
      refine St.use (?_ : St _ _ _ _ _ _) ha hs
      clear ha hs a w
      refine St.seq ?_
      obtain ⟨z205, hm, hk208⟩ := bS hm
      refine St.cutI (fun a w => ∃ (F206 : PH), PH.le F102 F206 ∧ Has Tryz.f6.ntmps a [(0, .slice pA0 a0.length pc0), (1, .slice pA1 a1.length pc1), (5, .int .i64 ((s12 : Nat) : Int)), (6, .int .i64 ((s98 : Nat) : Int)), (7, .pointer (some ⟨b138, 0, none⟩)), (8, .pointer (some ⟨b139, 0, none⟩)), (135, .bool z205)] ∧ Sat ⟨w0, fun b => m0 b ≠ none, F⟩ F206 [blk b138 (.cells #[.int .i64 z121.1, .int .i64 z121.2.1, .int .i64 z121.2.2.1, .int .i64 z121.2.2.2.1, .string (bs z121.2.2.2.2.1), .slice A123 z121.2.2.2.2.2.1.length c124, .slice A127 z121.2.2.2.2.2.2.1.length c128] 40 (0, 0)), blk b139 (.cells #[.int .i64 z121.2.2.2.2.2.2.2.1, .int .i64 z121.2.2.2.2.2.2.2.2.1, .int .i64 z121.2.2.2.2.2.2.2.2.2.1, .int .i64 z121.2.2.2.2.2.2.2.2.2.2.1, .string (bs z121.2.2.2.2.2.2.2.2.2.2.2.1), .slice A131 z121.2.2.2.2.2.2.2.2.2.2.2.2.1.length c132, .slice A135 z121.2.2.2.2.2.2.2.2.2.2.2.2.2.length c136] 40 (0, 0))] w) ?_ ?_
      ·skip
       refine St.region ?_
       refine sfa (v := (.pointer (some ⟨b138, 0, none⟩))) rfl (fun _ => by kernel_rfl) rfl ?_
       refine sv (v := (.int .i64 z121.1)) (Yields.load rfl (Loads.H1 0 rfl tc3 rfl)) rfl ?_
       refine sfa (v := (.pointer (some ⟨b139, 0, none⟩))) rfl (fun _ => by kernel_rfl) rfl ?_
       refine sv (v := (.int .i64 z121.2.2.2.2.2.2.2.1)) (Yields.load rfl (Loads.H1 1 rfl tc3 rfl)) rfl ?_
       by_cases q209 : z121.1 = z121.2.2.2.2.2.2.2.1
       ·replace hm := iT hm q209
        refine sv (v := vF) (Yields.nis q209 (Yields.ne rfl rfl)) rfl ?_
        refine smv rfl rfl ?_
        refine St.val (v := (.pointer (some ⟨b138, 1, none⟩))) (Yields.fieldAddr (v := (.pointer (some ⟨b138, 1, none⟩))) rfl (fun _ => by kernel_rfl)) rfl rfl rfl ?_
        refine St.val (v := (.int .i64 z121.2.1)) (Yields.load rfl (Loads.H1 0 rfl tc3 rfl)) rfl rfl rfl ?_
        refine St.val (v := (.pointer (some ⟨b139, 1, none⟩))) (Yields.fieldAddr (v := (.pointer (some ⟨b139, 1, none⟩))) rfl (fun _ => by kernel_rfl)) rfl rfl rfl ?_
        refine St.val (v := (.int .i64 z121.2.2.2.2.2.2.2.2.1)) (Yields.load rfl (Loads.H1 1 rfl tc3 rfl)) rfl rfl rfl ?_
        by_cases q210 : z121.2.1 = z121.2.2.2.2.2.2.2.2.1
        ·replace hm := iT hm q210
         refine St.val (v := vF) (Yields.nis q210 (Yields.ne rfl rfl)) rfl rfl rfl ?_
         refine spf rfl rfl rfl ?_
         refine smv rfl rfl ?_
         refine St.val (v := (.pointer (some ⟨b138, 2, none⟩))) (Yields.fieldAddr (v := (.pointer (some ⟨b138, 2, none⟩))) rfl (fun _ => by kernel_rfl)) rfl rfl rfl ?_
         refine St.val (v := (.int .i64 z121.2.2.1)) (Yields.load rfl (Loads.H1 0 rfl tc3 rfl)) rfl rfl rfl ?_
         refine St.val (v := (.pointer (some ⟨b139, 2, none⟩))) (Yields.fieldAddr (v := (.pointer (some ⟨b139, 2, none⟩))) rfl (fun _ => by kernel_rfl)) rfl rfl rfl ?_
         refine St.val (v := (.int .i64 z121.2.2.2.2.2.2.2.2.2.1)) (Yields.load rfl (Loads.H1 1 rfl tc3 rfl)) rfl rfl rfl ?_
         by_cases q211 : z121.2.2.1 = z121.2.2.2.2.2.2.2.2.2.1
         ·replace hm := iT hm q211
          refine St.val (v := vF) (Yields.nis q211 (Yields.ne rfl rfl)) rfl rfl rfl ?_
          refine spf rfl rfl rfl ?_
          refine smv rfl rfl ?_
          refine St.val (v := (.pointer (some ⟨b138, 3, none⟩))) (Yields.fieldAddr (v := (.pointer (some ⟨b138, 3, none⟩))) rfl (fun _ => by kernel_rfl)) rfl rfl rfl ?_
          refine St.val (v := (.int .i64 z121.2.2.2.1)) (Yields.load rfl (Loads.H1 0 rfl tc3 rfl)) rfl rfl rfl ?_
          refine St.val (v := (.pointer (some ⟨b139, 3, none⟩))) (Yields.fieldAddr (v := (.pointer (some ⟨b139, 3, none⟩))) rfl (fun _ => by kernel_rfl)) rfl rfl rfl ?_
          refine St.val (v := (.int .i64 z121.2.2.2.2.2.2.2.2.2.2.1)) (Yields.load rfl (Loads.H1 1 rfl tc3 rfl)) rfl rfl rfl ?_
          by_cases q212 : z121.2.2.2.1 = z121.2.2.2.2.2.2.2.2.2.2.1
          ·replace hm := iT hm q212
           refine St.val (v := vF) (Yields.nis q212 (Yields.ne rfl rfl)) rfl rfl rfl ?_
           refine spf rfl rfl rfl ?_
           refine smv rfl rfl ?_
           refine St.val (v := (.pointer (some ⟨b138, 4, none⟩))) (Yields.fieldAddr (v := (.pointer (some ⟨b138, 4, none⟩))) rfl (fun _ => by kernel_rfl)) rfl rfl rfl ?_
           refine St.val (v := (.string (bs z121.2.2.2.2.1))) (Yields.load rfl (Loads.H1 0 rfl tc9 rfl)) rfl rfl rfl ?_
           refine St.val (v := (.pointer (some ⟨b139, 4, none⟩))) (Yields.fieldAddr (v := (.pointer (some ⟨b139, 4, none⟩))) rfl (fun _ => by kernel_rfl)) rfl rfl rfl ?_
           refine St.val (v := (.string (bs z121.2.2.2.2.2.2.2.2.2.2.2.1))) (Yields.load rfl (Loads.H1 1 rfl tc9 rfl)) rfl rfl rfl ?_
           by_cases q213 : z121.2.2.2.2.1 = z121.2.2.2.2.2.2.2.2.2.2.2.1
           ·replace hm := iT hm q213
            refine St.val (v := vF) (Yields.nis q213 (Yields.neStr rfl rfl)) rfl rfl rfl ?_
            refine spf rfl rfl rfl ?_
            refine smv rfl rfl ?_
            refine St.val (v := (.pointer (some ⟨b138, 5, none⟩))) (Yields.fieldAddr (v := (.pointer (some ⟨b138, 5, none⟩))) rfl (fun _ => by kernel_rfl)) rfl rfl rfl ?_
            refine St.val (v := (.slice A123 z121.2.2.2.2.2.1.length c124)) (Yields.load rfl (Loads.H1 0 rfl tc37 rfl)) rfl rfl rfl ?_
            refine St.val (v := (.pointer (some ⟨b139, 5, none⟩))) (Yields.fieldAddr (v := (.pointer (some ⟨b139, 5, none⟩))) rfl (fun _ => by kernel_rfl)) rfl rfl rfl ?_
            refine St.val (v := (.slice A131 z121.2.2.2.2.2.2.2.2.2.2.2.2.1.length c132)) (Yields.load rfl (Loads.H1 1 rfl tc37 rfl)) rfl rfl rfl ?_
            obtain ⟨q214, e215, hm⟩ := bS hm
            refine St.call [blk b138 (.cells #[.int .i64 z121.1, .int .i64 z121.2.1, .int .i64 z121.2.2.1, .int .i64 z121.2.2.2.1, .string (bs z121.2.2.2.2.1), .slice A123 z121.2.2.2.2.2.1.length c124, .slice A127 z121.2.2.2.2.2.2.1.length c128] 40 (0, 0)), blk b139 (.cells #[.int .i64 z121.2.2.2.2.2.2.2.1, .int .i64 z121.2.2.2.2.2.2.2.2.1, .int .i64 z121.2.2.2.2.2.2.2.2.2.1, .int .i64 z121.2.2.2.2.2.2.2.2.2.2.1, .string (bs z121.2.2.2.2.2.2.2.2.2.2.2.1), .slice A131 z121.2.2.2.2.2.2.2.2.2.2.2.2.1.length c132, .slice A135 z121.2.2.2.2.2.2.2.2.2.2.2.2.2.length c136] 40 (0, 0))] (m_ref01_SameInts_sp h125 h133 e215) rfl (fun _ ha => ev2 ha rfl rfl) rfl en20 rfl rfl rfl ?_
            rintro _ F216 _ ⟨rfl, rfl⟩ l217
            by_cases q218 : q214 = true
            ·replace hm := iT hm q218
             have hb219 : (q214) = true := q218
             try rw [hb219]
             refine St.val (v := vF) (Yields.not_t rfl) rfl rfl rfl ?_
             refine spf rfl rfl rfl ?_
             refine smv rfl rfl ?_
             refine St.val (v := (.pointer (some ⟨b138, 6, none⟩))) (Yields.fieldAddr (v := (.pointer (some ⟨b138, 6, none⟩))) rfl (fun _ => by kernel_rfl)) rfl rfl rfl ?_
             refine St.val (v := (.slice A127 z121.2.2.2.2.2.2.1.length c128)) (Yields.load rfl (Loads.H1 0 rfl tc38 rfl)) rfl rfl rfl ?_
             refine St.val (v := (.int .i64 ((z121.2.2.2.2.2.2.1.length : Nat) : Int))) (Yields.lenSlice tu38 rfl) rfl rfl rfl ?_
             refine St.val (v := (.pointer (some ⟨b139, 6, none⟩))) (Yields.fieldAddr (v := (.pointer (some ⟨b139, 6, none⟩))) rfl (fun _ => by kernel_rfl)) rfl rfl rfl ?_
             refine St.val (v := (.slice A135 z121.2.2.2.2.2.2.2.2.2.2.2.2.2.length c136)) (Yields.load rfl (Loads.H1 1 rfl tc38 rfl)) rfl rfl rfl ?_
             refine St.val (v := (.int .i64 ((z121.2.2.2.2.2.2.2.2.2.2.2.2.2.length : Nat) : Int))) (Yields.lenSlice tu38 rfl) rfl rfl rfl ?_
             refine St.val (v := (.bool (!decide (((z121.2.2.2.2.2.2.1.length : Nat) : Int) = ((z121.2.2.2.2.2.2.2.2.2.2.2.2.2.length : Nat) : Int))))) (Yields.ne rfl rfl) rfl rfl rfl ?_
             refine spf rfl rfl rfl ?_
             refine St.nil ?_
             obtain rfl := sI hm
             intro a w ha hs
             exact ⟨F216, l217, ha.covers ⟨rfl, rfl, rfl, rfl, rfl, rfl, rfl, trivial⟩, (Among.of (Among.take 0 rfl rfl (Among.take 0 rfl rfl Among.none)) _ hs)⟩
            replace hm := iF hm q218
            have hb220 : (q214) = false := eq_false_of_ne_true q218
            try rw [hb220]
            refine St.val (v := vT) (Yields.not_f rfl) rfl rfl rfl ?_
            refine spf rfl rfl rfl ?_
            refine smv rfl rfl ?_
            refine su rfl rfl rfl ?_
            refine su rfl rfl rfl ?_
            refine su rfl rfl rfl ?_
            refine su rfl rfl rfl ?_
            refine su rfl rfl rfl ?_
            refine su rfl rfl rfl ?_
            refine su rfl rfl rfl ?_
            refine spt rfl rfl rfl ?_
            refine St.nil ?_
            obtain rfl := sI hm
            intro a w ha hs
            exact ⟨F216, l217, ha.covers ⟨rfl, rfl, rfl, rfl, rfl, rfl, rfl, trivial⟩, (Among.of (Among.take 0 rfl rfl (Among.take 0 rfl rfl Among.none)) _ hs)⟩
           replace hm := iF hm q213
           refine St.val (v := vT) (Yields.nisnt q213 (Yields.neStr rfl rfl)) rfl rfl rfl ?_
           refine spf rfl rfl rfl ?_
           refine smv rfl rfl ?_
           refine su rfl rfl rfl ?_
           refine su rfl rfl rfl ?_
           refine su rfl rfl rfl ?_
           refine su rfl rfl rfl ?_
           refine su rfl rfl rfl ?_
           refine su rfl rfl rfl ?_
           refine spt rfl rfl rfl ?_
           refine smv rfl rfl ?_
           refine su rfl rfl rfl ?_
           refine su rfl rfl rfl ?_
           refine su rfl rfl rfl ?_
           refine su rfl rfl rfl ?_
           refine su rfl rfl rfl ?_
           refine su rfl rfl rfl ?_
           refine su rfl rfl rfl ?_
           refine spt rfl rfl rfl ?_
           refine St.nil ?_
           obtain rfl := sI hm
           intro a w ha hs
           exact ⟨F102, (PH.le_refl _), ha.covers ⟨rfl, rfl, rfl, rfl, rfl, rfl, rfl, trivial⟩, (Among.of (Among.take 0 rfl rfl (Among.take 0 rfl rfl Among.none)) _ hs)⟩
          replace hm := iF hm q212
          refine St.val (v := vT) (Yields.nisnt q212 (Yields.ne rfl rfl)) rfl rfl rfl ?_
          refine spf rfl rfl rfl ?_
          refine smv rfl rfl ?_
          refine su rfl rfl rfl ?_
          refine su rfl rfl rfl ?_
          refine su rfl rfl rfl ?_
          refine su rfl rfl rfl ?_
          refine su rfl rfl rfl ?_
          refine spt rfl rfl rfl ?_
          refine smv rfl rfl ?_
          refine su rfl rfl rfl ?_
          refine su rfl rfl rfl ?_
          refine su rfl rfl rfl ?_
          refine su rfl rfl rfl ?_
          refine su rfl rfl rfl ?_
          refine su rfl rfl rfl ?_
          refine spt rfl rfl rfl ?_
          refine smv rfl rfl ?_
          refine su rfl rfl rfl ?_
          refine su rfl rfl rfl ?_
          refine su rfl rfl rfl ?_
          refine su rfl rfl rfl ?_
          refine su rfl rfl rfl ?_
          refine su rfl rfl rfl ?_
          refine su rfl rfl rfl ?_
          refine spt rfl rfl rfl ?_
          refine St.nil ?_
          obtain rfl := sI hm
          intro a w ha hs
          exact ⟨F102, (PH.le_refl _), ha.covers ⟨rfl, rfl, rfl, rfl, rfl, rfl, rfl, trivial⟩, (Among.of (Among.take 0 rfl rfl (Among.take 0 rfl rfl Among.none)) _ hs)⟩
         replace hm := iF hm q211
         refine St.val (v := vT) (Yields.nisnt q211 (Yields.ne rfl rfl)) rfl rfl rfl ?_
         refine spf rfl rfl rfl ?_
         refine smv rfl rfl ?_
         refine su rfl rfl rfl ?_
         refine su rfl rfl rfl ?_
         refine su rfl rfl rfl ?_
         refine su rfl rfl rfl ?_
         refine su rfl rfl rfl ?_
         refine spt rfl rfl rfl ?_
         refine smv rfl rfl ?_
         refine su rfl rfl rfl ?_
         refine su rfl rfl rfl ?_
         refine su rfl rfl rfl ?_
         refine su rfl rfl rfl ?_
         refine su rfl rfl rfl ?_
         refine spt rfl rfl rfl ?_
         refine smv rfl rfl ?_
         refine su rfl rfl rfl ?_
         refine su rfl rfl rfl ?_
         refine su rfl rfl rfl ?_
         refine su rfl rfl rfl ?_
         refine su rfl rfl rfl ?_
         refine su rfl rfl rfl ?_
         refine spt rfl rfl rfl ?_
         refine smv rfl rfl ?_
         refine su rfl rfl rfl ?_
         refine su rfl rfl rfl ?_
         refine su rfl rfl rfl ?_
         refine su rfl rfl rfl ?_
         refine su rfl rfl rfl ?_
         refine su rfl rfl rfl ?_
         refine su rfl rfl rfl ?_
         refine spt rfl rfl rfl ?_
         refine St.nil ?_
         obtain rfl := sI hm
         intro a w ha hs
         exact ⟨F102, (PH.le_refl _), ha.covers ⟨rfl, rfl, rfl, rfl, rfl, rfl, rfl, trivial⟩, (Among.of (Among.take 0 rfl rfl (Among.take 0 rfl rfl Among.none)) _ hs)⟩
        replace hm := iF hm q210
        refine St.val (v := vT) (Yields.nisnt q210 (Yields.ne rfl rfl)) rfl rfl rfl ?_
        refine spf rfl rfl rfl ?_
        refine smv rfl rfl ?_
        refine su rfl rfl rfl ?_
        refine su rfl rfl rfl ?_
        refine su rfl rfl rfl ?_
        refine su rfl rfl rfl ?_
        refine su rfl rfl rfl ?_
        refine spt rfl rfl rfl ?_
        refine smv rfl rfl ?_
        refine su rfl rfl rfl ?_
        refine su rfl rfl rfl ?_
        refine su rfl rfl rfl ?_
        refine su rfl rfl rfl ?_
        refine su rfl rfl rfl ?_
        refine spt rfl rfl rfl ?_
        refine smv rfl rfl ?_
        refine su rfl rfl rfl ?_
        refine su rfl rfl rfl ?_
        refine su rfl rfl rfl ?_
        refine su rfl rfl rfl ?_
        refine su rfl rfl rfl ?_
        refine spt rfl rfl rfl ?_
        refine smv rfl rfl ?_
        refine su rfl rfl rfl ?_
        refine su rfl rfl rfl ?_
        refine su rfl rfl rfl ?_
        refine su rfl rfl rfl ?_
        refine su rfl rfl rfl ?_
        refine su rfl rfl rfl ?_
        refine spt rfl rfl rfl ?_
        refine smv rfl rfl ?_
        refine su rfl rfl rfl ?_
        refine su rfl rfl rfl ?_
        refine su rfl rfl rfl ?_
        refine su rfl rfl rfl ?_
        refine su rfl rfl rfl ?_
        refine su rfl rfl rfl ?_
        refine su rfl rfl rfl ?_
        refine spt rfl rfl rfl ?_
        refine St.nil ?_
        obtain rfl := sI hm
        intro a w ha hs
        exact ⟨F102, (PH.le_refl _), ha.covers ⟨rfl, rfl, rfl, rfl, rfl, rfl, rfl, trivial⟩, (Among.of (Among.take 0 rfl rfl (Among.take 0 rfl rfl Among.none)) _ hs)⟩
       replace hm := iF hm q209
       refine sv (v := vT) (Yields.nisnt q209 (Yields.ne rfl rfl)) rfl ?_
       refine smv rfl rfl ?_
       refine su rfl rfl rfl ?_
       refine su rfl rfl rfl ?_
       refine su rfl rfl rfl ?_
       refine su rfl rfl rfl ?_
       refine su rfl rfl rfl ?_
       refine spt rfl rfl rfl ?_
       refine smv rfl rfl ?_
       refine su rfl rfl rfl ?_
       refine su rfl rfl rfl ?_
       refine su rfl rfl rfl ?_
       refine su rfl rfl rfl ?_
       refine su rfl rfl rfl ?_
       refine spt rfl rfl rfl ?_
       refine smv rfl rfl ?_
       refine su rfl rfl rfl ?_
       refine su rfl rfl rfl ?_
       refine su rfl rfl rfl ?_
       refine su rfl rfl rfl ?_
       refine su rfl rfl rfl ?_
       refine spt rfl rfl rfl ?_
       refine smv rfl rfl ?_
       refine su rfl rfl rfl ?_
       refine su rfl rfl rfl ?_
       refine su rfl rfl rfl ?_
       refine su rfl rfl rfl ?_
       refine su rfl rfl rfl ?_
       refine spt rfl rfl rfl ?_
       refine smv rfl rfl ?_
       refine su rfl rfl rfl ?_
       refine su rfl rfl rfl ?_
       refine su rfl rfl rfl ?_
       refine su rfl rfl rfl ?_
       refine su rfl rfl rfl ?_
       refine su rfl rfl rfl ?_
       refine spt rfl rfl rfl ?_
       refine smv rfl rfl ?_
       refine su rfl rfl rfl ?_
       refine su rfl rfl rfl ?_
       refine su rfl rfl rfl ?_
       refine su rfl rfl rfl ?_
       refine su rfl rfl rfl ?_
       refine su rfl rfl rfl ?_
       refine su rfl rfl rfl ?_
       refine spt rfl rfl rfl ?_
       refine St.nil ?_
       obtain rfl := sI hm
       intro a w ha hs
       exact ⟨F102, (PH.le_refl _), ha.covers ⟨rfl, rfl, rfl, rfl, rfl, rfl, rfl, trivial⟩, (Among.of (Among.take 0 rfl rfl (Among.take 0 rfl rfl Among.none)) _ hs)⟩
      rintro a w ⟨F206, l207, ha, hs⟩
      replace hm := hk208
      refine St.use (?_ : St _ _ _ _ _ _) ha hs
      clear ha hs a w
      refine St.cond_b rfl ?_ ?_
      ·intro q221
       replace q221 : z205 = true := q221
       replace hm := iT hm q221
       refine ssr ?_
       refine sas rfl rfl ?_
       refine snn ?_
       refine St.ret ?_
       refine St.thenret ?_
       refine St.inret ?_
       refine St.thenret ?_
       refine St.thenret ?_
       refine St.inret ?_
       refine St.inret ?_
       refine St.thenret ?_
       refine St.thenret ?_
       refine St.inret ?_
       refine St.thenret ?_
       obtain rfl := sI hm
       obtain rfl := aR ho120
       obtain rfl := aR ho101
       obtain rfl := aR ho23
       obtain rfl := aR ho15
       obtain rfl := aR ho9
       exact St.doneR1 rfl rfl ⟨rfl, rfl⟩ (fun w hs => Among.of Among.none w hs)
      intro q222
      replace q222 : ¬ (z205 = true) := bf q222
      replace hm := iF hm q222
      refine skn ?_
      refine ssr ?_
      refine sas rfl rfl ?_
      refine snn ?_
      refine St.block ?_
      refine St.loopM hm (fun s224 a w => Has Tryz.f6.ntmps a [(0, .slice pA0 a0.length pc0), (1, .slice pA1 a1.length pc1), (5, .int .i64 ((s12 : Nat) : Int)), (6, .int .i64 ((s98 : Nat) : Int)), (7, .pointer (some ⟨b138, 0, none⟩)), (8, .pointer (some ⟨b139, 0, none⟩)), (9, .int .i64 ((s224 : Nat) : Int))] ∧ Sat ⟨w0, fun b => m0 b ≠ none, F⟩ F206 [blk b138 (.cells #[.int .i64 z121.1, .int .i64 z121.2.1, .int .i64 z121.2.2.1, .int .i64 z121.2.2.2.1, .string (bs z121.2.2.2.2.1), .slice A123 z121.2.2.2.2.2.1.length c124, .slice A127 z121.2.2.2.2.2.2.1.length c128] 40 (0, 0)), blk b139 (.cells #[.int .i64 z121.2.2.2.2.2.2.2.1, .int .i64 z121.2.2.2.2.2.2.2.2.1, .int .i64 z121.2.2.2.2.2.2.2.2.2.1, .int .i64 z121.2.2.2.2.2.2.2.2.2.2.1, .string (bs z121.2.2.2.2.2.2.2.2.2.2.2.1), .slice A131 z121.2.2.2.2.2.2.2.2.2.2.2.2.1.length c132, .slice A135 z121.2.2.2.2.2.2.2.2.2.2.2.2.2.length c136] 40 (0, 0))] w) ?_ ?_
      ·skip
       intro a w ha hs
       exact ⟨ha.covers ⟨rfl, rfl, rfl, rfl, rfl, rfl, rfl, trivial⟩, (Among.of (Among.take 0 rfl rfl (Among.take 0 rfl rfl Among.none)) _ hs)⟩
      rintro s224 o225 co226 hm ho227 a w ⟨ha, hs⟩
      refine St.use (?_ : St _ _ _ _ _ _) ha hs
      clear ha hs a w
      refine St.seq ?_
      refine ssr ?_
      refine smv rfl rfl ?_
      refine sfa (v := (.pointer (some ⟨b138, 6, none⟩))) rfl (fun _ => by kernel_rfl) rfl ?_
      refine sv (v := (.slice A127 z121.2.2.2.2.2.2.1.length c128)) (Yields.load rfl (Loads.H1 0 rfl tc38 rfl)) rfl ?_
      refine sv (v := (.int .i64 ((z121.2.2.2.2.2.2.1.length : Nat) : Int))) (Yields.lenSlice tu38 rfl) rfl ?_
      refine sv (v := (.bool (decide (((s224 : Nat) : Int) < ((z121.2.2.2.2.2.2.1.length : Nat) : Int))))) (Yields.lt rfl rfl) rfl ?_
      refine snn ?_
      refine St.cond_b rfl ?_ ?_
      ·intro q228
       replace q228 : ((s224 : Nat) : Int) < ((z121.2.2.2.2.2.2.1.length : Nat) : Int) := of_decide_eq_true q228
       replace hm := iT hm q228
       refine skn ?_
       refine St.seq ?_
       refine St.block ?_
       refine St.seq ?_
       refine StD.start [] [blk b138 (.cells #[.int .i64 z121.1, .int .i64 z121.2.1, .int .i64 z121.2.2.1, .int .i64 z121.2.2.2.1, .string (bs z121.2.2.2.2.1), .slice A123 z121.2.2.2.2.2.1.length c124, .slice A127 z121.2.2.2.2.2.2.1.length c128] 40 (0, 0)), blk b139 (.cells #[.int .i64 z121.2.2.2.2.2.2.2.1, .int .i64 z121.2.2.2.2.2.2.2.2.1, .int .i64 z121.2.2.2.2.2.2.2.2.2.1, .int .i64 z121.2.2.2.2.2.2.2.2.2.2.1, .string (bs z121.2.2.2.2.2.2.2.2.2.2.2.1), .slice A131 z121.2.2.2.2.2.2.2.2.2.2.2.2.1.length c132, .slice A135 z121.2.2.2.2.2.2.2.2.2.2.2.2.2.length c136] 40 (0, 0))] hmix ?_
       refine sdp 0 (v := (.pointer (some ⟨b138, 6, none⟩))) (listed' := #[true, false, false, false, false, false, false, false, false, false, false]) rfl (fun _ => Yields.fieldAddr (v := (.pointer (some ⟨b138, 6, none⟩))) rfl (fun _ => by kernel_rfl)) rfl (by kernel_rfl) rfl ?_
       refine sdt [0, 2, 3, 5, 7, 8, 10] 1 (v := (.slice A127 z121.2.2.2.2.2.2.1.length c128)) (listed' := #[true, true, false, false, false, false, false, false, false, false, false]) rfl (Yields.load rfl (Loads.H1 0 rfl tc38 rfl)) rfl Among.refl (by kernel_rfl) rfl ?_
       refine sdp 2 (v := (.int .i64 ((s224 : Nat) : Int))) (listed' := #[true, true, true, false, false, false, false, false, false, false, false]) rfl (fun _ => Yields.move rfl) rfl (by kernel_rfl) rfl ?_
       obtain ⟨x229, e230, hm⟩ := bS hm
       obtain ⟨p231, cs232, jx233, R234, k235⟩ := (Fsl.mono l207 h129).nidx e230
       obtain rfl := DJump.opn R234
       refine sdp 3 (v := (.pointer (some p231))) (listed' := #[true, true, true, true, false, false, false, false, false, false, false]) rfl (fun _ => Yields.idx jx233 ts38 rfl rfl) rfl (by kernel_rfl) rfl ?_
       refine sdt [0, 2, 3, 5, 7, 8, 10] 4 (v := (.agg #[.string (bs x229.Name), .int .i64 x229.N, .int .i64 x229.To])) (listed' := #[true, true, true, true, true, false, false, false, false, false, false]) rfl (Yields.load rfl (Loads.Fatn0 k235 ta49)) rfl Among.refl (by kernel_rfl) rfl ?_
       refine sdp 5 (v := (.pointer (some ⟨b139, 6, none⟩))) (listed' := #[true, true, true, true, true, true, false, false, false, false, false]) rfl (fun _ => Yields.fieldAddr (v := (.pointer (some ⟨b139, 6, none⟩))) rfl (fun _ => by kernel_rfl)) rfl (by kernel_rfl) rfl ?_
       refine sdt [0, 2, 3, 5, 7, 8, 10] 6 (v := (.slice A135 z121.2.2.2.2.2.2.2.2.2.2.2.2.2.length c136)) (listed' := #[true, true, true, true, true, true, true, false, false, false, false]) rfl (Yields.load rfl (Loads.H1 1 rfl tc38 rfl)) rfl Among.refl (by kernel_rfl) rfl ?_
       refine sdp 7 (v := (.int .i64 ((s224 : Nat) : Int))) (listed' := #[true, true, true, true, true, true, true, true, false, false, false]) rfl (fun _ => Yields.move rfl) rfl (by kernel_rfl) rfl ?_
       obtain ⟨x236, e237, hm⟩ := bS hm
       obtain ⟨p238, cs239, jx240, R241, k242⟩ := (Fsl.mono l207 h137).nidx e237
       obtain rfl := DJump.opn R241
       refine sdp 8 (v := (.pointer (some p238))) (listed' := #[true, true, true, true, true, true, true, true, true, false, false]) rfl (fun _ => Yields.idx jx240 ts38 rfl rfl) rfl (by kernel_rfl) rfl ?_
       refine sdt [0, 2, 3, 5, 7, 8, 10] 9 (v := (.agg #[.string (bs x236.Name), .int .i64 x236.N, .int .i64 x236.To])) (listed' := #[true, true, true, true, true, true, true, true, true, true, false]) rfl (Yields.load rfl (Loads.Fatn0 k242 ta49)) rfl Among.refl (by kernel_rfl) rfl ?_
       refine sdp 10 (v := (.bool (!decide (x229.Name = x236.Name ∧ x229.N = x236.N ∧ x229.To = x236.To)))) (listed' := #[true, true, true, true, true, true, true, true, true, true, true]) rfl (fun _ => neAgg49 rfl rfl) rfl (by kernel_rfl) rfl ?_
       refine StD.done (by kernel_rfl) ?_
       refine St.norm ?_
       refine St.cond_b rfl ?_ ?_
       ·intro q243
        replace q243 : ¬ (x229.Name = x236.Name ∧ x229.N = x236.N ∧ x229.To = x236.To) := nd_t q243
        replace hm := iF hm q243
        refine ssr ?_
        refine sas rfl rfl ?_
        refine snn ?_
        refine St.ret ?_
        refine St.inret ?_
        refine St.thenret ?_
        refine St.thenret ?_
        refine St.inret ?_
        refine St.inret ?_
        refine St.thenret ?_
        refine St.thenret ?_
        refine St.inret ?_
        refine St.inret ?_
        refine St.thenret ?_
        refine St.thenret ?_
        refine St.inret ?_
        refine St.thenret ?_
        obtain rfl := sI hm
        obtain rfl := aR ho227
        obtain rfl := aR ho120
        obtain rfl := aR ho101
        obtain rfl := aR ho23
        obtain rfl := aR ho15
        obtain rfl := aR ho9
        exact St.doneR1 rfl rfl ⟨rfl, rfl⟩ (fun w hs => Among.of Among.none w hs)
       intro q244
       replace q244 : x229.Name = x236.Name ∧ x229.N = x236.N ∧ x229.To = x236.To := nd_f q244
       replace hm := iT hm q244
       refine St.skip ?_
       refine St.innorm ?_
       refine St.norm ?_
       refine St.region ?_
       refine smv rfl rfl ?_
       refine sv (v := (.int .i64 ((s224 + 1 : Nat) : Int))) (Yields.addn (j := 1) rfl rfl rfl (by have q_0 := q228; have q_1 := h129.bnd.2; omega)) rfl ?_
       refine sas rfl rfl ?_
       refine snn ?_
       obtain rfl := sI hm
       intro a w ha hs
       exact ⟨s224 + 1, aL ho227, ha.covers ⟨rfl, rfl, rfl, rfl, rfl, rfl, rfl, trivial⟩, (Among.of (Among.take 0 rfl rfl (Among.take 0 rfl rfl Among.none)) _ hs)⟩
      intro q245
      replace q245 : ¬ (((s224 : Nat) : Int) < ((z121.2.2.2.2.2.2.1.length : Nat) : Int)) := of_decide_eq_false q245
      replace hm := iF hm q245
      refine St.exit ?_
      refine St.thenexit ?_
      refine St.thenexit ?_
      refine St.inexit ?_
      refine St.innorm ?_
      obtain rfl := sI hm
      obtain rfl := aR ho227
      intro a w ha hs
      exact ⟨(), rfl, F206, l207, ha.covers ⟨rfl, rfl, rfl, rfl, trivial⟩, (Among.of Among.none _ hs)⟩
     rintro a w ⟨z116, rfl, F117, l118, ha, hs⟩
     replace hm := aL ho120
     refine St.use (?_ : St _ _ _ _ _ _) ha hs
     clear ha hs a w
     refine St.region ?_
     refine smv rfl rfl ?_
     refine sv (v := (.int .i64 ((s98 + 1 : Nat) : Int))) (Yields.addn (j := 1) rfl rfl rfl (by have q_0 := q115; have q_1 := h113.bnd.2; omega)) rfl ?_
     refine sas rfl rfl ?_
     refine snn ?_
     obtain rfl := sI hm
     intro a w ha hs
     exact ⟨s98 + 1, aL ho101, F117, (PH.le_trans l103 l118), ha.covers ⟨rfl, rfl, rfl, rfl, trivial⟩, (Among.of Among.none _ hs)⟩
    intro q246
    replace q246 : ¬ (((s98 : Nat) : Int) < ((x104.L.length : Nat) : Int)) := of_decide_eq_false q246
    replace hm := iF hm q246
    refine St.exit ?_
    refine St.thenexit ?_
    refine St.thenexit ?_
    refine St.inexit ?_
    refine St.innorm ?_
    obtain rfl := sI hm
    obtain rfl := aR ho101
    intro a w ha hs
    exact ⟨(), rfl, F102, l103, ha.covers ⟨rfl, rfl, rfl, trivial⟩, (Among.of Among.none _ hs)⟩
   rintro a w ⟨z19, rfl, F20, l21, ha, hs⟩
   replace hm := aL ho23
   refine St.use (?_ : St _ _ _ _ _ _) ha hs
   clear ha hs a w
   refine St.region ?_
   refine smv rfl rfl ?_
   refine sv (v := (.int .i64 ((s12 + 1 : Nat) : Int))) (Yields.addn (j := 1) rfl rfl rfl (by have q_0 := q18; have q_1 := ph0.bnd.2; omega)) rfl ?_
   refine sas rfl rfl ?_
   refine snn ?_
   obtain rfl := sI hm
   intro a w ha hs
   exact ⟨s12 + 1, aL ho15, F20, (PH.le_trans l17 l21), ha.covers ⟨rfl, rfl, rfl, trivial⟩, (Among.of Among.none _ hs)⟩
  intro q247
  replace q247 : ¬ (((s12 : Nat) : Int) < ((a0.length : Nat) : Int)) := of_decide_eq_false q247
  replace hm := iF hm q247
  refine St.exit ?_
  refine St.thenexit ?_
  refine St.thenexit ?_
  refine St.inexit ?_
  obtain rfl := sI hm
  obtain rfl := aR ho15
  intro a w ha hs
  exact ⟨(), rfl, F16, l17, ha.covers trivial, (Among.of Among.none _ hs)⟩
 rintro a w ⟨z5, rfl, F6, l7, ha, hs⟩
 replace hm := aL ho9
 refine St.use (?_ : St _ _ _ _ _ _) ha hs
 clear ha hs a w
 refine ssr ?_
 refine sas rfl rfl ?_
 refine snn ?_
 refine St.ret ?_
 obtain rfl := sI hm
 exact St.doneR1 rfl rfl ⟨rfl, rfl⟩ (fun w hs => Among.of Among.none w hs)
theorem m_code_words_sp {F : PH} {g : Nat} {a0 : DInstr} {pA0_0 : Option Addr} {pc0_0 : Nat} {pA0_1 : Option Addr} {pc0_1 : Nat} (ph0_0 : Fsl 8 (Kind.int .i64) F pA0_0 pc0_0 a0.Args) (ph0_1 : Fsl 32 KDJump F pA0_1 pc0_1 a0.Cases) {r : List (List UInt8)} (hm : m_code_words g a0 = some r) :
  CallSp Tryz.prog 43 #[.agg #[.int .i64 a0.Op, .int .i64 a0.A, .int .i64 a0.B, .int .i64 a0.N, .string (bs a0.Name), .slice pA0_0 a0.Args.length pc0_0, .slice pA0_1 a0.Cases.length pc0_1]] F [] (fun u F' H' => ∃ (B0 : Option Addr) (d0 : Nat), u = (.slice B0 r.length d0) ∧ Fsl 16 Kind.str F' B0 d0 r ∧ H' = []) := by

 unfold m_code_words at hm
 refine CallSp.enter (args := [.agg #[.int .i64 a0.Op, .int .i64 a0.A, .int .i64 a0.B, .int .i64 a0.N, .string (bs a0.Name), .slice pA0_0 a0.Args.length pc0_0, .slice pA0_1 a0.Cases.length pc0_1]]) Tryz.func43 rfl rfl ?_
 intro w0 m0 hm0
 refine ssr ?_
 refine St.box rfl trivial rfl ?_
 intro b3
 refine sas rfl rfl ?_
 refine snn ?_
 refine ssr ?_
 refine St.buildSlice (e := 9) (cells := #[]) (vs := #[]) (fun a _ => by simp) (fun _ => by kernel_rfl) rfl trivial ?_
 intro b4
 refine St.weak (R := [blk b3 (.cells #[.int .i64 a0.Op, .int .i64 a0.A, .int .i64 a0.B, .int .i64 a0.N, .string (bs a0.Name), .slice pA0_0 a0.Args.length pc0_0, .slice pA0_1 a0.Cases.length pc0_1] 40 (0, 0))]) (c' := rowo (some ⟨b4, 0, none⟩) ([] : List (List UInt8)).length 0 9 1 []) 0 rfl rfl (fun m hm => rowo_of_row (row_of_blk (k := 0) rfl (by decide) hm)) ?_
 refine sas rfl rfl ?_
 refine snn ?_
 refine St.seq ?_
 refine ssr ?_
 refine sfa (v := (.pointer (some ⟨b3, 0, none⟩))) rfl (fun _ => by kernel_rfl) rfl ?_
 refine sv (v := (.int .i64 a0.Op)) (Yields.load rfl (Loads.H1 1 rfl tc3 rfl)) rfl ?_
 refine snn ?_
 refine St.block ?_
 refine ssr ?_
 refine sv (v := (.bool (decide (a0.Op = 1)))) (Yields.eq rfl rfl) rfl ?_
 refine sas rfl rfl ?_
 refine snn ?_
 refine St.cond_b rfl ?_ ?_
 ·intro q6
  replace q6 : a0.Op = 1 := of_decide_eq_true q6
  replace hm := iT hm q6
  refine St.seq ?_
  refine StD.start [6, 7, 8] [rowo (some ⟨b4, 0, none⟩) ([] : List (List UInt8)).length 0 9 1 [], blk b3 (.cells #[.int .i64 a0.Op, .int .i64 a0.A, .int .i64 a0.B, .int .i64 a0.N, .string (bs a0.Name), .slice pA0_0 a0.Args.length pc0_0, .slice pA0_1 a0.Cases.length pc0_1] 40 (0, 0))] hmix ?_
  refine sdp 0 (v := (.slice (some ⟨b4, 0, none⟩) ([] : List (List UInt8)).length 0)) (listed' := #[true, false, false, false, false, false, false, false, false, false]) rfl (fun _ => Yields.move rfl) rfl (by kernel_rfl) rfl ?_
  refine sdp 1 (v := (.pointer (some ⟨b3, 1, none⟩))) (listed' := #[true, true, false, false, false, false, false, false, false, false]) rfl (fun _ => Yields.fieldAddr (v := (.pointer (some ⟨b3, 1, none⟩))) rfl (fun _ => by kernel_rfl)) rfl (by kernel_rfl) rfl ?_
  refine sdt [0, 1, 4, 9] 2 (v := (.int .i64 a0.A)) (listed' := #[true, true, true, false, false, false, false, false, false, false]) rfl (Yields.load rfl (Loads.H1 1 rfl tc3 rfl)) rfl Among.refl (by kernel_rfl) rfl ?_
  refine sdp 4 (v := (.pointer (some ⟨b3, 2, none⟩))) (listed' := #[true, true, true, false, true, false, false, false, false, false]) rfl (fun _ => Yields.fieldAddr (v := (.pointer (some ⟨b3, 2, none⟩))) rfl (fun _ => by kernel_rfl)) rfl (by kernel_rfl) rfl ?_
  refine sdt [0, 1, 4, 9] 5 (v := (.int .i64 a0.B)) (listed' := #[true, true, true, false, true, true, false, false, false, false]) rfl (Yields.load rfl (Loads.H1 1 rfl tc3 rfl)) rfl Among.refl (by kernel_rfl) rfl ?_
  refine StD.only (i := 3) rfl (by kernel_rfl) (listed' := #[true, true, true, true, true, true, false, false, false, false]) rfl ?_
  intro hcl7
  obtain ⟨q8, e9, hm⟩ := bS hm
  refine St.call [rowo (some ⟨b4, 0, none⟩) ([] : List (List UInt8)).length 0 9 1 [], blk b3 (.cells #[.int .i64 a0.Op, .int .i64 a0.A, .int .i64 a0.B, .int .i64 a0.N, .string (bs a0.Name), .slice pA0_0 a0.Args.length pc0_0, .slice pA0_1 a0.Cases.length pc0_1] 40 (0, 0))] (x_itoa41_sp e9) rfl (fun _ ha => ev1 ha rfl) rfl en41 rfl rfl trivial ?_
  rintro _ F10 _ ⟨rfl, rfl⟩ l11
  refine StD.next hcl7 (fun _ => (Among.of_le l11 (PH.le_refl _) (Among.take 0 rfl rfl (Among.take 0 rfl rfl Among.none)))) ?_
  refine StD.only (i := 6) rfl (by kernel_rfl) (listed' := #[true, true, true, true, true, true, true, false, false, false]) rfl ?_
  intro hcl12
  obtain ⟨q13, e14, hm⟩ := bS hm
  refine St.call [rowo (some ⟨b4, 0, none⟩) ([] : List (List UInt8)).length 0 9 1 [], blk b3 (.cells #[.int .i64 a0.Op, .int .i64 a0.A, .int .i64 a0.B, .int .i64 a0.N, .string (bs a0.Name), .slice pA0_0 a0.Args.length pc0_0, .slice pA0_1 a0.Cases.length pc0_1] 40 (0, 0))] (x_itoa41_sp e14) rfl (fun _ ha => ev1 ha rfl) rfl en41 rfl rfl trivial ?_
  rintro _ F15 _ ⟨rfl, rfl⟩ l16
  refine StD.next hcl12 (fun h => by cases h) ?_
  refine StD.only (i := 7) rfl (by kernel_rfl) (listed' := #[true, true, true, true, true, true, true, true, false, false]) rfl ?_
  intro hcl17
  refine St.buildSlice (e := 9) (cells := #[.string (bs [109, 97, 116, 99, 104]), .string (bs q8), .string (bs q13)]) (vs := #[(0, .string (bs [109, 97, 116, 99, 104])), (1, .string (bs q8)), (2, .string (bs q13))]) (fun _ ha => evp3 ha rfl rfl rfl) (fun _ => by kernel_rfl) rfl trivial ?_
  intro b18
  refine StD.next hcl17 (fun h => by cases h) ?_
  refine StD.only (i := 8) rfl (by kernel_rfl) (listed' := #[true, true, true, true, true, true, true, true, true, false]) rfl ?_
  intro hcl19
  obtain ⟨x24, e25, hm⟩ := bS hm
  refine St.pushL (R := [blk b18 (.cells #[.string (bs [109, 97, 116, 99, 104]), .string (bs q8), .string (bs q13)] 9 (0, 0)), blk b3 (.cells #[.int .i64 a0.Op, .int .i64 a0.A, .int .i64 a0.B, .int .i64 a0.N, .string (bs a0.Name), .slice pA0_0 a0.Args.length pc0_0, .slice pA0_1 a0.Cases.length pc0_1] 40 (0, 0))]) (R3 := [blk b3 (.cells #[.int .i64 a0.Op, .int .i64 a0.A, .int .i64 a0.B, .int .i64 a0.N, .string (bs a0.Name), .slice pA0_0 a0.Args.length pc0_0, .slice pA0_1 a0.Cases.length pc0_1] 40 (0, 0))]) e25 ts29 rfl rfl rfl rfl rfl 1 rfl rfl 0 rfl 0 rfl rfl (Cat.mono (PH.le_trans l11 l16) (show Cat Kind.str F [] ([] : List (List UInt8)) from rfl)) ⟨[.string (bs [109, 97, 116, 99, 104])], _, rfl, rfl, ⟨[.string (bs q8)], _, rfl, rfl, ⟨[.string (bs q13)], _, rfl, rfl, rfl⟩⟩⟩ rfl trivial ?_
  intro A20 c21 cells22 h23
  refine StD.next hcl19 (fun h => by cases h) ?_
  refine sdp 9 (v := (.slice A20 x24.length c21)) (listed' := #[true, true, true, true, true, true, true, true, true, true]) rfl (fun _ => Yields.assign rfl) rfl (by kernel_rfl) rfl ?_
  refine StD.done (by kernel_rfl) ?_
  refine St.norm ?_
  obtain ⟨z27, hm, hk36⟩ := bS hm
  refine St.cutI (fun a w => ∃ (A31 : Option Addr) (c32 : Nat) (cells34 : List Value) (F28 : PH), PH.le F15 F28 ∧ Cat Kind.str F28 cells34 z27 ∧ Bnd 16 z27 ∧ Has Tryz.f43.ntmps a [(3, .slice A31 z27.length c32)] ∧ Sat ⟨w0, fun b => m0 b ≠ none, F⟩ F28 [rowo A31 z27.length c32 9 1 cells34] w) ?_ ?_
  ·skip
   refine ssr ?_
   refine sfa (v := (.pointer (some ⟨b3, 6, none⟩))) rfl (fun _ => by kernel_rfl) rfl ?_
   refine sv (v := (.slice pA0_1 a0.Cases.length pc0_1)) (Yields.load rfl (Loads.H1 1 rfl tc38 rfl)) rfl ?_
   refine sv (v := (.int .i64 ((a0.Cases.length : Nat) : Int))) (Yields.lenSlice tu38 rfl) rfl ?_
   refine smv rfl rfl ?_
   refine snn ?_
   refine St.block ?_
   refine St.loopM hm (fun s46 a w => ∃ (A51 : Option Addr) (c52 : Nat) (cells54 : List Value) (F56 : PH), PH.le F15 F56 ∧ Cat Kind.str F56 cells54 s46.1 ∧ Bnd 16 s46.1 ∧ Has Tryz.f43.ntmps a [(3, .slice A51 s46.1.length c52), (25, .slice pA0_1 a0.Cases.length pc0_1), (26, .int .i64 ((a0.Cases.length : Nat) : Int)), (27, .int .i64 ((s46.2 : Nat) : Int))] ∧ Sat ⟨w0, fun b => m0 b ≠ none, F⟩ F56 [rowo A51 s46.1.length c52 9 1 cells54] w) ?_ ?_
   ·skip
    intro a w ha hs
    exact ⟨A20, c21, cells22, F15, (PH.le_refl _), h23, (Bnd.of_push e25), ha.covers ⟨rfl, rfl, rfl, rfl, trivial⟩, (Among.of (Among.take 0 rfl rfl Among.none) _ hs)⟩
   rintro s46 o47 co48 hm ho49 a w ⟨A51, c52, cells54, F56, l57, h53, b55, ha, hs⟩
   refine St.use (?_ : St _ _ _ _ _ _) ha hs
   clear ha hs a w
   refine ssr ?_
   refine sv (v := (.bool (decide (((s46.2 : Nat) : Int) < ((a0.Cases.length : Nat) : Int))))) (Yields.lt rfl rfl) rfl ?_
   refine snn ?_
   refine St.seq ?_
   refine St.cond_b rfl ?_ ?_
   ·intro q58
    replace q58 : ((s46.2 : Nat) : Int) < ((a0.Cases.length : Nat) : Int) := of_decide_eq_true q58
    replace hm := iT hm q58
    refine skn ?_
    refine St.seq ?_
    refine St.block ?_
    refine ssr ?_
    obtain ⟨x59, e60, hm⟩ := bS hm
    obtain ⟨p61, cs62, jx63, R64, k65⟩ := (Fsl.mono (PH.le_trans l11 (PH.le_trans l16 l57)) ph0_1).nidx e60
    obtain rfl := DJump.opn R64
    refine sv (v := (.pointer (some p61))) (Yields.idx jx63 ts38 rfl rfl) rfl ?_
    refine sv (v := (.agg #[.string (bs x59.Name), .int .i64 x59.N, .int .i64 x59.To])) (Yields.load rfl (Loads.Fatn0 k65 ta49)) rfl ?_
    refine St.alloc tz49 trivial rfl ?_
    intro b66
    refine St.storen (R := [rowo A51 s46.1.length c52 9 1 cells54]) rfl rfl 0 rfl rfl ta49 rfl rfl rfl trivial (cs' := #[.string (bs x59.Name), .int .i64 x59.N, .int .i64 x59.To]) rfl ?_
    refine snn ?_
    refine ssr ?_
    refine sfa (v := (.pointer (some ⟨b66, 0, none⟩))) rfl (fun _ => by kernel_rfl) rfl ?_
    refine sv (v := (.string (bs x59.Name))) (Yields.load rfl (Loads.H1 0 rfl tc9 rfl)) rfl ?_
    refine sas rfl rfl ?_
    refine snn ?_
    obtain ⟨z67, hm, hk70⟩ := bS hm
    refine St.cutI (fun a w => ∃ (F68 : PH), PH.le F56 F68 ∧ Has Tryz.f43.ntmps a [(3, .slice A51 s46.1.length c52), (5, .pointer (some ⟨b66, 0, none⟩)), (6, .string (bs z67)), (25, .slice pA0_1 a0.Cases.length pc0_1), (26, .int .i64 ((a0.Cases.length : Nat) : Int)), (27, .int .i64 ((s46.2 : Nat) : Int))] ∧ Sat ⟨w0, fun b => m0 b ≠ none, F⟩ F68 [blk b66 (.cells #[.string (bs x59.Name), .int .i64 x59.N, .int .i64 x59.To] 49 (0, 0)), rowo A51 s46.1.length c52 9 1 cells54] w) ?_ ?_
    ·skip
     refine ssr ?_
     refine smv rfl rfl ?_
     refine sv (v := (.bool (decide (x59.Name = ([] : List UInt8))))) (Yields.eqStr rfl rfl) rfl ?_
     refine snn ?_
     refine St.cond_b rfl ?_ ?_
     ·intro q71
      replace q71 : x59.Name = ([] : List UInt8) := of_decide_eq_true q71
      replace hm := iT hm q71
      refine St.region ?_
      refine sfa (v := (.pointer (some ⟨b66, 1, none⟩))) rfl (fun _ => by kernel_rfl) rfl ?_
      refine sv (v := (.int .i64 x59.N)) (Yields.load rfl (Loads.H1 0 rfl tc3 rfl)) rfl ?_
      obtain ⟨q72, e73, hm⟩ := bS hm
      refine St.call [blk b66 (.cells #[.string (bs x59.Name), .int .i64 x59.N, .int .i64 x59.To] 49 (0, 0)), rowo A51 s46.1.length c52 9 1 cells54] (x_itoa41_sp e73) rfl (fun _ ha => ev1 ha rfl) rfl en41 rfl rfl trivial ?_
      rintro _ F74 _ ⟨rfl, rfl⟩ l75
      refine sas rfl rfl ?_
      refine St.nil ?_
      obtain rfl := sI hm
      intro a w ha hs
      exact ⟨F74, l75, ha.covers ⟨rfl, rfl, rfl, rfl, rfl, rfl, trivial⟩, (Among.of (Among.take 0 rfl rfl (Among.take 0 rfl rfl Among.none)) _ hs)⟩
     intro q76
     replace q76 : ¬ (x59.Name = ([] : List UInt8)) := of_decide_eq_false q76
     replace hm := iF hm q76
     refine St.skip ?_
     obtain rfl := sI hm
     intro a w ha hs
     exact ⟨F56, (PH.le_refl _), ha.covers ⟨rfl, rfl, rfl, rfl, rfl, rfl, trivial⟩, (Among.of (Among.take 0 rfl rfl (Among.take 0 rfl rfl Among.none)) _ hs)⟩
    rintro a w ⟨F68, l69, ha, hs⟩
    replace hm := hk70
    refine St.use (?_ : St _ _ _ _ _ _) ha hs
    clear ha hs a w
    refine St.region ?_
    refine smv rfl rfl ?_
    refine smv rfl rfl ?_
    obtain ⟨x77, e78, hm⟩ := bS hm
    refine sv (v := (.string (bs x77))) (Yields.catStr e78 rfl rfl) rfl ?_
    refine sfa (v := (.pointer (some ⟨b66, 2, none⟩))) rfl (fun _ => by kernel_rfl) rfl ?_
    refine sv (v := (.int .i64 x59.To)) (Yields.load rfl (Loads.H1 0 rfl tc3 rfl)) rfl ?_
    obtain ⟨q79, e80, hm⟩ := bS hm
    refine St.call [blk b66 (.cells #[.string (bs x59.Name), .int .i64 x59.N, .int .i64 x59.To] 49 (0, 0)), rowo A51 s46.1.length c52 9 1 cells54] (x_itoa41_sp e80) rfl (fun _ ha => ev1 ha rfl) rfl en41 rfl rfl trivial ?_
    rintro _ F81 _ ⟨rfl, rfl⟩ l82
    obtain ⟨x83, e84, hm⟩ := bS hm
    refine sv (v := (.string (bs x83))) (Yields.catStr e84 rfl rfl) rfl ?_
    refine St.buildSlice (e := 9) (cells := #[.string (bs x83)]) (vs := #[(0, .string (bs x83))]) (fun _ ha => evp1 ha rfl) (fun _ => by kernel_rfl) rfl trivial ?_
    intro b85
    obtain ⟨x90, e91, hm⟩ := bS hm
    refine St.pushL (R := [blk b85 (.cells #[.string (bs x83)] 9 (0, 0)), blk b66 (.cells #[.string (bs x59.Name), .int .i64 x59.N, .int .i64 x59.To] 49 (0, 0))]) (R3 := [blk b66 (.cells #[.string (bs x59.Name), .int .i64 x59.N, .int .i64 x59.To] 49 (0, 0))]) e91 ts29 rfl rfl rfl rfl rfl 2 rfl rfl 0 rfl 0 rfl rfl (Cat.mono (PH.le_trans l69 l82) h53) ⟨[.string (bs x83)], _, rfl, rfl, rfl⟩ rfl trivial ?_
    intro A86 c87 cells88 h89
    refine sas rfl rfl ?_
    refine St.nil ?_
    refine St.innorm ?_
    refine St.norm ?_
    refine St.region ?_
    refine sv (v := (.int .i64 ((s46.2 + 1 : Nat) : Int))) (Yields.addn (j := 1) rfl rfl rfl (by have q_0 := q58; have q_1 := ph0_1.bnd.2; omega)) rfl ?_
    refine smv rfl rfl ?_
    refine snn ?_
    obtain rfl := sI hm
    intro a w ha hs
    exact ⟨(x90, s46.2 + 1), aL ho49, A86, c87, cells88, F81, (PH.le_trans l57 (PH.le_trans l69 l82)), h89, (Bnd.of_push e91), ha.covers ⟨rfl, rfl, rfl, rfl, trivial⟩, (Among.of (Among.take 0 rfl rfl Among.none) _ hs)⟩
   intro q93
   replace q93 : ¬ (((s46.2 : Nat) : Int) < ((a0.Cases.length : Nat) : Int)) := of_decide_eq_false q93
   replace hm := iF hm q93
   refine St.exit ?_
   refine St.thenexit ?_
   refine St.thenexit ?_
   refine St.inexit ?_
   obtain rfl := sI hm
   obtain rfl := aR ho49
   intro a w ha hs
   exact ⟨A51, c52, cells54, F56, l57, h53, b55, ha.covers ⟨rfl, trivial⟩, (Among.of (Among.take 0 rfl rfl Among.none) _ hs)⟩
  rintro a w ⟨A31, c32, cells34, F28, l29, h33, b35, ha, hs⟩
  replace hm := hk36
  refine St.use (?_ : St _ _ _ _ _ _) ha hs
  clear ha hs a w
  refine ssr ?_
  refine smv rfl rfl ?_
  refine sas rfl rfl ?_
  refine snn ?_
  refine St.ret ?_
  refine St.inret ?_
  refine St.thenret ?_
  refine St.frz 0 rfl rfl rfl h33 b35 ?_
  intro F94 l95 h96
  obtain rfl := sI hm
  exact St.doneR1 rfl rfl ⟨A31, c32, rfl, h96, rfl⟩ (fun w hs => Among.of Among.none w hs)
 intro q97
 replace q97 : ¬ (a0.Op = 1) := of_decide_eq_false q97
 replace hm := iF hm q97
 refine ssr ?_
 refine sv (v := (.bool (decide (a0.Op = 3)))) (Yields.eq rfl rfl) rfl ?_
 refine sas rfl rfl ?_
 refine snn ?_
 refine St.cond_b rfl ?_ ?_
 ·intro q98
  replace q98 : a0.Op = 3 := of_decide_eq_true q98
  replace hm := iT hm q98
  refine ssr ?_
  refine smv rfl rfl ?_
  refine St.buildSlice (e := 9) (cells := #[.string (bs [102, 114, 101, 101])]) (vs := #[(0, .string (bs [102, 114, 101, 101]))]) (fun a _ => by simp only [List.map_toArray, List.map_cons, List.map_nil, Act.eval] <;> rfl) (fun _ => by kernel_rfl) rfl trivial ?_
  intro b99
  obtain ⟨x104, e105, hm⟩ := bS hm
  refine St.pushL (R := [blk b99 (.cells #[.string (bs [102, 114, 101, 101])] 9 (0, 0)), blk b3 (.cells #[.int .i64 a0.Op, .int .i64 a0.A, .int .i64 a0.B, .int .i64 a0.N, .string (bs a0.Name), .slice pA0_0 a0.Args.length pc0_0, .slice pA0_1 a0.Cases.length pc0_1] 40 (0, 0))]) (R3 := [blk b3 (.cells #[.int .i64 a0.Op, .int .i64 a0.A, .int .i64 a0.B, .int .i64 a0.N, .string (bs a0.Name), .slice pA0_0 a0.Args.length pc0_0, .slice pA0_1 a0.Cases.length pc0_1] 40 (0, 0))]) e105 ts29 rfl rfl rfl rfl rfl 1 rfl rfl 0 rfl 0 rfl rfl (show Cat Kind.str F [] ([] : List (List UInt8)) from rfl) ⟨[.string (bs [102, 114, 101, 101])], _, rfl, rfl, rfl⟩ rfl trivial ?_
  intro A100 c101 cells102 h103
  refine sas rfl rfl ?_
  refine snn ?_
  refine St.ret ?_
  refine St.inret ?_
  refine St.thenret ?_
  refine St.frz 0 rfl rfl rfl h103 (Bnd.of_push e105) ?_
  intro F107 l108 h109
  obtain rfl := sI hm
  exact St.doneR1 rfl rfl ⟨A100, c101, rfl, h109, rfl⟩ (fun w hs => Among.of Among.none w hs)
 intro q110
 replace q110 : ¬ (a0.Op = 3) := of_decide_eq_false q110
 replace hm := iF hm q110
 refine ssr ?_
 refine sv (v := (.bool (decide (a0.Op = 5)))) (Yields.eq rfl rfl) rfl ?_
 refine sas rfl rfl ?_
 refine snn ?_
 refine St.cond_b rfl ?_ ?_
 ·intro q111
  replace q111 : a0.Op = 5 := of_decide_eq_true q111
  replace hm := iT hm q111
  refine ssr ?_
  refine smv rfl rfl ?_
  refine St.buildSlice (e := 9) (cells := #[.string (bs [115, 116, 111, 112])]) (vs := #[(0, .string (bs [115, 116, 111, 112]))]) (fun a _ => by simp only [List.map_toArray, List.map_cons, List.map_nil, Act.eval] <;> rfl) (fun _ => by kernel_rfl) rfl trivial ?_
  intro b112
  obtain ⟨x117, e118, hm⟩ := bS hm
  refine St.pushL (R := [blk b112 (.cells #[.string (bs [115, 116, 111, 112])] 9 (0, 0)), blk b3 (.cells #[.int .i64 a0.Op, .int .i64 a0.A, .int .i64 a0.B, .int .i64 a0.N, .string (bs a0.Name), .slice pA0_0 a0.Args.length pc0_0, .slice pA0_1 a0.Cases.length pc0_1] 40 (0, 0))]) (R3 := [blk b3 (.cells #[.int .i64 a0.Op, .int .i64 a0.A, .int .i64 a0.B, .int .i64 a0.N, .string (bs a0.Name), .slice pA0_0 a0.Args.length pc0_0, .slice pA0_1 a0.Cases.length pc0_1] 40 (0, 0))]) e118 ts29 rfl rfl rfl rfl rfl 1 rfl rfl 0 rfl 0 rfl rfl (show Cat Kind.str F [] ([] : List (List UInt8)) from rfl) ⟨[.string (bs [115, 116, 111, 112])], _, rfl, rfl, rfl⟩ rfl trivial ?_
  intro A113 c114 cells115 h116
  refine sas rfl rfl ?_
  refine snn ?_
  refine St.ret ?_
  refine St.inret ?_
  refine St.thenret ?_
  refine St.frz 0 rfl rfl rfl h116 (Bnd.of_push e118) ?_
  intro F120 l121 h122
  obtain rfl := sI hm
  exact St.doneR1 rfl rfl ⟨A113, c114, rfl, h122, rfl⟩ (fun w hs => Among.of Among.none w hs)
 intro q123
 replace q123 : ¬ (a0.Op = 5) := of_decide_eq_false q123
 replace hm := iF hm q123
 refine ssr ?_
 refine sv (v := (.bool (decide (a0.Op = 4)))) (Yields.eq rfl rfl) rfl ?_
 refine sas rfl rfl ?_
 refine snn ?_
 refine St.cond_b rfl ?_ ?_
 ·intro q124
  replace q124 : a0.Op = 4 := of_decide_eq_true q124
  replace hm := iT hm q124
  refine ssr ?_
  refine smv rfl rfl ?_
  refine sfa (v := (.pointer (some ⟨b3, 1, none⟩))) rfl (fun _ => by kernel_rfl) rfl ?_
  refine sv (v := (.int .i64 a0.A)) (Yields.load rfl (Loads.H1 1 rfl tc3 rfl)) rfl ?_
  obtain ⟨q125, e126, hm⟩ := bS hm
  refine St.call [rowo (some ⟨b4, 0, none⟩) ([] : List (List UInt8)).length 0 9 1 [], blk b3 (.cells #[.int .i64 a0.Op, .int .i64 a0.A, .int .i64 a0.B, .int .i64 a0.N, .string (bs a0.Name), .slice pA0_0 a0.Args.length pc0_0, .slice pA0_1 a0.Cases.length pc0_1] 40 (0, 0))] (x_itoa41_sp e126) rfl (fun _ ha => ev1 ha rfl) rfl en41 rfl rfl trivial ?_
  rintro _ F127 _ ⟨rfl, rfl⟩ l128
  refine St.buildSlice (e := 9) (cells := #[.string (bs [101, 110, 100]), .string (bs q125)]) (vs := #[(0, .string (bs [101, 110, 100])), (1, .string (bs q125))]) (fun _ ha => evp2 ha rfl rfl) (fun _ => by kernel_rfl) rfl trivial ?_
  intro b129
  obtain ⟨x134, e135, hm⟩ := bS hm
  refine St.pushL (R := [blk b129 (.cells #[.string (bs [101, 110, 100]), .string (bs q125)] 9 (0, 0)), blk b3 (.cells #[.int .i64 a0.Op, .int .i64 a0.A, .int .i64 a0.B, .int .i64 a0.N, .string (bs a0.Name), .slice pA0_0 a0.Args.length pc0_0, .slice pA0_1 a0.Cases.length pc0_1] 40 (0, 0))]) (R3 := [blk b3 (.cells #[.int .i64 a0.Op, .int .i64 a0.A, .int .i64 a0.B, .int .i64 a0.N, .string (bs a0.Name), .slice pA0_0 a0.Args.length pc0_0, .slice pA0_1 a0.Cases.length pc0_1] 40 (0, 0))]) e135 ts29 rfl rfl rfl rfl rfl 1 rfl rfl 0 rfl 0 rfl rfl (Cat.mono l128 (show Cat Kind.str F [] ([] : List (List UInt8)) from rfl)) ⟨[.string (bs [101, 110, 100])], _, rfl, rfl, ⟨[.string (bs q125)], _, rfl, rfl, rfl⟩⟩ rfl trivial ?_
  intro A130 c131 cells132 h133
  refine sas rfl rfl ?_
  refine snn ?_
  refine St.ret ?_
  refine St.inret ?_
  refine St.thenret ?_
  refine St.frz 0 rfl rfl rfl h133 (Bnd.of_push e135) ?_
  intro F137 l138 h139
  obtain rfl := sI hm
  exact St.doneR1 rfl rfl ⟨A130, c131, rfl, h139, rfl⟩ (fun w hs => Among.of Among.none w hs)
 intro q140
 replace q140 : ¬ (a0.Op = 4) := of_decide_eq_false q140
 replace hm := iF hm q140
 refine St.skip ?_
 refine St.innorm ?_
 refine St.norm ?_
 refine ssr ?_
 refine St.newMap (P := Tryz.prog) keyInt trivial rfl ?_
 intro b141
 obtain ⟨x143, e144, hm⟩ := bS hm
 refine St.mapInsK (R := [rowo (some ⟨b4, 0, none⟩) ([] : List (List UInt8)).length 0 9 1 [], blk b3 (.cells #[.int .i64 a0.Op, .int .i64 a0.A, .int .i64 a0.B, .int .i64 a0.N, .string (bs a0.Name), .slice pA0_0 a0.Args.length pc0_0, .slice pA0_1 a0.Cases.length pc0_1] 40 (0, 0))]) e144 (show Mrel Kind.str false _ [] ([] : List (Int × (List UInt8))) from trivial) ⟨[.string (bs [99, 111, 110])], rfl, rfl⟩ rfl rfl rfl 0 rfl rfl tm89 tk89 trivial ?_
 intro vs145 h146
 obtain ⟨x148, e149, hm⟩ := bS hm
 refine St.mapInsK (R := [rowo (some ⟨b4, 0, none⟩) ([] : List (List UInt8)).length 0 9 1 [], blk b3 (.cells #[.int .i64 a0.Op, .int .i64 a0.A, .int .i64 a0.B, .int .i64 a0.N, .string (bs a0.Name), .slice pA0_0 a0.Args.length pc0_0, .slice pA0_1 a0.Cases.length pc0_1] 40 (0, 0))]) e149 h146 ⟨[.string (bs [99, 97, 108, 108])], rfl, rfl⟩ rfl rfl rfl 0 rfl rfl tm89 tk89 trivial ?_
 intro vs150 h151
 obtain ⟨x153, e154, hm⟩ := bS hm
 refine St.mapInsK (R := [rowo (some ⟨b4, 0, none⟩) ([] : List (List UInt8)).length 0 9 1 [], blk b3 (.cells #[.int .i64 a0.Op, .int .i64 a0.A, .int .i64 a0.B, .int .i64 a0.N, .string (bs a0.Name), .slice pA0_0 a0.Args.length pc0_0, .slice pA0_1 a0.Cases.length pc0_1] 40 (0, 0))]) e154 h151 ⟨[.string (bs [105, 110, 116])], rfl, rfl⟩ rfl rfl rfl 0 rfl rfl tm89 tk89 trivial ?_
 intro vs155 h156
 obtain ⟨x158, e159, hm⟩ := bS hm
 refine St.mapInsK (R := [rowo (some ⟨b4, 0, none⟩) ([] : List (List UInt8)).length 0 9 1 [], blk b3 (.cells #[.int .i64 a0.Op, .int .i64 a0.A, .int .i64 a0.B, .int .i64 a0.N, .string (bs a0.Name), .slice pA0_0 a0.Args.length pc0_0, .slice pA0_1 a0.Cases.length pc0_1] 40 (0, 0))]) e159 h156 ⟨[.string (bs [97, 112, 112, 108, 121])], rfl, rfl⟩ rfl rfl rfl 0 rfl rfl tm89 tk89 trivial ?_
 intro vs160 h161
 obtain ⟨x163, e164, hm⟩ := bS hm
 refine St.mapInsK (R := [rowo (some ⟨b4, 0, none⟩) ([] : List (List UInt8)).length 0 9 1 [], blk b3 (.cells #[.int .i64 a0.Op, .int .i64 a0.A, .int .i64 a0.B, .int .i64 a0.N, .string (bs a0.Name), .slice pA0_0 a0.Args.length pc0_0, .slice pA0_1 a0.Cases.length pc0_1] 40 (0, 0))]) e164 h161 ⟨[.string (bs [111, 114])], rfl, rfl⟩ rfl rfl rfl 0 rfl rfl tm89 tk89 trivial ?_
 intro vs165 h166
 obtain ⟨x168, e169, hm⟩ := bS hm
 refine St.mapInsK (R := [rowo (some ⟨b4, 0, none⟩) ([] : List (List UInt8)).length 0 9 1 [], blk b3 (.cells #[.int .i64 a0.Op, .int .i64 a0.A, .int .i64 a0.B, .int .i64 a0.N, .string (bs a0.Name), .slice pA0_0 a0.Args.length pc0_0, .slice pA0_1 a0.Cases.length pc0_1] 40 (0, 0))]) e169 h166 ⟨[.string (bs [102, 97, 105, 108])], rfl, rfl⟩ rfl rfl rfl 0 rfl rfl tm89 tk89 trivial ?_
 intro vs170 h171
 refine smv rfl rfl ?_
 refine sas rfl rfl ?_
 refine snn ?_
 refine ssr ?_
 refine smv rfl rfl ?_
 refine smv rfl rfl ?_
 refine sfa (v := (.pointer (some ⟨b3, 3, none⟩))) rfl (fun _ => by kernel_rfl) rfl ?_
 refine sv (v := (.int .i64 a0.N)) (Yields.load rfl (Loads.H1 2 rfl tc3 rfl)) rfl ?_
 obtain ⟨x173, e174, hm⟩ := bS hm
 obtain ⟨v175, hv176, cs178, R179, hc180⟩ := Mrel.look' (k := a0.N) h171 (show Mval Kind.str false _ (.string (bs [])) ([] : List UInt8) from ⟨[.string (bs [])], rfl, rfl⟩)
 rw [Mir.getD_some e174] at R179
 obtain rfl := R179
 obtain rfl := (List.cons.inj (if_neg (show ¬ (false = true) by decide) ▸ hc180)).1
 refine sv (v := (.string (bs x173))) (Yields.look rfl rfl 0 rfl tm89 tk89 tz9 hv176) rfl ?_
 refine St.buildSlice (e := 9) (cells := #[.string (bs [110, 111, 100, 101]), .string (bs x173)]) (vs := #[(0, .string (bs [110, 111, 100, 101])), (1, .string (bs x173))]) (fun _ ha => evp2 ha rfl rfl) (fun _ => by kernel_rfl) rfl trivial ?_
 intro b181
 obtain ⟨x186, e187, hm⟩ := bS hm
 refine St.pushL (R := [blk b181 (.cells #[.string (bs [110, 111, 100, 101]), .string (bs x173)] 9 (0, 0)), mapv keyInt b141 vs170, blk b3 (.cells #[.int .i64 a0.Op, .int .i64 a0.A, .int .i64 a0.B, .int .i64 a0.N, .string (bs a0.Name), .slice pA0_0 a0.Args.length pc0_0, .slice pA0_1 a0.Cases.length pc0_1] 40 (0, 0))]) (R3 := [mapv keyInt b141 vs170, blk b3 (.cells #[.int .i64 a0.Op, .int .i64 a0.A, .int .i64 a0.B, .int .i64 a0.N, .string (bs a0.Name), .slice pA0_0 a0.Args.length pc0_0, .slice pA0_1 a0.Cases.length pc0_1] 40 (0, 0))]) e187 ts29 rfl rfl rfl rfl rfl 2 rfl rfl 0 rfl 0 rfl rfl (show Cat Kind.str F [] ([] : List (List UInt8)) from rfl) ⟨[.string (bs [110, 111, 100, 101])], _, rfl, rfl, ⟨[.string (bs x173)], _, rfl, rfl, rfl⟩⟩ rfl trivial ?_
 intro A182 c183 cells184 h185
 refine sas rfl rfl ?_
 refine snn ?_
 obtain ⟨z189, hm, hk196⟩ := bS hm
 refine St.cutI (fun a w => ∃ (A191 : Option Addr) (c192 : Nat) (cells194 : List Value), Cat Kind.str F cells194 z189 ∧ Bnd 16 z189 ∧ Has Tryz.f43.ntmps a [(1, .pointer (some ⟨b3, 0, none⟩)), (3, .slice A191 z189.length c192)] ∧ Sat ⟨w0, fun b => m0 b ≠ none, F⟩ F [blk b3 (.cells #[.int .i64 a0.Op, .int .i64 a0.A, .int .i64 a0.B, .int .i64 a0.N, .string (bs a0.Name), .slice pA0_0 a0.Args.length pc0_0, .slice pA0_1 a0.Cases.length pc0_1] 40 (0, 0)), rowo A191 z189.length c192 9 1 cells194] w) ?_ ?_
 ·skip
  refine ssr ?_
  refine sfa (v := (.pointer (some ⟨b3, 4, none⟩))) rfl (fun _ => by kernel_rfl) rfl ?_
  refine sv (v := (.string (bs a0.Name))) (Yields.load rfl (Loads.H1 2 rfl tc9 rfl)) rfl ?_
  refine sv (v := (.bool (!decide (a0.Name = ([] : List UInt8))))) (Yields.neStr rfl rfl) rfl ?_
  refine snn ?_
  refine St.cond_b rfl ?_ ?_
  ·intro q197
   replace q197 : ¬ (a0.Name = ([] : List UInt8)) := nd_t q197
   replace hm := iF hm q197
   refine St.region ?_
   refine smv rfl rfl ?_
   refine sfa (v := (.pointer (some ⟨b3, 4, none⟩))) rfl (fun _ => by kernel_rfl) rfl ?_
   refine sv (v := (.string (bs a0.Name))) (Yields.load rfl (Loads.H1 2 rfl tc9 rfl)) rfl ?_
   refine St.buildSlice (e := 9) (cells := #[.string (bs a0.Name)]) (vs := #[(0, .string (bs a0.Name))]) (fun _ ha => evp1 ha rfl) (fun _ => by kernel_rfl) rfl trivial ?_
   intro b198
   obtain ⟨x203, e204, hm⟩ := bS hm
   refine St.pushL (R := [blk b198 (.cells #[.string (bs a0.Name)] 9 (0, 0)), mapv keyInt b141 vs170, blk b3 (.cells #[.int .i64 a0.Op, .int .i64 a0.A, .int .i64 a0.B, .int .i64 a0.N, .string (bs a0.Name), .slice pA0_0 a0.Args.length pc0_0, .slice pA0_1 a0.Cases.length pc0_1] 40 (0, 0))]) (R3 := [mapv keyInt b141 vs170, blk b3 (.cells #[.int .i64 a0.Op, .int .i64 a0.A, .int .i64 a0.B, .int .i64 a0.N, .string (bs a0.Name), .slice pA0_0 a0.Args.length pc0_0, .slice pA0_1 a0.Cases.length pc0_1] 40 (0, 0))]) e204 ts29 rfl rfl rfl rfl rfl 1 rfl rfl 0 rfl 0 rfl rfl h185 ⟨[.string (bs a0.Name)], _, rfl, rfl, rfl⟩ rfl trivial ?_
   intro A199 c200 cells201 h202
   refine sas rfl rfl ?_
   refine St.nil ?_
   obtain rfl := sI hm
   intro a w ha hs
   exact ⟨A199, c200, cells201, h202, (Bnd.of_push e204), ha.covers ⟨rfl, rfl, trivial⟩, (Among.of (Among.take 2 rfl rfl (Among.take 0 rfl rfl Among.none)) _ hs)⟩
  intro q206
  replace q206 : a0.Name = ([] : List UInt8) := nd_f q206
  replace hm := iT hm q206
  refine St.skip ?_
  obtain rfl := sI hm
  intro a w ha hs
  exact ⟨A182, c183, cells184, h185, (Bnd.of_push e187), ha.covers ⟨rfl, rfl, trivial⟩, (Among.of (Among.take 2 rfl rfl (Among.take 0 rfl rfl Among.none)) _ hs)⟩
 rintro a w ⟨A191, c192, cells194, h193, b195, ha, hs⟩
 replace hm := hk196
 refine St.use (?_ : St _ _ _ _ _ _) ha hs
 clear ha hs a w
 obtain ⟨z207, hm, hk216⟩ := bS hm
 refine St.cutI (fun a w => ∃ (A211 : Option Addr) (c212 : Nat) (cells214 : List Value) (F208 : PH), PH.le F F208 ∧ Cat Kind.str F208 cells214 z207 ∧ Bnd 16 z207 ∧ Has Tryz.f43.ntmps a [(1, .pointer (some ⟨b3, 0, none⟩)), (3, .slice A211 z207.length c212)] ∧ Sat ⟨w0, fun b => m0 b ≠ none, F⟩ F208 [blk b3 (.cells #[.int .i64 a0.Op, .int .i64 a0.A, .int .i64 a0.B, .int .i64 a0.N, .string (bs a0.Name), .slice pA0_0 a0.Args.length pc0_0, .slice pA0_1 a0.Cases.length pc0_1] 40 (0, 0)), rowo A211 z207.length c212 9 1 cells214] w) ?_ ?_
 ·skip
  refine ssr ?_
  refine sfa (v := (.pointer (some ⟨b3, 3, none⟩))) rfl (fun _ => by kernel_rfl) rfl ?_
  refine sv (v := (.int .i64 a0.N)) (Yields.load rfl (Loads.H1 0 rfl tc3 rfl)) rfl ?_
  refine sv (v := (.bool (decide (a0.N = 2)))) (Yields.eq rfl rfl) rfl ?_
  refine snn ?_
  refine St.cond_b rfl ?_ ?_
  ·intro q217
   replace q217 : a0.N = 2 := of_decide_eq_true q217
   replace hm := iT hm q217
   refine St.region ?_
   refine smv rfl rfl ?_
   refine sfa (v := (.pointer (some ⟨b3, 1, none⟩))) rfl (fun _ => by kernel_rfl) rfl ?_
   refine sv (v := (.int .i64 a0.A)) (Yields.load rfl (Loads.H1 0 rfl tc3 rfl)) rfl ?_
   obtain ⟨q218, e219, hm⟩ := bS hm
   refine St.call [blk b3 (.cells #[.int .i64 a0.Op, .int .i64 a0.A, .int .i64 a0.B, .int .i64 a0.N, .string (bs a0.Name), .slice pA0_0 a0.Args.length pc0_0, .slice pA0_1 a0.Cases.length pc0_1] 40 (0, 0)), rowo A191 z189.length c192 9 1 cells194] (x_itoa41_sp e219) rfl (fun _ ha => ev1 ha rfl) rfl en41 rfl rfl trivial ?_
   rintro _ F220 _ ⟨rfl, rfl⟩ l221
   refine St.buildSlice (e := 9) (cells := #[.string (bs q218)]) (vs := #[(0, .string (bs q218))]) (fun _ ha => evp1 ha rfl) (fun _ => by kernel_rfl) rfl trivial ?_
   intro b222
   obtain ⟨x227, e228, hm⟩ := bS hm
   refine St.pushL (R := [blk b222 (.cells #[.string (bs q218)] 9 (0, 0)), blk b3 (.cells #[.int .i64 a0.Op, .int .i64 a0.A, .int .i64 a0.B, .int .i64 a0.N, .string (bs a0.Name), .slice pA0_0 a0.Args.length pc0_0, .slice pA0_1 a0.Cases.length pc0_1] 40 (0, 0))]) (R3 := [blk b3 (.cells #[.int .i64 a0.Op, .int .i64 a0.A, .int .i64 a0.B, .int .i64 a0.N, .string (bs a0.Name), .slice pA0_0 a0.Args.length pc0_0, .slice pA0_1 a0.Cases.length pc0_1] 40 (0, 0))]) e228 ts29 rfl rfl rfl rfl rfl 2 rfl rfl 0 rfl 0 rfl rfl (Cat.mono l221 h193) ⟨[.string (bs q218)], _, rfl, rfl, rfl⟩ rfl trivial ?_
   intro A223 c224 cells225 h226
   refine sas rfl rfl ?_
   refine St.nil ?_
   obtain rfl := sI hm
   intro a w ha hs
   exact ⟨A223, c224, cells225, F220, l221, h226, (Bnd.of_push e228), ha.covers ⟨rfl, rfl, trivial⟩, (Among.of (Among.take 1 rfl rfl (Among.take 0 rfl rfl Among.none)) _ hs)⟩
  intro q230
  replace q230 : ¬ (a0.N = 2) := of_decide_eq_false q230
  replace hm := iF hm q230
  refine St.skip ?_
  obtain rfl := sI hm
  intro a w ha hs
  exact ⟨A191, c192, cells194, F, (PH.le_refl _), h193, b195, ha.covers ⟨rfl, rfl, trivial⟩, (Among.of (Among.take 0 rfl rfl (Among.take 0 rfl rfl Among.none)) _ hs)⟩
 rintro a w ⟨A211, c212, cells214, F208, l209, h213, b215, ha, hs⟩
 replace hm := hk216
 refine St.use (?_ : St _ _ _ _ _ _) ha hs
 clear ha hs a w
 obtain ⟨z231, hm, hk240⟩ := bS hm
 refine St.cutI (fun a w => ∃ (A235 : Option Addr) (c236 : Nat) (cells238 : List Value) (F232 : PH), PH.le F208 F232 ∧ Cat Kind.str F232 cells238 z231 ∧ Bnd 16 z231 ∧ Has Tryz.f43.ntmps a [(3, .slice A235 z231.length c236)] ∧ Sat ⟨w0, fun b => m0 b ≠ none, F⟩ F232 [rowo A235 z231.length c236 9 1 cells238] w) ?_ ?_
 ·skip
  refine ssr ?_
  refine sfa (v := (.pointer (some ⟨b3, 5, none⟩))) rfl (fun _ => by kernel_rfl) rfl ?_
  refine sv (v := (.slice pA0_0 a0.Args.length pc0_0)) (Yields.load rfl (Loads.H1 0 rfl tc37 rfl)) rfl ?_
  refine sv (v := (.int .i64 ((a0.Args.length : Nat) : Int))) (Yields.lenSlice tu37 rfl) rfl ?_
  refine smv rfl rfl ?_
  refine snn ?_
  refine St.block ?_
  refine St.loopM hm (fun s250 a w => ∃ (A255 : Option Addr) (c256 : Nat) (cells258 : List Value) (F260 : PH), PH.le F208 F260 ∧ Cat Kind.str F260 cells258 s250.1 ∧ Bnd 16 s250.1 ∧ Has Tryz.f43.ntmps a [(3, .slice A255 s250.1.length c256), (94, .slice pA0_0 a0.Args.length pc0_0), (95, .int .i64 ((a0.Args.length : Nat) : Int)), (96, .int .i64 ((s250.2 : Nat) : Int))] ∧ Sat ⟨w0, fun b => m0 b ≠ none, F⟩ F260 [rowo A255 s250.1.length c256 9 1 cells258] w) ?_ ?_
  ·skip
   intro a w ha hs
   exact ⟨A211, c212, cells214, F208, (PH.le_refl _), h213, b215, ha.covers ⟨rfl, rfl, rfl, rfl, trivial⟩, (Among.of (Among.take 1 rfl rfl Among.none) _ hs)⟩
  rintro s250 o251 co252 hm ho253 a w ⟨A255, c256, cells258, F260, l261, h257, b259, ha, hs⟩
  refine St.use (?_ : St _ _ _ _ _ _) ha hs
  clear ha hs a w
  refine ssr ?_
  refine sv (v := (.bool (decide (((s250.2 : Nat) : Int) < ((a0.Args.length : Nat) : Int))))) (Yields.lt rfl rfl) rfl ?_
  refine snn ?_
  refine St.seq ?_
  refine St.cond_b rfl ?_ ?_
  ·intro q262
   replace q262 : ((s250.2 : Nat) : Int) < ((a0.Args.length : Nat) : Int) := of_decide_eq_true q262
   replace hm := iT hm q262
   refine skn ?_
   refine St.seq ?_
   refine St.block ?_
   refine ssr ?_
   obtain ⟨x263, e264, hm⟩ := bS hm
   obtain ⟨p265, cs266, jx267, R268, k269⟩ := (Fsl.mono (PH.le_trans l209 l261) ph0_0).nidx e264
   obtain rfl := R268
   refine sv (v := (.pointer (some p265))) (Yields.idx jx267 ts37 rfl rfl) rfl ?_
   refine sv (v := (.int .i64 x263)) (Yields.load rfl (Loads.Fat k269 tc3 rfl)) rfl ?_
   refine sas rfl rfl ?_
   refine snn ?_
   refine St.region ?_
   refine smv rfl rfl ?_
   refine smv rfl rfl ?_
   obtain ⟨q270, e271, hm⟩ := bS hm
   refine St.call [rowo A255 s250.1.length c256 9 1 cells258] (x_itoa41_sp e271) rfl (fun _ ha => ev1 ha rfl) rfl en41 rfl rfl trivial ?_
   rintro _ F272 _ ⟨rfl, rfl⟩ l273
   refine St.buildSlice (e := 9) (cells := #[.string (bs q270)]) (vs := #[(0, .string (bs q270))]) (fun _ ha => evp1 ha rfl) (fun _ => by kernel_rfl) rfl trivial ?_
   intro b274
   obtain ⟨x279, e280, hm⟩ := bS hm
   refine St.pushL (R := [blk b274 (.cells #[.string (bs q270)] 9 (0, 0))]) (R3 := []) e280 ts29 rfl rfl rfl rfl rfl 1 rfl rfl 0 rfl 0 rfl rfl (Cat.mono l273 h257) ⟨[.string (bs q270)], _, rfl, rfl, rfl⟩ rfl trivial ?_
   intro A275 c276 cells277 h278
   refine sas rfl rfl ?_
   refine St.nil ?_
   refine St.innorm ?_
   refine St.norm ?_
   refine St.region ?_
   refine sv (v := (.int .i64 ((s250.2 + 1 : Nat) : Int))) (Yields.addn (j := 1) rfl rfl rfl (by have q_0 := q262; have q_1 := ph0_0.bnd.2; omega)) rfl ?_
   refine smv rfl rfl ?_
   refine snn ?_
   obtain rfl := sI hm
   intro a w ha hs
   exact ⟨(x279, s250.2 + 1), aL ho253, A275, c276, cells277, F272, (PH.le_trans l261 l273), h278, (Bnd.of_push e280), ha.covers ⟨rfl, rfl, rfl, rfl, trivial⟩, (Among.of (Among.take 0 rfl rfl Among.none) _ hs)⟩
  intro q282
  replace q282 : ¬ (((s250.2 : Nat) : Int) < ((a0.Args.length : Nat) : Int)) := of_decide_eq_false q282
  replace hm := iF hm q282
  refine St.exit ?_
  refine St.thenexit ?_
  refine St.thenexit ?_
  refine St.inexit ?_
  obtain rfl := sI hm
  obtain rfl := aR ho253
  intro a w ha hs
  exact ⟨A255, c256, cells258, F260, l261, h257, b259, ha.covers ⟨rfl, trivial⟩, (Among.of (Among.take 0 rfl rfl Among.none) _ hs)⟩
 rintro a w ⟨A235, c236, cells238, F232, l233, h237, b239, ha, hs⟩
 replace hm := hk240
 refine St.use (?_ : St _ _ _ _ _ _) ha hs
 clear ha hs a w
 refine ssr ?_
 refine smv rfl rfl ?_
 refine sas rfl rfl ?_
 refine snn ?_
 refine St.ret ?_
 refine St.frz 0 rfl rfl rfl h237 b239 ?_
 intro F283 l284 h285
 obtain rfl := sI hm
 exact St.doneR1 rfl rfl ⟨A235, c236, rfl, h285, rfl⟩ (fun w hs => Among.of Among.none w hs)
theorem m_code_Print_sp {F : PH} {g : Nat} {a0 : List DCode} {pA0 : Option Addr} {pc0 : Nat} (ph0 : Fsl 48 KDCode F pA0 pc0 a0) {r : List UInt8 × Int} (hm : m_code_Print g a0 = some r) :
  CallSp Tryz.prog 21 #[.slice pA0 a0.length pc0] F [] (fun u F' H' => u = (.tuple #[.string (bs r.1), .int .i64 r.2]) ∧ H' = []) := by

 unfold m_code_Print at hm
 refine CallSp.enter (args := [.slice pA0 a0.length pc0]) Tryz.func21 rfl rfl ?_
 intro w0 m0 hm0
 refine ssr ?_
 refine sas rfl rfl ?_
 refine sas rfl rfl ?_
 refine snn ?_
 refine St.seq ?_
 refine ssr ?_
 refine smv rfl rfl ?_
 obtain ⟨q2, e3, hm⟩ := bS hm
 refine St.call [] (m_code_printed_sp ph0 e3) rfl (fun _ ha => ev1 ha rfl) rfl en13 rfl rfl trivial ?_
 rintro _ F4 _ ⟨rfl, rfl⟩ l5
 refine sas rfl rfl ?_
 refine snn ?_
 refine ssr ?_
 refine smv rfl rfl ?_
 refine sv (v := (.bool (!decide (q2 = 0)))) (Yields.ne rfl rfl) rfl ?_
 refine snn ?_
 refine St.cond_b rfl ?_ ?_
 ·intro q6
  replace q6 : ¬ (q2 = 0) := nd_t q6
  replace hm := iF hm q6
  refine ssr ?_
  refine smv rfl rfl ?_
  refine sas rfl rfl ?_
  refine sas rfl rfl ?_
  refine snn ?_
  refine St.ret ?_
  refine St.thenret ?_
  obtain rfl := sI hm
  exact St.doneR2 rfl rfl rfl ⟨rfl, rfl⟩ (fun w hs => Among.of Among.none w hs)
 intro q7
 replace q7 : q2 = 0 := nd_f q7
 replace hm := iT hm q7
 refine skn ?_
 refine ssr ?_
 refine St.alloc tz66 trivial rfl ?_
 intro b8
 refine St.bld_new ?_
 refine snn ?_
 obtain ⟨z9, hm, hk12⟩ := bS hm
 refine St.cutI (fun a w => ∃ (F10 : PH), PH.le F4 F10 ∧ Has Tryz.f21.ntmps a [(5, .pointer (some ⟨b8, 0, none⟩))] ∧ Sat ⟨w0, fun b => m0 b ≠ none, F⟩ F10 [bld b8 z9] w) ?_ ?_
 ·skip
  refine ssr ?_
  refine smv rfl rfl ?_
  refine sv (v := (.int .i64 ((a0.length : Nat) : Int))) (Yields.lenSlice tu22 rfl) rfl ?_
  refine smv rfl rfl ?_
  refine snn ?_
  refine St.block ?_
  refine St.loopM hm (fun s16 a w => ∃ (F20 : PH), PH.le F4 F20 ∧ Has Tryz.f21.ntmps a [(5, .pointer (some ⟨b8, 0, none⟩)), (15, .slice pA0 a0.length pc0), (16, .int .i64 ((a0.length : Nat) : Int)), (17, .int .i64 ((s16.2 : Nat) : Int))] ∧ Sat ⟨w0, fun b => m0 b ≠ none, F⟩ F20 [bld b8 s16.1] w) ?_ ?_
  ·skip
   intro a w ha hs
   exact ⟨F4, (PH.le_refl _), ha.covers ⟨rfl, rfl, rfl, rfl, trivial⟩, (Among.of (Among.take 0 rfl rfl Among.none) _ hs)⟩
  rintro s16 o17 co18 hm ho19 a w ⟨F20, l21, ha, hs⟩
  refine St.use (?_ : St _ _ _ _ _ _) ha hs
  clear ha hs a w
  refine ssr ?_
  refine sv (v := (.bool (decide (((s16.2 : Nat) : Int) < ((a0.length : Nat) : Int))))) (Yields.lt rfl rfl) rfl ?_
  refine snn ?_
  refine St.seq ?_
  refine St.cond_b rfl ?_ ?_
  ·intro q22
   replace q22 : ((s16.2 : Nat) : Int) < ((a0.length : Nat) : Int) := of_decide_eq_true q22
   replace hm := iT hm q22
   refine skn ?_
   obtain ⟨z23, hm, hk26⟩ := bS hm
   refine St.cutI (fun a w => ∃ (F24 : PH), PH.le F20 F24 ∧ Has Tryz.f21.ntmps a [(5, .pointer (some ⟨b8, 0, none⟩)), (15, .slice pA0 a0.length pc0), (16, .int .i64 ((a0.length : Nat) : Int)), (17, .int .i64 ((s16.2 : Nat) : Int))] ∧ Sat ⟨w0, fun b => m0 b ≠ none, F⟩ F24 [bld b8 z23] w) ?_ ?_
   ·skip
    refine St.block ?_
    refine ssr ?_
    obtain ⟨x27, e28, hm⟩ := bS hm
    obtain ⟨p29, cs30, jx31, R32, k33⟩ := (Fsl.mono (PH.le_trans l5 l21) ph0).nidx e28
    obtain ⟨A34, c35, rfl, h36⟩ := DCode.opn R32
    refine sv (v := (.pointer (some p29))) (Yields.idx jx31 ts22 rfl rfl) rfl ?_
    refine sv (v := (.agg #[.string (bs x27.Name), .int .i64 x27.Arity, .slice A34 x27.L.length c35])) (Yields.load rfl (Loads.Fatn0 k33 ta36)) rfl ?_
    refine St.alloc tz36 trivial rfl ?_
    intro b38
    refine St.storen (R := [bld b8 s16.1]) rfl rfl 0 rfl rfl ta36 rfl rfl rfl trivial (cs' := #[.string (bs x27.Name), .int .i64 x27.Arity, .slice A34 x27.L.length c35]) rfl ?_
    refine snn ?_
    refine St.seq ?_
    refine StD.start [9] [blk b38 (.cells #[.string (bs x27.Name), .int .i64 x27.Arity, .slice A34 x27.L.length c35] 36 (0, 0)), bld b8 s16.1] hmix ?_
    refine sdp 0 (v := (.pointer (some ⟨b38, 0, none⟩))) (listed' := #[true, false, false, false, false, false, false, false, false, false]) rfl (fun _ => Yields.fieldAddr (v := (.pointer (some ⟨b38, 0, none⟩))) rfl (fun _ => by kernel_rfl)) rfl (by kernel_rfl) rfl ?_
    refine sdt [0, 2, 3, 4, 7, 8] 1 (v := (.string (bs x27.Name))) (listed' := #[true, true, false, false, false, false, false, false, false, false]) rfl (Yields.load rfl (Loads.H1 0 rfl tc9 rfl)) rfl Among.refl (by kernel_rfl) rfl ?_
    obtain ⟨x39, e40, hm⟩ := bS hm
    refine sdp 2 (v := (.string (bs x39))) (listed' := #[true, true, true, false, false, false, false, false, false, false]) rfl (fun _ => Yields.catStr e40 rfl rfl) rfl (by kernel_rfl) rfl ?_
    obtain ⟨x41, e42, hm⟩ := bS hm
    refine sdp 3 (v := (.string (bs x41))) (listed' := #[true, true, true, true, false, false, false, false, false, false]) rfl (fun _ => Yields.catStr e42 rfl rfl) rfl (by kernel_rfl) rfl ?_
    refine sdp 4 (v := (.pointer (some ⟨b38, 1, none⟩))) (listed' := #[true, true, true, true, true, false, false, false, false, false]) rfl (fun _ => Yields.fieldAddr (v := (.pointer (some ⟨b38, 1, none⟩))) rfl (fun _ => by kernel_rfl)) rfl (by kernel_rfl) rfl ?_
    refine sdt [0, 2, 3, 4, 7, 8] 5 (v := (.int .i64 x27.Arity)) (listed' := #[true, true, true, true, true, true, false, false, false, false]) rfl (Yields.load rfl (Loads.H1 0 rfl tc3 rfl)) rfl Among.refl (by kernel_rfl) rfl ?_
    refine StD.only (i := 6) rfl (by kernel_rfl) (listed' := #[true, true, true, true, true, true, true, false, false, false]) rfl ?_
    intro hcl43
    obtain ⟨q44, e45, hm⟩ := bS hm
    refine St.call [blk b38 (.cells #[.string (bs x27.Name), .int .i64 x27.Arity, .slice A34 x27.L.length c35] 36 (0, 0)), bld b8 s16.1] (x_itoa41_sp e45) rfl (fun _ ha => ev1 ha rfl) rfl en41 rfl rfl trivial ?_
    rintro _ F46 _ ⟨rfl, rfl⟩ l47
    refine StD.next hcl43 (fun _ => (Among.of_le l47 (PH.le_trans l5 l21) (Among.take 0 rfl rfl (Among.take 0 rfl rfl Among.none)))) ?_
    obtain ⟨x48, e49, hm⟩ := bS hm
    refine sdp 7 (v := (.string (bs x48))) (listed' := #[true, true, true, true, true, true, true, true, false, false]) rfl (fun _ => Yields.catStr e49 rfl rfl) rfl (by kernel_rfl) rfl ?_
    obtain ⟨x50, e51, hm⟩ := bS hm
    refine sdp 8 (v := (.string (bs x50))) (listed' := #[true, true, true, true, true, true, true, true, true, false]) rfl (fun _ => Yields.catStr e51 rfl rfl) rfl (by kernel_rfl) rfl ?_
    refine StD.only (i := 9) rfl (by kernel_rfl) (listed' := #[true, true, true, true, true, true, true, true, true, true]) rfl ?_
    intro hcl52
    refine St.pick (R := [blk b38 (.cells #[.string (bs x27.Name), .int .i64 x27.Arity, .slice A34 x27.L.length c35] 36 (0, 0))]) 1 rfl rfl ?_
    obtain ⟨q53, e54, hm⟩ := bS hm
    refine St.call [blk b38 (.cells #[.string (bs x27.Name), .int .i64 x27.Arity, .slice A34 x27.L.length c35] 36 (0, 0))] (x_bwrite_sp e54) rfl (fun _ ha => ev2 ha rfl rfl) rfl en40 rfl rfl trivial ?_
    rintro _ F55 _ ⟨rfl, rfl⟩ l56
    refine StD.next hcl52 (fun h => by cases h) ?_
    refine StD.done (by kernel_rfl) ?_
    refine St.norm ?_
    refine ssr ?_
    refine sfa (v := (.pointer (some ⟨b38, 2, none⟩))) rfl (fun _ => by kernel_rfl) rfl ?_
    refine sv (v := (.slice A34 x27.L.length c35)) (Yields.load rfl (Loads.H1 1 rfl tc34 rfl)) rfl ?_
    refine sv (v := (.int .i64 ((x27.L.length : Nat) : Int))) (Yields.lenSlice tu34 rfl) rfl ?_
    refine smv rfl rfl ?_
    refine snn ?_
    refine St.block ?_
    refine St.loopM hm (fun s60 a w => ∃ (F64 : PH), PH.le F55 F64 ∧ Has Tryz.f21.ntmps a [(5, .pointer (some ⟨b8, 0, none⟩)), (15, .slice pA0 a0.length pc0), (16, .int .i64 ((a0.length : Nat) : Int)), (17, .int .i64 ((s16.2 : Nat) : Int)), (32, .slice A34 x27.L.length c35), (33, .int .i64 ((x27.L.length : Nat) : Int)), (34, .int .i64 ((s60.2 : Nat) : Int))] ∧ Sat ⟨w0, fun b => m0 b ≠ none, F⟩ F64 [bld b8 s60.1] w) ?_ ?_
    ·skip
     intro a w ha hs
     exact ⟨F55, (PH.le_refl _), ha.covers ⟨rfl, rfl, rfl, rfl, rfl, rfl, rfl, trivial⟩, (Among.of (Among.take 0 rfl rfl Among.none) _ hs)⟩
    rintro s60 o61 co62 hm ho63 a w ⟨F64, l65, ha, hs⟩
    refine St.use (?_ : St _ _ _ _ _ _) ha hs
    clear ha hs a w
    refine ssr ?_
    refine sv (v := (.bool (decide (((s60.2 : Nat) : Int) < ((x27.L.length : Nat) : Int))))) (Yields.lt rfl rfl) rfl ?_
    refine snn ?_
    refine St.seq ?_
    refine St.cond_b rfl ?_ ?_
    ·intro q66
     replace q66 : ((s60.2 : Nat) : Int) < ((x27.L.length : Nat) : Int) := of_decide_eq_true q66
     replace hm := iT hm q66
     refine skn ?_
     refine St.seq ?_
     refine St.block ?_
     refine ssr ?_
     obtain ⟨x67, e68, hm⟩ := bS hm
     obtain ⟨p69, cs70, jx71, R72, k73⟩ := (Fsl.mono (PH.le_trans l47 (PH.le_trans l56 l65)) h36).nidx e68
     obtain ⟨A74, c75, A77, c78, rfl, h76, h79⟩ := DInstr.opn R72
     refine sv (v := (.pointer (some p69))) (Yields.idx jx71 ts34 rfl rfl) rfl ?_
     refine sv (v := (.agg #[.int .i64 x67.Op, .int .i64 x67.A, .int .i64 x67.B, .int .i64 x67.N, .string (bs x67.Name), .slice A74 x67.Args.length c75, .slice A77 x67.Cases.length c78])) (Yields.load rfl (Loads.Fatn0 k73 ta40)) rfl ?_
     refine St.alloc tz40 trivial rfl ?_
     intro b82
     refine St.storen (R := [bld b8 s60.1]) rfl rfl 0 rfl rfl ta40 rfl rfl rfl trivial (cs' := #[.int .i64 x67.Op, .int .i64 x67.A, .int .i64 x67.B, .int .i64 x67.N, .string (bs x67.Name), .slice A74 x67.Args.length c75, .slice A77 x67.Cases.length c78]) rfl ?_
     refine snn ?_
     refine St.region ?_
     refine sv (v := (.agg #[.int .i64 x67.Op, .int .i64 x67.A, .int .i64 x67.B, .int .i64 x67.N, .string (bs x67.Name), .slice A74 x67.Args.length c75, .slice A77 x67.Cases.length c78])) (Yields.load rfl (Loads.Hk (vs := [.int .i64 x67.Op, .int .i64 x67.A, .int .i64 x67.B, .int .i64 x67.N, .string (bs x67.Name), .slice A74 x67.Args.length c75, .slice A77 x67.Cases.length c78]) 0 rfl ta40 rfl rfl)) rfl ?_
     obtain ⟨q83, e84, hm⟩ := bS hm
     refine St.call [blk b82 (.cells #[.int .i64 x67.Op, .int .i64 x67.A, .int .i64 x67.B, .int .i64 x67.N, .string (bs x67.Name), .slice A74 x67.Args.length c75, .slice A77 x67.Cases.length c78] 40 (0, 0)), bld b8 s60.1] (m_code_words_sp (a0 := x67) h76 h79 e84) rfl (fun _ ha => ev1 ha rfl) rfl en43 rfl rfl trivial ?_
     rintro _ F85 _ ⟨A87, c88, rfl, h89, rfl⟩ l86
     obtain ⟨q91, e92, hm⟩ := bS hm
     refine St.call [blk b82 (.cells #[.int .i64 x67.Op, .int .i64 x67.A, .int .i64 x67.B, .int .i64 x67.N, .string (bs x67.Name), .slice A74 x67.Args.length c75, .slice A77 x67.Cases.length c78] 40 (0, 0)), bld b8 s60.1] (x_join42_sp h89 e92) rfl (fun _ ha => ev2 ha rfl rfl) rfl en42 rfl rfl trivial ?_
     rintro _ F93 _ ⟨rfl, rfl⟩ l94
     obtain ⟨x95, e96, hm⟩ := bS hm
     refine sv (v := (.string (bs x95))) (Yields.catStr e96 rfl rfl) rfl ?_
     refine St.pick (R := [blk b82 (.cells #[.int .i64 x67.Op, .int .i64 x67.A, .int .i64 x67.B, .int .i64 x67.N, .string (bs x67.Name), .slice A74 x67.Args.length c75, .slice A77 x67.Cases.length c78] 40 (0, 0))]) 1 rfl rfl ?_
     obtain ⟨q97, e98, hm⟩ := bS hm
     refine St.call [blk b82 (.cells #[.int .i64 x67.Op, .int .i64 x67.A, .int .i64 x67.B, .int .i64 x67.N, .string (bs x67.Name), .slice A74 x67.Args.length c75, .slice A77 x67.Cases.length c78] 40 (0, 0))] (x_bwrite_sp e98) rfl (fun _ ha => ev2 ha rfl rfl) rfl en40 rfl rfl trivial ?_
     rintro _ F99 _ ⟨rfl, rfl⟩ l100
     refine St.nil ?_
     refine St.innorm ?_
     refine St.norm ?_
     refine St.region ?_
     refine sv (v := (.int .i64 ((s60.2 + 1 : Nat) : Int))) (Yields.addn (j := 1) rfl rfl rfl (by have q_0 := q66; have q_1 := h36.bnd.2; omega)) rfl ?_
     refine smv rfl rfl ?_
     refine snn ?_
     obtain rfl := sI hm
     intro a w ha hs
     exact ⟨(q97, s60.2 + 1), aL ho63, F99, (PH.le_trans l65 (PH.le_trans l86 (PH.le_trans l94 l100))), ha.covers ⟨rfl, rfl, rfl, rfl, rfl, rfl, rfl, trivial⟩, (Among.of (Among.take 0 rfl rfl Among.none) _ hs)⟩
    intro q101
    replace q101 : ¬ (((s60.2 : Nat) : Int) < ((x27.L.length : Nat) : Int)) := of_decide_eq_false q101
    replace hm := iF hm q101
    refine St.exit ?_
    refine St.thenexit ?_
    refine St.thenexit ?_
    refine St.inexit ?_
    refine St.innorm ?_
    obtain rfl := sI hm
    obtain rfl := aR ho63
    intro a w ha hs
    exact ⟨F64, (PH.le_trans l47 (PH.le_trans l56 l65)), ha.covers ⟨rfl, rfl, rfl, rfl, trivial⟩, (Among.of (Among.take 0 rfl rfl Among.none) _ hs)⟩
   rintro a w ⟨F24, l25, ha, hs⟩
   replace hm := hk26
   refine St.use (?_ : St _ _ _ _ _ _) ha hs
   clear ha hs a w
   refine St.region ?_
   refine sv (v := (.int .i64 ((s16.2 + 1 : Nat) : Int))) (Yields.addn (j := 1) rfl rfl rfl (by have q_0 := q22; have q_1 := ph0.bnd.2; omega)) rfl ?_
   refine smv rfl rfl ?_
   refine snn ?_
   obtain rfl := sI hm
   intro a w ha hs
   exact ⟨(z23, s16.2 + 1), aL ho19, F24, (PH.le_trans l21 l25), ha.covers ⟨rfl, rfl, rfl, rfl, trivial⟩, (Among.of (Among.take 0 rfl rfl Among.none) _ hs)⟩
  intro q102
  replace q102 : ¬ (((s16.2 : Nat) : Int) < ((a0.length : Nat) : Int)) := of_decide_eq_false q102
  replace hm := iF hm q102
  refine St.exit ?_
  refine St.thenexit ?_
  refine St.thenexit ?_
  refine St.inexit ?_
  obtain rfl := sI hm
  obtain rfl := aR ho19
  intro a w ha hs
  exact ⟨F20, l21, ha.covers ⟨rfl, trivial⟩, (Among.of (Among.take 0 rfl rfl Among.none) _ hs)⟩
 rintro a w ⟨F10, l11, ha, hs⟩
 replace hm := hk12
 refine St.use (?_ : St _ _ _ _ _ _) ha hs
 clear ha hs a w
 refine St.seq ?_
 refine ssr ?_
 refine St.pick (R := []) 0 rfl rfl ?_
 refine St.call [] (x_blen_sp) rfl (fun _ ha => ev1 ha rfl) rfl en44 rfl rfl trivial ?_
 rintro _ F103 _ ⟨rfl, rfl⟩ l104
 refine sv (v := (.bool (decide (((z9.length : Nat) : Int) > 20000)))) (Yields.gt rfl rfl) rfl ?_
 refine snn ?_
 refine St.cond_b rfl ?_ ?_
 ·intro q105
  replace q105 : ((z9.length : Nat) : Int) > 20000 := of_decide_eq_true q105
  replace hm := iT hm q105
  refine ssr ?_
  refine sas rfl rfl ?_
  refine sas rfl rfl ?_
  refine snn ?_
  refine St.ret ?_
  refine St.thenret ?_
  obtain rfl := sI hm
  exact St.doneR2 rfl rfl rfl ⟨rfl, rfl⟩ (fun w hs => Among.of Among.none w hs)
 intro q106
 replace q106 : ¬ (((z9.length : Nat) : Int) > 20000) := of_decide_eq_false q106
 replace hm := iF hm q106
 refine skn ?_
 refine ssr ?_
 refine St.pick (R := []) 0 rfl rfl ?_
 obtain ⟨q107, e108, hm⟩ := bS hm
 refine St.call [] (x_bstr_sp e108) rfl (fun _ ha => ev1 ha rfl) rfl en45 rfl rfl trivial ?_
 rintro _ F109 _ ⟨rfl, rfl⟩ l110
 refine sas rfl rfl ?_
 refine sas rfl rfl ?_
 refine snn ?_
 refine St.ret ?_
 obtain rfl := sI hm
 exact St.doneR2 rfl rfl rfl ⟨rfl, rfl⟩ (fun w hs => Among.of Among.none w hs)
theorem m_law14_known_sp {F : PH} {g : Nat} {r : Bool} (hm : m_law14_known g = some r) :
  CallSp Tryz.prog 7 #[] F [] (fun u F' H' => u = (.bool r) ∧ H' = []) := by

 unfold m_law14_known at hm
 refine CallSp.enter (args := []) Tryz.func7 rfl rfl ?_
 intro w0 m0 hm0
 refine ssr ?_
 refine sas rfl rfl ?_
 refine snn ?_
 refine ssr ?_
 refine sas rfl rfl ?_
 refine snn ?_
 refine ssr ?_
 refine smv rfl rfl ?_
 obtain ⟨q1, e2, hm⟩ := bS hm
 refine St.call [] (m_code_Parse_sp e2) rfl (fun _ ha => ev1 ha rfl) rfl en4 rfl rfl trivial ?_
 rintro _ F3 _ ⟨A5, c6, rfl, h7, rfl⟩ l4
 refine smv rfl rfl ?_
 refine sv (v := (.slice A5 q1.1.length c6)) (Yields.extract rfl rfl) rfl ?_
 refine sv (v := (.int .i64 q1.2.1)) (Yields.extract rfl rfl) rfl ?_
 refine sv (v := (.int .i64 q1.2.2)) (Yields.extract rfl rfl) rfl ?_
 refine sas rfl rfl ?_
 refine sas rfl rfl ?_
 refine sas rfl rfl ?_
 refine snn ?_
 refine ssr ?_
 refine smv rfl rfl ?_
 obtain ⟨q9, e10, hm⟩ := bS hm
 refine St.call [] (m_code_Print_sp h7 e10) rfl (fun _ ha => ev1 ha rfl) rfl en21 rfl rfl trivial ?_
 rintro _ F11 _ ⟨rfl, rfl⟩ l12
 refine smv rfl rfl ?_
 refine sv (v := (.string (bs q9.1))) (Yields.extract rfl rfl) rfl ?_
 refine sv (v := (.int .i64 q9.2)) (Yields.extract rfl rfl) rfl ?_
 refine sas rfl rfl ?_
 refine sas rfl rfl ?_
 refine snn ?_
 obtain ⟨z13, hm, hk14⟩ := bS hm
 refine St.cutI (fun a w => Has Tryz.f7.ntmps a [(0, .bool z13)] ∧ Sat ⟨w0, fun b => m0 b ≠ none, F⟩ F11 [] w) ?_ ?_
 ·skip
  refine St.region ?_
  refine smv rfl rfl ?_
  by_cases q15 : q1.2.2 = 0
  ·replace hm := iT hm q15
   refine sv (v := vT) (Yields.is q15 (Yields.eq rfl rfl)) rfl ?_
   refine smv rfl rfl ?_
   refine St.val (v := (.int .i64 q1.2.1)) (Yields.move rfl) rfl rfl rfl ?_
   by_cases q16 : q1.2.1 = 0
   ·replace hm := iT hm q16
    refine St.val (v := vT) (Yields.is q16 (Yields.eq rfl rfl)) rfl rfl rfl ?_
    refine spt rfl rfl rfl ?_
    refine smv rfl rfl ?_
    refine St.val (v := (.int .i64 q9.2)) (Yields.move rfl) rfl rfl rfl ?_
    by_cases q17 : q9.2 = 0
    ·replace hm := iT hm q17
     refine St.val (v := vT) (Yields.is q17 (Yields.eq rfl rfl)) rfl rfl rfl ?_
     refine spt rfl rfl rfl ?_
     refine smv rfl rfl ?_
     refine St.val (v := (.string (bs [99, 111, 100, 101, 32, 110, 111, 116, 32, 49, 10, 109, 97, 116, 99, 104, 32, 48, 32, 48, 32, 70, 97, 108, 115, 101, 58, 49, 32, 84, 114, 117, 101, 58, 51, 10, 110, 111, 100, 101, 32, 99, 111, 110, 32, 84, 114, 117, 101, 10, 101, 110, 100, 32, 49, 10, 110, 111, 100, 101, 32, 99, 111, 110, 32, 70, 97, 108, 115, 101, 10, 101, 110, 100, 32, 49, 10]))) (Yields.move rfl) rfl rfl rfl ?_
     refine St.val (v := (.string (bs q9.1))) (Yields.move rfl) rfl rfl rfl ?_
     by_cases q18 : ([99, 111, 100, 101, 32, 110, 111, 116, 32, 49, 10, 109, 97, 116, 99, 104, 32, 48, 32, 48, 32, 70, 97, 108, 115, 101, 58, 49, 32, 84, 114, 117, 101, 58, 51, 10, 110, 111, 100, 101, 32, 99, 111, 110, 32, 84, 114, 117, 101, 10, 101, 110, 100, 32, 49, 10, 110, 111, 100, 101, 32, 99, 111, 110, 32, 70, 97, 108, 115, 101, 10, 101, 110, 100, 32, 49, 10] : List UInt8) = q9.1
     ·replace hm := iT hm q18
      refine St.val (v := vT) (Yields.is q18 (Yields.eqStr rfl rfl)) rfl rfl rfl ?_
      refine spt rfl rfl rfl ?_
      refine smv rfl rfl ?_
      refine St.val (v := (.slice A5 q1.1.length c6)) (Yields.move rfl) rfl rfl rfl ?_
      refine St.val (v := (.int .i64 ((q1.1.length : Nat) : Int))) (Yields.lenSlice tu22 rfl) rfl rfl rfl ?_
      by_cases q19 : ((q1.1.length : Nat) : Int) = 1
      ·replace hm := iT hm q19
       refine St.val (v := vT) (Yields.is q19 (Yields.eq rfl rfl)) rfl rfl rfl ?_
       refine spt rfl rfl rfl ?_
       refine smv rfl rfl ?_
       refine St.val (v := (.slice A5 q1.1.length c6)) (Yields.move rfl) rfl rfl rfl ?_
       obtain ⟨x20, e21, hm⟩ := bS hm
       replace e21 := nlit e21
       obtain ⟨p22, cs23, jx24, R25, k26⟩ := (Fsl.mono l12 h7).idx e21
       obtain ⟨A27, c28, rfl, h29⟩ := DCode.opn R25
       refine St.val (v := (.pointer (some p22))) (Yields.idx jx24 ts22 rfl rfl) rfl rfl rfl ?_
       refine St.val (v := (.pointer (some (p22.add 2)))) (Yields.fieldAddr (v := (.pointer (some (p22.add 2)))) rfl (fun _ => by kernel_rfl)) rfl rfl rfl ?_
       refine St.val (v := (.slice A27 x20.L.length c28)) (Yields.load rfl (Loads.Fatk 2 k26 tc34 rfl)) rfl rfl rfl ?_
       refine St.val (v := (.int .i64 ((x20.L.length : Nat) : Int))) (Yields.lenSlice tu34 rfl) rfl rfl rfl ?_
       refine St.val (v := (.bool (decide (((x20.L.length : Nat) : Int) = 5)))) (Yields.eq rfl rfl) rfl rfl rfl ?_
       refine spt rfl rfl rfl ?_
       refine sas rfl rfl ?_
       refine St.nil ?_
       obtain rfl := sI hm
       intro a w ha hs
       exact ⟨ha.covers ⟨rfl, trivial⟩, (Among.of Among.none _ hs)⟩
      replace hm := iF hm q19
      refine St.val (v := vF) (Yields.isnt q19 (Yields.eq rfl rfl)) rfl rfl rfl ?_
      refine spt rfl rfl rfl ?_
      refine smv rfl rfl ?_
      refine su rfl rfl rfl ?_
      refine su rfl rfl rfl ?_
      refine su rfl rfl rfl ?_
      refine su rfl rfl rfl ?_
      refine su rfl rfl rfl ?_
      refine su rfl rfl rfl ?_
      refine spf rfl rfl rfl ?_
      refine sas rfl rfl ?_
      refine St.nil ?_
      obtain rfl := sI hm
      intro a w ha hs
      exact ⟨ha.covers ⟨rfl, trivial⟩, (Among.of Among.none _ hs)⟩
     replace hm := iF hm q18
     refine St.val (v := vF) (Yields.isnt q18 (Yields.eqStr rfl rfl)) rfl rfl rfl ?_
     refine spt rfl rfl rfl ?_
     refine smv rfl rfl ?_
     refine su rfl rfl rfl ?_
     refine su rfl rfl rfl ?_
     refine su rfl rfl rfl ?_
     refine spf rfl rfl rfl ?_
     refine smv rfl rfl ?_
     refine su rfl rfl rfl ?_
     refine su rfl rfl rfl ?_
     refine su rfl rfl rfl ?_
     refine su rfl rfl rfl ?_
     refine su rfl rfl rfl ?_
     refine su rfl rfl rfl ?_
     refine spf rfl rfl rfl ?_
     refine sas rfl rfl ?_
     refine St.nil ?_
     obtain rfl := sI hm
     intro a w ha hs
     exact ⟨ha.covers ⟨rfl, trivial⟩, (Among.of Among.none _ hs)⟩
    replace hm := iF hm q17
    refine St.val (v := vF) (Yields.isnt q17 (Yields.eq rfl rfl)) rfl rfl rfl ?_
    refine spt rfl rfl rfl ?_
    refine smv rfl rfl ?_
    refine su rfl rfl rfl ?_
    refine su rfl rfl rfl ?_
    refine su rfl rfl rfl ?_
    refine spf rfl rfl rfl ?_
    refine smv rfl rfl ?_
    refine su rfl rfl rfl ?_
    refine su rfl rfl rfl ?_
    refine su rfl rfl rfl ?_
    refine spf rfl rfl rfl ?_
    refine smv rfl rfl ?_
    refine su rfl rfl rfl ?_
    refine su rfl rfl rfl ?_
    refine su rfl rfl rfl ?_
    refine su rfl rfl rfl ?_
    refine su rfl rfl rfl ?_
    refine su rfl rfl rfl ?_
    refine spf rfl rfl rfl ?_
    refine sas rfl rfl ?_
    refine St.nil ?_
    obtain rfl := sI hm
    intro a w ha hs
    exact ⟨ha.covers ⟨rfl, trivial⟩, (Among.of Among.none _ hs)⟩
   replace hm := iF hm q16
   refine St.val (v := vF) (Yields.isnt q16 (Yields.eq rfl rfl)) rfl rfl rfl ?_
   refine spt rfl rfl rfl ?_
   refine smv rfl rfl ?_
   refine su rfl rfl rfl ?_
   refine su rfl rfl rfl ?_
   refine spf rfl rfl rfl ?_
   refine smv rfl rfl ?_
   refine su rfl rfl rfl ?_
   refine su rfl rfl rfl ?_
   refine su rfl rfl rfl ?_
   refine spf rfl rfl rfl ?_
   refine smv rfl rfl ?_
   refine su rfl rfl rfl ?_
   refine su rfl rfl rfl ?_
   refine su rfl rfl rfl ?_
   refine spf rfl rfl rfl ?_
   refine smv rfl rfl ?_
   refine su rfl rfl rfl ?_
   refine su rfl rfl rfl ?_
   refine su rfl rfl rfl ?_
   refine su rfl rfl rfl ?_
   refine su rfl rfl rfl ?_
   refine su rfl rfl rfl ?_
   refine spf rfl rfl rfl ?_
   refine sas rfl rfl ?_
   refine St.nil ?_
   obtain rfl := sI hm
   intro a w ha hs
   exact ⟨ha.covers ⟨rfl, trivial⟩, (Among.of Among.none _ hs)⟩
  replace hm := iF hm q15
  refine sv (v := vF) (Yields.isnt q15 (Yields.eq rfl rfl)) rfl ?_
  refine smv rfl rfl ?_
  refine su rfl rfl rfl ?_
  refine su rfl rfl rfl ?_
  refine spf rfl rfl rfl ?_
  refine smv rfl rfl ?_
  refine su rfl rfl rfl ?_
  refine su rfl rfl rfl ?_
  refine spf rfl rfl rfl ?_
  refine smv rfl rfl ?_
  refine su rfl rfl rfl ?_
  refine su rfl rfl rfl ?_
  refine su rfl rfl rfl ?_
  refine spf rfl rfl rfl ?_
  refine smv rfl rfl ?_
  refine su rfl rfl rfl ?_
  refine su rfl rfl rfl ?_
  refine su rfl rfl rfl ?_
  refine spf rfl rfl rfl ?_
  refine smv rfl rfl ?_
  refine su rfl rfl rfl ?_
  refine su rfl rfl rfl ?_
  refine su rfl rfl rfl ?_
  refine su rfl rfl rfl ?_
  refine su rfl rfl rfl ?_
  refine su rfl rfl rfl ?_
  refine spf rfl rfl rfl ?_
  refine sas rfl rfl ?_
  refine St.nil ?_
  obtain rfl := sI hm
  intro a w ha hs
  exact ⟨ha.covers ⟨rfl, trivial⟩, (Among.of Among.none _ hs)⟩
 rintro a w ⟨ha, hs⟩
 replace hm := hk14
 refine St.use (?_ : St _ _ _ _ _ _) ha hs
 clear ha hs a w
 refine St.ret ?_
 obtain rfl := sI hm
 exact St.doneR1 rfl rfl ⟨rfl, rfl⟩ (fun w hs => Among.of Among.none w hs)
theorem m_law14_CodeReads_sp {F : PH} {g : Nat} {a0 : List UInt8} {r : Bool} (hm : m_law14_CodeReads g a0 = some r) :
  CallSp Tryz.prog 3 #[.string (bs a0)] F [] (fun u F' H' => u = (.bool r) ∧ H' = []) := by

 unfold m_law14_CodeReads at hm
 refine CallSp.enter (args := [.string (bs a0)]) Tryz.func3 rfl rfl ?_
 intro w0 m0 hm0
 refine ssr ?_
 refine sas rfl rfl ?_
 refine snn ?_
 refine ssr ?_
 refine smv rfl rfl ?_
 obtain ⟨q1, e2, hm⟩ := bS hm
 refine St.call [] (m_code_Parse_sp e2) rfl (fun _ ha => ev1 ha rfl) rfl en4 rfl rfl trivial ?_
 rintro _ F3 _ ⟨A5, c6, rfl, h7, rfl⟩ l4
 refine smv rfl rfl ?_
 refine sv (v := (.slice A5 q1.1.length c6)) (Yields.extract rfl rfl) rfl ?_
 refine sv (v := (.int .i64 q1.2.1)) (Yields.extract rfl rfl) rfl ?_
 refine sv (v := (.int .i64 q1.2.2)) (Yields.extract rfl rfl) rfl ?_
 refine sas rfl rfl ?_
 refine sas rfl rfl ?_
 refine sas rfl rfl ?_
 refine snn ?_
 refine ssr ?_
 refine smv rfl rfl ?_
 obtain ⟨q9, e10, hm⟩ := bS hm
 refine St.call [] (m_ref14_Parse_sp e10) rfl (fun _ ha => ev1 ha rfl) rfl en5 rfl rfl trivial ?_
 rintro _ F11 _ ⟨A13, c14, rfl, h15, rfl⟩ l12
 refine smv rfl rfl ?_
 refine sv (v := (.slice A13 q9.1.length c14)) (Yields.extract rfl rfl) rfl ?_
 refine sv (v := (.int .i64 q9.2.1)) (Yields.extract rfl rfl) rfl ?_
 refine sv (v := (.int .i64 q9.2.2)) (Yields.extract rfl rfl) rfl ?_
 refine sas rfl rfl ?_
 refine sas rfl rfl ?_
 refine sas rfl rfl ?_
 refine snn ?_
 obtain ⟨z17, hm, hk20⟩ := bS hm
 refine St.cutI (fun a w => ∃ (F18 : PH), PH.le F11 F18 ∧ Has Tryz.f3.ntmps a [(2, .bool z17)] ∧ Sat ⟨w0, fun b => m0 b ≠ none, F⟩ F18 [] w) ?_ ?_
 ·skip
  refine St.region ?_
  refine smv rfl rfl ?_
  refine smv rfl rfl ?_
  obtain ⟨q21, e22, hm⟩ := bS hm
  refine St.call [] (m_law14_same_sp (Fsl.mono l12 h7) h15 e22) rfl (fun _ ha => ev2 ha rfl rfl) rfl en6 rfl rfl trivial ?_
  rintro _ F23 _ ⟨rfl, rfl⟩ l24
  by_cases q25 : q21 = true
  ·replace hm := iT hm q25
   have hb26 : (q21) = true := q25
   try rw [hb26]
   refine smv rfl rfl ?_
   refine St.val (v := (.int .i64 q1.2.1)) (Yields.move rfl) rfl rfl rfl ?_
   refine St.val (v := (.int .i64 q9.2.1)) (Yields.move rfl) rfl rfl rfl ?_
   by_cases q27 : q1.2.1 = q9.2.1
   ·replace hm := iT hm q27
    refine St.val (v := vT) (Yields.is q27 (Yields.eq rfl rfl)) rfl rfl rfl ?_
    refine spt rfl rfl rfl ?_
    refine smv rfl rfl ?_
    refine St.val (v := (.int .i64 q1.2.2)) (Yields.move rfl) rfl rfl rfl ?_
    refine St.val (v := (.int .i64 q9.2.2)) (Yields.move rfl) rfl rfl rfl ?_
    by_cases q28 : q1.2.2 = q9.2.2
    ·replace hm := iT hm q28
     refine St.val (v := vT) (Yields.is q28 (Yields.eq rfl rfl)) rfl rfl rfl ?_
     refine spt rfl rfl rfl ?_
     refine smv rfl rfl ?_
     obtain ⟨q29, e30, hm⟩ := bS hm
     refine St.call [] (m_law14_known_sp e30) rfl (fun _ _ => ev0) rfl en7 rfl rfl rfl ?_
     rintro _ F31 _ ⟨rfl, rfl⟩ l32
     refine spt rfl rfl rfl ?_
     refine sas rfl rfl ?_
     refine St.nil ?_
     obtain rfl := sI hm
     intro a w ha hs
     exact ⟨F31, (PH.le_trans l24 l32), ha.covers ⟨rfl, trivial⟩, (Among.of Among.none _ hs)⟩
    replace hm := iF hm q28
    refine St.val (v := vF) (Yields.isnt q28 (Yields.eq rfl rfl)) rfl rfl rfl ?_
    refine spt rfl rfl rfl ?_
    refine smv rfl rfl ?_
    refine su rfl rfl rfl ?_
    refine spf rfl rfl rfl ?_
    refine sas rfl rfl ?_
    refine St.nil ?_
    obtain rfl := sI hm
    intro a w ha hs
    exact ⟨F23, l24, ha.covers ⟨rfl, trivial⟩, (Among.of Among.none _ hs)⟩
   replace hm := iF hm q27
   refine St.val (v := vF) (Yields.isnt q27 (Yields.eq rfl rfl)) rfl rfl rfl ?_
   refine spt rfl rfl rfl ?_
   refine smv rfl rfl ?_
   refine su rfl rfl rfl ?_
   refine su rfl rfl rfl ?_
   refine su rfl rfl rfl ?_
   refine spf rfl rfl rfl ?_
   refine smv rfl rfl ?_
   refine su rfl rfl rfl ?_
   refine spf rfl rfl rfl ?_
   refine sas rfl rfl ?_
   refine St.nil ?_
   obtain rfl := sI hm
   intro a w ha hs
   exact ⟨F23, l24, ha.covers ⟨rfl, trivial⟩, (Among.of Among.none _ hs)⟩
  replace hm := iF hm q25
  have hb33 : (q21) = false := eq_false_of_ne_true q25
  try rw [hb33]
  refine smv rfl rfl ?_
  refine su rfl rfl rfl ?_
  refine su rfl rfl rfl ?_
  refine su rfl rfl rfl ?_
  refine spf rfl rfl rfl ?_
  refine smv rfl rfl ?_
  refine su rfl rfl rfl ?_
  refine su rfl rfl rfl ?_
  refine su rfl rfl rfl ?_
  refine spf rfl rfl rfl ?_
  refine smv rfl rfl ?_
  refine su rfl rfl rfl ?_
  refine spf rfl rfl rfl ?_
  refine sas rfl rfl ?_
  refine St.nil ?_
  obtain rfl := sI hm
  intro a w ha hs
  exact ⟨F23, l24, ha.covers ⟨rfl, trivial⟩, (Among.of Among.none _ hs)⟩
 rintro a w ⟨F18, l19, ha, hs⟩
 replace hm := hk20
 refine St.use (?_ : St _ _ _ _ _ _) ha hs
 clear ha hs a w
 refine St.ret ?_
 obtain rfl := sI hm
 exact St.doneR1 rfl rfl ⟨rfl, rfl⟩ (fun w hs => Among.of Among.none w hs)
end Go.Proofs.YtefclodjekeeiaaGreatDoor
