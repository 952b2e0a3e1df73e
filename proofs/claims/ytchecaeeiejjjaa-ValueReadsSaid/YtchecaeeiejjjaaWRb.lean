/- Each function does what its plain words tell. -/
import Derived.Test.YtchecaeeiejjjaaWRa
namespace Go.Proofs.Ytchecaeeiejjjaa
open Go Go.Sy Go.RowKit
set_option linter.unusedVariables false
open Go.Mir
abbrev m_value_isRight_f1_S (g : Nat) : Prop := ∀ {F : PH} {a0 : DValue} {pA0_0 : Option Addr} {pc0_0 : Nat} (ph0_0 : Fsl 56 KDValue F pA0_0 pc0_0 a0.Kids) {r : Bool} (_ : m_value_isRight_f1 g a0 = some r),
    CallSp Try.prog 92 #[.agg #[.int .i64 a0.Op, .string (bs a0.Name), .int .i64 a0.N, .slice pA0_0 a0.Kids.length pc0_0]] F [] (fun u F' H' => u = (.bool r) ∧ H' = [])
abbrev m_api_Value_4_S (g : Nat) : Prop := ∀ {F : PH} {a0 : List DValue} {pA0 : Option Addr} {pc0 : Nat} (ph0 : Fsl 56 KDValue F pA0 pc0 a0) {r : Int} (_ : m_api_Value_4 g a0 = some r),
    CallSp Try.prog 102 #[.slice pA0 a0.length pc0, .func (.func 92) #[] #[]] F [] (fun u F' H' => u = (.int .i64 r) ∧ H' = [])
abbrev m_api_Value_3_S (g : Nat) : Prop := ∀ {F : PH} {a0 : List DValue} {pA0 : Option Addr} {pc0 : Nat} (ph0 : Fsl 56 KDValue F pA0 pc0 a0) {r : Bool} (_ : m_api_Value_3 g a0 = some r),
    CallSp Try.prog 90 #[.slice pA0 a0.length pc0, .func (.func 92) #[] #[]] F [] (fun u F' H' => u = (.bool r) ∧ H' = [])
abbrev m_value_isRight_S (g : Nat) : Prop := ∀ {F : PH} {a0 : DValue} {pA0_0 : Option Addr} {pc0_0 : Nat} (ph0_0 : Fsl 56 KDValue F pA0_0 pc0_0 a0.Kids) {r : Bool} (_ : m_value_isRight g a0 = some r),
    CallSp Try.prog 66 #[.agg #[.int .i64 a0.Op, .string (bs a0.Name), .int .i64 a0.N, .slice pA0_0 a0.Kids.length pc0_0]] F [] (fun u F' H' => u = (.bool r) ∧ H' = [])
theorem m_value_isRight_f1_st {g : Nat} (ih_m_value_isRight_f1 : m_value_isRight_f1_S g) (ih_m_api_Value_4 : m_api_Value_4_S g) (ih_m_api_Value_3 : m_api_Value_3_S g) (ih_m_value_isRight : m_value_isRight_S g) : m_value_isRight_f1_S (g + 1) := by
  intro F a0 pA0_0 pc0_0 ph0_0 r hm
  rw [m_value_isRight_f1] at hm
  refine CallSp.enter (args := [.agg #[.int .i64 a0.Op, .string (bs a0.Name), .int .i64 a0.N, .slice pA0_0 a0.Kids.length pc0_0]]) Try.func92 rfl rfl ?_
  intro w0 m0 hm0
  refine St.seq ?_
  refine St.region ?_
  refine St.box rfl trivial rfl ?_
  intro b2
  refine St.val (v := (.bool false)) (Yields.assign rfl) trivial rfl rfl ?_
  refine St.nil ?_
  refine St.norm ?_
  refine St.seq ?_
  refine St.region ?_
  refine St.val (v := (.agg #[.int .i64 a0.Op, .string (bs a0.Name), .int .i64 a0.N, .slice pA0_0 a0.Kids.length pc0_0])) (Yields.load rfl (Loads.Hk (vs := [.int .i64 a0.Op, .string (bs a0.Name), .int .i64 a0.N, .slice pA0_0 a0.Kids.length pc0_0]) 0 rfl ta24 rfl rfl)) trivial rfl rfl ?_
  obtain ⟨q3, e4, hm⟩ := bS hm
  refine St.call [blk b2 (.cells #[.int .i64 a0.Op, .string (bs a0.Name), .int .i64 a0.N, .slice pA0_0 a0.Kids.length pc0_0] 24 (0, 0))] (ih_m_value_isRight (a0 := a0) ph0_0 e4) rfl (fun _ ha => ev1 ha rfl) rfl en66 rfl rfl trivial ?_
  rintro _ F5 _ ⟨rfl, rfl⟩ l6
  refine St.val (v := (.bool (!q3))) (Yields.not rfl) trivial rfl rfl ?_
  refine St.val (v := (.bool (!q3))) (Yields.assign rfl) trivial rfl rfl ?_
  refine St.nil ?_
  refine St.norm ?_
  refine St.ret ?_
  obtain rfl := sI hm
  exact St.doneR1 rfl rfl ⟨rfl, rfl⟩ (fun w hs => Among.of Among.none w hs)

theorem m_api_Value_4_st {g : Nat} (ih_m_value_isRight_f1 : m_value_isRight_f1_S g) (ih_m_api_Value_4 : m_api_Value_4_S g) (ih_m_api_Value_3 : m_api_Value_3_S g) (ih_m_value_isRight : m_value_isRight_S g) : m_api_Value_4_S (g + 1) := by
  intro F a0 pA0 pc0 ph0 r hm
  rw [m_api_Value_4] at hm
  refine CallSp.enter (args := [.slice pA0 a0.length pc0, .func (.func 92) #[] #[]]) Try.func102 rfl rfl ?_
  intro w0 m0 hm0
  refine St.seq ?_
  refine St.region ?_
  refine St.val (v := (.int .i64 0)) (Yields.assign rfl) trivial rfl rfl ?_
  refine St.nil ?_
  refine St.norm ?_
  obtain ⟨o5, hm, ho6⟩ := jS hm
  refine St.cutI (fun a w => ∃ z2 : Unit, o5 = .inl z2 ∧ ∃ (F3 : PH), PH.le F F3 ∧ Has Try.f102.ntmps a [] ∧ Sat ⟨w0, fun b => m0 b ≠ none, F⟩ F3 [] w) ?_ ?_
  · skip
    refine St.seq ?_
    refine St.region ?_
    refine St.val (v := (.slice pA0 a0.length pc0)) (Yields.move rfl) trivial rfl rfl ?_
    refine St.val (v := (.int .i64 ((a0.length : Nat) : Int))) (Yields.lenSlice tu22 rfl) trivial rfl rfl ?_
    refine St.val (v := (.int .i64 0)) (Yields.move rfl) trivial rfl rfl ?_
    refine St.nil ?_
    refine St.norm ?_
    refine St.block ?_
    refine St.loopM hm (fun s9 a w => ∃ (F13 : PH), PH.le F F13 ∧ Has Try.f102.ntmps a [(0, .slice pA0 a0.length pc0), (1, .func (.func 92) #[] #[]), (7, .int .i64 ((a0.length : Nat) : Int)), (8, .int .i64 ((s9 : Nat) : Int))] ∧ Sat ⟨w0, fun b => m0 b ≠ none, F⟩ F13 [] w) ?_ ?_
    · skip
      intro a w ha hs
      exact ⟨F, (PH.le_refl _), ha.covers ⟨rfl, rfl, rfl, rfl, trivial⟩, (Among.of Among.none _ hs)⟩
    · rintro s9 o10 co11 hm ho12 a w ⟨F13, l14, ha, hs⟩
      refine St.use (?_ : St _ _ _ _ _ _) ha hs
      clear ha hs a w
      refine St.seq ?_
      refine St.region ?_
      refine St.val (v := (.bool (decide (((s9 : Nat) : Int) < ((a0.length : Nat) : Int))))) (Yields.lt rfl rfl) trivial rfl rfl ?_
      refine St.nil ?_
      refine St.norm ?_
      refine St.seq ?_
      refine St.cond_b rfl ?_ ?_
      · intro q15
        replace q15 : ((s9 : Nat) : Int) < ((a0.length : Nat) : Int) := of_decide_eq_true q15
        replace hm := iT hm q15
        refine St.skip ?_
        refine St.norm ?_
        refine St.seq ?_
        refine St.block ?_
        refine St.seq ?_
        refine St.region ?_
        refine St.val (v := (.int .i64 ((s9 : Nat) : Int))) (Yields.move rfl) trivial rfl rfl ?_
        refine St.val (v := (.int .i64 ((s9 : Nat) : Int))) (Yields.assign rfl) trivial rfl rfl ?_
        refine St.nil ?_
        refine St.norm ?_
        refine St.seq ?_
        refine St.region ?_
        refine St.val (v := (.func (.func 92) #[] #[])) (Yields.move rfl) trivial rfl rfl ?_
        refine St.val (v := (.slice pA0 a0.length pc0)) (Yields.move rfl) trivial rfl rfl ?_
        refine St.val (v := (.int .i64 ((s9 : Nat) : Int))) (Yields.move rfl) trivial rfl rfl ?_
        obtain ⟨x16, e17, hm⟩ := bS hm
        obtain ⟨p18, cs19, jx20, R21, k22⟩ := (Fsl.mono l14 ph0).nidx e17
        obtain ⟨A23, c24, rfl, h25⟩ := DValue.opn R21
        refine St.val (v := (.pointer (some p18))) (Yields.idx jx20 ts22 rfl rfl) trivial rfl rfl ?_
        refine St.val (v := (.agg #[.int .i64 x16.Op, .string (bs x16.Name), .int .i64 x16.N, .slice A23 x16.Kids.length c24])) (Yields.load rfl (Loads.Fatn0 k22 ta24)) trivial rfl rfl ?_
        obtain ⟨q27, e28, hm⟩ := bS hm
        refine St.call [] (ih_m_value_isRight_f1 (a0 := x16) h25 e28) rfl (fun _ ha => ev1 ha rfl) rfl en92 rfl rfl trivial ?_
        rintro _ F29 _ ⟨rfl, rfl⟩ l30
        refine St.nil ?_
        refine St.norm ?_
        refine St.cond_b rfl ?_ ?_
        · intro q31
          replace q31 : q27 = true := q31
          replace hm := iT hm q31
          refine St.seq ?_
          refine St.region ?_
          refine St.val (v := (.int .i64 ((s9 : Nat) : Int))) (Yields.move rfl) trivial rfl rfl ?_
          refine St.val (v := (.int .i64 ((s9 : Nat) : Int))) (Yields.assign rfl) trivial rfl rfl ?_
          refine St.nil ?_
          refine St.norm ?_
          refine St.ret ?_
          refine St.inret ?_
          refine St.thenret ?_
          refine St.thenret ?_
          refine St.inret ?_
          refine St.thenret ?_
          obtain rfl := sI hm
          obtain rfl := aR ho12
          obtain rfl := aR ho6
          exact St.doneR1 rfl rfl ⟨rfl, rfl⟩ (fun w hs => Among.of Among.none w hs)
        · intro q32
          replace q32 : ¬ (q27 = true) := bf q32
          replace hm := iF hm q32
          refine St.skip ?_
          refine St.innorm ?_
          refine St.norm ?_
          refine St.region ?_
          refine St.val (v := (.int .i64 ((s9 + 1 : Nat) : Int))) (Yields.addn (j := 1) rfl rfl rfl (by have q_0 := q15; have q_1 := ph0.bnd.2; omega)) trivial rfl rfl ?_
          refine St.val (v := (.int .i64 ((s9 + 1 : Nat) : Int))) (Yields.move rfl) trivial rfl rfl ?_
          refine St.nil ?_
          refine St.norm ?_
          obtain rfl := sI hm
          intro a w ha hs
          exact ⟨s9 + 1, aL ho12, F29, (PH.le_trans l14 l30), ha.covers ⟨rfl, rfl, rfl, rfl, trivial⟩, (Among.of Among.none _ hs)⟩
      · intro q33
        replace q33 : ¬ (((s9 : Nat) : Int) < ((a0.length : Nat) : Int)) := of_decide_eq_false q33
        replace hm := iF hm q33
        refine St.exit ?_
        refine St.thenexit ?_
        refine St.thenexit ?_
        refine St.inexit ?_
        obtain rfl := sI hm
        obtain rfl := aR ho12
        intro a w ha hs
        exact ⟨(), rfl, F13, l14, ha.covers trivial, (Among.of Among.none _ hs)⟩
  · rintro a w ⟨z2, rfl, F3, l4, ha, hs⟩
    replace hm := aL ho6
    refine St.use (?_ : St _ _ _ _ _ _) ha hs
    clear ha hs a w
    refine St.seq ?_
    refine St.region ?_
    refine St.val (v := (.int .i64 (-1))) (Yields.assign rfl) trivial rfl rfl ?_
    refine St.nil ?_
    refine St.norm ?_
    refine St.ret ?_
    obtain rfl := sI hm
    exact St.doneR1 rfl rfl ⟨rfl, rfl⟩ (fun w hs => Among.of Among.none w hs)

theorem m_api_Value_3_st {g : Nat} (ih_m_value_isRight_f1 : m_value_isRight_f1_S g) (ih_m_api_Value_4 : m_api_Value_4_S g) (ih_m_api_Value_3 : m_api_Value_3_S g) (ih_m_value_isRight : m_value_isRight_S g) : m_api_Value_3_S (g + 1) := by
  intro F a0 pA0 pc0 ph0 r hm
  rw [m_api_Value_3] at hm
  refine CallSp.enter (args := [.slice pA0 a0.length pc0, .func (.func 92) #[] #[]]) Try.func90 rfl rfl ?_
  intro w0 m0 hm0
  refine St.seq ?_
  refine St.region ?_
  refine St.val (v := (.bool false)) (Yields.assign rfl) trivial rfl rfl ?_
  refine St.nil ?_
  refine St.norm ?_
  refine St.seq ?_
  refine St.region ?_
  refine St.val (v := (.slice pA0 a0.length pc0)) (Yields.move rfl) trivial rfl rfl ?_
  refine St.val (v := (.func (.func 92) #[] #[])) (Yields.move rfl) trivial rfl rfl ?_
  obtain ⟨q2, e3, hm⟩ := bS hm
  refine St.call [] (ih_m_api_Value_4 ph0 e3) rfl (fun _ ha => ev2 ha rfl rfl) rfl en102 rfl rfl trivial ?_
  rintro _ F4 _ ⟨rfl, rfl⟩ l5
  refine St.val (v := (.bool (decide (q2 ≥ 0)))) (Yields.ge rfl rfl) trivial rfl rfl ?_
  refine St.val (v := (.bool (decide (q2 ≥ 0)))) (Yields.assign rfl) trivial rfl rfl ?_
  refine St.nil ?_
  refine St.norm ?_
  refine St.ret ?_
  obtain rfl := sI hm
  exact St.doneR1 rfl rfl ⟨rfl, rfl⟩ (fun w hs => Among.of Among.none w hs)

theorem m_value_isRight_st {g : Nat} (ih_m_value_isRight_f1 : m_value_isRight_f1_S g) (ih_m_api_Value_4 : m_api_Value_4_S g) (ih_m_api_Value_3 : m_api_Value_3_S g) (ih_m_value_isRight : m_value_isRight_S g) : m_value_isRight_S (g + 1) := by
  intro F a0 pA0_0 pc0_0 ph0_0 r hm
  rw [m_value_isRight] at hm
  refine CallSp.enter (args := [.agg #[.int .i64 a0.Op, .string (bs a0.Name), .int .i64 a0.N, .slice pA0_0 a0.Kids.length pc0_0]]) Try.func66 rfl rfl ?_
  intro w0 m0 hm0
  refine St.seq ?_
  refine St.region ?_
  refine St.box rfl trivial rfl ?_
  intro b2
  refine St.val (v := (.bool false)) (Yields.assign rfl) trivial rfl rfl ?_
  refine St.nil ?_
  refine St.norm ?_
  refine St.seq ?_
  refine St.region ?_
  refine St.val (v := (.bool false)) (Yields.assign rfl) trivial rfl rfl ?_
  refine St.nil ?_
  refine St.norm ?_
  obtain ⟨z3, hm, hk6⟩ := bS hm
  refine St.cutI (fun a w => ∃ (F4 : PH), PH.le F F4 ∧ Has Try.f66.ntmps a [(1, .pointer (some ⟨b2, 0, none⟩)), (3, .bool z3)] ∧ Sat ⟨w0, fun b => m0 b ≠ none, F⟩ F4 [blk b2 (.cells #[.int .i64 a0.Op, .string (bs a0.Name), .int .i64 a0.N, .slice pA0_0 a0.Kids.length pc0_0] 24 (0, 0))] w) ?_ ?_
  · skip
    refine St.seq ?_
    refine St.region ?_
    refine St.val (v := (.pointer (some ⟨b2, 0, none⟩))) (Yields.fieldAddr (v := (.pointer (some ⟨b2, 0, none⟩))) rfl (fun _ => by kernel_rfl)) trivial rfl rfl ?_
    refine St.val (v := (.int .i64 a0.Op)) (Yields.load rfl (Loads.H1 0 rfl tc3 rfl)) trivial rfl rfl ?_
    refine St.nil ?_
    refine St.norm ?_
    refine St.block ?_
    refine St.seq ?_
    refine St.region ?_
    refine St.val (v := (.bool (decide (a0.Op = 1)))) (Yields.eq rfl rfl) trivial rfl rfl ?_
    refine St.val (v := (.bool (decide (a0.Op = 1)))) (Yields.assign rfl) trivial rfl rfl ?_
    refine St.nil ?_
    refine St.norm ?_
    refine St.cond_b rfl ?_ ?_
    · intro q7
      replace q7 : a0.Op = 1 := of_decide_eq_true q7
      replace hm := iT hm q7
      refine St.region ?_
      refine St.val (v := (.pointer (some ⟨b2, 1, none⟩))) (Yields.fieldAddr (v := (.pointer (some ⟨b2, 1, none⟩))) rfl (fun _ => by kernel_rfl)) trivial rfl rfl ?_
      refine St.val (v := (.string (bs a0.Name))) (Yields.load rfl (Loads.H1 0 rfl tc9 rfl)) trivial rfl rfl ?_
      obtain ⟨q8, e9, hm⟩ := bS hm
      refine St.call [blk b2 (.cells #[.int .i64 a0.Op, .string (bs a0.Name), .int .i64 a0.N, .slice pA0_0 a0.Kids.length pc0_0] 24 (0, 0))] (m_value_isName_sp e9) rfl (fun _ ha => ev3 ha rfl rfl rfl) rfl en87 rfl rfl trivial ?_
      rintro _ F10 _ ⟨rfl, rfl⟩ l11
      by_cases q12 : q8 = true
      · replace hm := iT hm q12
        have hb13 : (q8) = true := q12
        try rw [hb13]
        refine St.val (v := (.bool true)) (Yields.move rfl) trivial rfl rfl ?_
        refine St.val (v := (.pointer (some ⟨b2, 2, none⟩))) (Yields.fieldAddr (v := (.pointer (some ⟨b2, 2, none⟩))) rfl (fun _ => by kernel_rfl)) rfl rfl rfl ?_
        refine St.val (v := (.int .i64 a0.N)) (Yields.load rfl (Loads.H1 0 rfl tc3 rfl)) rfl rfl rfl ?_
        by_cases q14 : a0.N = 0
        · replace hm := iT hm q14
          refine St.val (v := (.bool true)) (Yields.is q14 (Yields.eq rfl rfl)) rfl rfl rfl ?_
          refine St.val (v := (.bool true)) (Yields.pick_t rfl rfl) trivial rfl rfl ?_
          refine St.val (v := (.bool true)) (Yields.move rfl) trivial rfl rfl ?_
          refine St.val (v := (.pointer (some ⟨b2, 3, none⟩))) (Yields.fieldAddr (v := (.pointer (some ⟨b2, 3, none⟩))) rfl (fun _ => by kernel_rfl)) rfl rfl rfl ?_
          refine St.val (v := (.slice pA0_0 a0.Kids.length pc0_0)) (Yields.load rfl (Loads.H1 0 rfl tc22 rfl)) rfl rfl rfl ?_
          refine St.val (v := (.int .i64 ((a0.Kids.length : Nat) : Int))) (Yields.lenSlice tu22 rfl) rfl rfl rfl ?_
          refine St.val (v := (.bool (decide (((a0.Kids.length : Nat) : Int) ≤ 8)))) (Yields.le rfl rfl) rfl rfl rfl ?_
          refine St.val (v := (.bool (decide (((a0.Kids.length : Nat) : Int) ≤ 8)))) (Yields.pick_t rfl rfl) trivial rfl rfl ?_
          refine St.val (v := (.bool (decide (((a0.Kids.length : Nat) : Int) ≤ 8)))) (Yields.assign rfl) trivial rfl rfl ?_
          refine St.nil ?_
          refine St.innorm ?_
          obtain rfl := sI hm
          intro a w ha hs
          exact ⟨F10, l11, ha.covers ⟨rfl, rfl, trivial⟩, (Among.of (Among.take 0 rfl rfl Among.none) _ hs)⟩
        · replace hm := iF hm q14
          refine St.val (v := (.bool false)) (Yields.isnt q14 (Yields.eq rfl rfl)) rfl rfl rfl ?_
          refine St.val (v := (.bool false)) (Yields.pick_t rfl rfl) trivial rfl rfl ?_
          refine St.val (v := (.bool false)) (Yields.move rfl) trivial rfl rfl ?_
          refine St.unwanted rfl rfl rfl ?_
          refine St.unwanted rfl rfl rfl ?_
          refine St.unwanted rfl rfl rfl ?_
          refine St.unwanted rfl rfl rfl ?_
          refine St.val (v := (.bool false)) (Yields.pick_f rfl rfl) trivial rfl rfl ?_
          refine St.val (v := (.bool false)) (Yields.assign rfl) trivial rfl rfl ?_
          refine St.nil ?_
          refine St.innorm ?_
          obtain rfl := sI hm
          intro a w ha hs
          exact ⟨F10, l11, ha.covers ⟨rfl, rfl, trivial⟩, (Among.of (Among.take 0 rfl rfl Among.none) _ hs)⟩
      · replace hm := iF hm q12
        have hb15 : (q8) = false := eq_false_of_ne_true q12
        try rw [hb15]
        refine St.val (v := (.bool false)) (Yields.move rfl) trivial rfl rfl ?_
        refine St.unwanted rfl rfl rfl ?_
        refine St.unwanted rfl rfl rfl ?_
        refine St.unwanted rfl rfl rfl ?_
        refine St.val (v := (.bool false)) (Yields.pick_f rfl rfl) trivial rfl rfl ?_
        refine St.val (v := (.bool false)) (Yields.move rfl) trivial rfl rfl ?_
        refine St.unwanted rfl rfl rfl ?_
        refine St.unwanted rfl rfl rfl ?_
        refine St.unwanted rfl rfl rfl ?_
        refine St.unwanted rfl rfl rfl ?_
        refine St.val (v := (.bool false)) (Yields.pick_f rfl rfl) trivial rfl rfl ?_
        refine St.val (v := (.bool false)) (Yields.assign rfl) trivial rfl rfl ?_
        refine St.nil ?_
        refine St.innorm ?_
        obtain rfl := sI hm
        intro a w ha hs
        exact ⟨F10, l11, ha.covers ⟨rfl, rfl, trivial⟩, (Among.of (Among.take 0 rfl rfl Among.none) _ hs)⟩
    · intro q16
      replace q16 : ¬ (a0.Op = 1) := of_decide_eq_false q16
      replace hm := iF hm q16
      refine St.seq ?_
      refine St.region ?_
      refine St.val (v := (.bool (decide (a0.Op = 4)))) (Yields.eq rfl rfl) trivial rfl rfl ?_
      refine St.val (v := (.bool (decide (a0.Op = 4)))) (Yields.assign rfl) trivial rfl rfl ?_
      refine St.nil ?_
      refine St.norm ?_
      refine St.cond_b rfl ?_ ?_
      · intro q17
        replace q17 : a0.Op = 4 := of_decide_eq_true q17
        replace hm := iT hm q17
        refine St.region ?_
        refine St.val (v := (.pointer (some ⟨b2, 1, none⟩))) (Yields.fieldAddr (v := (.pointer (some ⟨b2, 1, none⟩))) rfl (fun _ => by kernel_rfl)) trivial rfl rfl ?_
        refine St.val (v := (.string (bs a0.Name))) (Yields.load rfl (Loads.H1 0 rfl tc9 rfl)) trivial rfl rfl ?_
        obtain ⟨q18, e19, hm⟩ := bS hm
        refine St.call [blk b2 (.cells #[.int .i64 a0.Op, .string (bs a0.Name), .int .i64 a0.N, .slice pA0_0 a0.Kids.length pc0_0] 24 (0, 0))] (m_value_isFunction_sp e19) rfl (fun _ ha => ev1 ha rfl) rfl en88 rfl rfl trivial ?_
        rintro _ F20 _ ⟨rfl, rfl⟩ l21
        by_cases q22 : q18 = true
        · replace hm := iT hm q22
          have hb23 : (q18) = true := q22
          try rw [hb23]
          refine St.val (v := (.bool true)) (Yields.move rfl) trivial rfl rfl ?_
          refine St.val (v := (.pointer (some ⟨b2, 2, none⟩))) (Yields.fieldAddr (v := (.pointer (some ⟨b2, 2, none⟩))) rfl (fun _ => by kernel_rfl)) rfl rfl rfl ?_
          refine St.val (v := (.int .i64 a0.N)) (Yields.load rfl (Loads.H1 0 rfl tc3 rfl)) rfl rfl rfl ?_
          by_cases q24 : a0.N = 0
          · replace hm := iT hm q24
            refine St.val (v := (.bool true)) (Yields.is q24 (Yields.eq rfl rfl)) rfl rfl rfl ?_
            refine St.val (v := (.bool true)) (Yields.pick_t rfl rfl) trivial rfl rfl ?_
            refine St.val (v := (.bool true)) (Yields.move rfl) trivial rfl rfl ?_
            refine St.val (v := (.pointer (some ⟨b2, 3, none⟩))) (Yields.fieldAddr (v := (.pointer (some ⟨b2, 3, none⟩))) rfl (fun _ => by kernel_rfl)) rfl rfl rfl ?_
            refine St.val (v := (.slice pA0_0 a0.Kids.length pc0_0)) (Yields.load rfl (Loads.H1 0 rfl tc22 rfl)) rfl rfl rfl ?_
            refine St.val (v := (.int .i64 ((a0.Kids.length : Nat) : Int))) (Yields.lenSlice tu22 rfl) rfl rfl rfl ?_
            refine St.val (v := (.bool (decide (((a0.Kids.length : Nat) : Int) ≤ 8)))) (Yields.le rfl rfl) rfl rfl rfl ?_
            refine St.val (v := (.bool (decide (((a0.Kids.length : Nat) : Int) ≤ 8)))) (Yields.pick_t rfl rfl) trivial rfl rfl ?_
            refine St.val (v := (.bool (decide (((a0.Kids.length : Nat) : Int) ≤ 8)))) (Yields.assign rfl) trivial rfl rfl ?_
            refine St.nil ?_
            refine St.innorm ?_
            obtain rfl := sI hm
            intro a w ha hs
            exact ⟨F20, l21, ha.covers ⟨rfl, rfl, trivial⟩, (Among.of (Among.take 0 rfl rfl Among.none) _ hs)⟩
          · replace hm := iF hm q24
            refine St.val (v := (.bool false)) (Yields.isnt q24 (Yields.eq rfl rfl)) rfl rfl rfl ?_
            refine St.val (v := (.bool false)) (Yields.pick_t rfl rfl) trivial rfl rfl ?_
            refine St.val (v := (.bool false)) (Yields.move rfl) trivial rfl rfl ?_
            refine St.unwanted rfl rfl rfl ?_
            refine St.unwanted rfl rfl rfl ?_
            refine St.unwanted rfl rfl rfl ?_
            refine St.unwanted rfl rfl rfl ?_
            refine St.val (v := (.bool false)) (Yields.pick_f rfl rfl) trivial rfl rfl ?_
            refine St.val (v := (.bool false)) (Yields.assign rfl) trivial rfl rfl ?_
            refine St.nil ?_
            refine St.innorm ?_
            obtain rfl := sI hm
            intro a w ha hs
            exact ⟨F20, l21, ha.covers ⟨rfl, rfl, trivial⟩, (Among.of (Among.take 0 rfl rfl Among.none) _ hs)⟩
        · replace hm := iF hm q22
          have hb25 : (q18) = false := eq_false_of_ne_true q22
          try rw [hb25]
          refine St.val (v := (.bool false)) (Yields.move rfl) trivial rfl rfl ?_
          refine St.unwanted rfl rfl rfl ?_
          refine St.unwanted rfl rfl rfl ?_
          refine St.unwanted rfl rfl rfl ?_
          refine St.val (v := (.bool false)) (Yields.pick_f rfl rfl) trivial rfl rfl ?_
          refine St.val (v := (.bool false)) (Yields.move rfl) trivial rfl rfl ?_
          refine St.unwanted rfl rfl rfl ?_
          refine St.unwanted rfl rfl rfl ?_
          refine St.unwanted rfl rfl rfl ?_
          refine St.unwanted rfl rfl rfl ?_
          refine St.val (v := (.bool false)) (Yields.pick_f rfl rfl) trivial rfl rfl ?_
          refine St.val (v := (.bool false)) (Yields.assign rfl) trivial rfl rfl ?_
          refine St.nil ?_
          refine St.innorm ?_
          obtain rfl := sI hm
          intro a w ha hs
          exact ⟨F20, l21, ha.covers ⟨rfl, rfl, trivial⟩, (Among.of (Among.take 0 rfl rfl Among.none) _ hs)⟩
      · intro q26
        replace q26 : ¬ (a0.Op = 4) := of_decide_eq_false q26
        replace hm := iF hm q26
        refine St.seq ?_
        refine St.region ?_
        refine St.val (v := (.bool (decide (a0.Op = 2)))) (Yields.eq rfl rfl) trivial rfl rfl ?_
        refine St.val (v := (.bool (decide (a0.Op = 2)))) (Yields.assign rfl) trivial rfl rfl ?_
        refine St.nil ?_
        refine St.norm ?_
        refine St.cond_b rfl ?_ ?_
        · intro q27
          replace q27 : a0.Op = 2 := of_decide_eq_true q27
          replace hm := iT hm q27
          refine St.region ?_
          refine St.val (v := (.pointer (some ⟨b2, 1, none⟩))) (Yields.fieldAddr (v := (.pointer (some ⟨b2, 1, none⟩))) rfl (fun _ => by kernel_rfl)) trivial rfl rfl ?_
          refine St.val (v := (.string (bs a0.Name))) (Yields.load rfl (Loads.H1 0 rfl tc9 rfl)) trivial rfl rfl ?_
          by_cases q28 : a0.Name = ([] : List UInt8)
          · replace hm := iT hm q28
            refine St.val (v := (.bool true)) (Yields.is q28 (Yields.eqStr rfl rfl)) trivial rfl rfl ?_
            refine St.val (v := (.bool true)) (Yields.move rfl) trivial rfl rfl ?_
            refine St.val (v := (.pointer (some ⟨b2, 3, none⟩))) (Yields.fieldAddr (v := (.pointer (some ⟨b2, 3, none⟩))) rfl (fun _ => by kernel_rfl)) rfl rfl rfl ?_
            refine St.val (v := (.slice pA0_0 a0.Kids.length pc0_0)) (Yields.load rfl (Loads.H1 0 rfl tc22 rfl)) rfl rfl rfl ?_
            refine St.val (v := (.int .i64 ((a0.Kids.length : Nat) : Int))) (Yields.lenSlice tu22 rfl) rfl rfl rfl ?_
            by_cases q29 : ((a0.Kids.length : Nat) : Int) = 0
            · replace hm := iT hm q29
              refine St.val (v := (.bool true)) (Yields.is q29 (Yields.eq rfl rfl)) rfl rfl rfl ?_
              refine St.val (v := (.bool true)) (Yields.pick_t rfl rfl) trivial rfl rfl ?_
              refine St.val (v := (.bool true)) (Yields.move rfl) trivial rfl rfl ?_
              refine St.val (v := (.pointer (some ⟨b2, 2, none⟩))) (Yields.fieldAddr (v := (.pointer (some ⟨b2, 2, none⟩))) rfl (fun _ => by kernel_rfl)) rfl rfl rfl ?_
              refine St.val (v := (.int .i64 a0.N)) (Yields.load rfl (Loads.H1 0 rfl tc3 rfl)) rfl rfl rfl ?_
              by_cases q30 : a0.N ≥ (-1000000000)
              · replace hm := iT hm q30
                refine St.val (v := (.bool true)) (Yields.is q30 (Yields.ge rfl rfl)) rfl rfl rfl ?_
                refine St.val (v := (.bool true)) (Yields.pick_t rfl rfl) trivial rfl rfl ?_
                refine St.val (v := (.bool true)) (Yields.move rfl) trivial rfl rfl ?_
                refine St.val (v := (.pointer (some ⟨b2, 2, none⟩))) (Yields.fieldAddr (v := (.pointer (some ⟨b2, 2, none⟩))) rfl (fun _ => by kernel_rfl)) rfl rfl rfl ?_
                refine St.val (v := (.int .i64 a0.N)) (Yields.load rfl (Loads.H1 0 rfl tc3 rfl)) rfl rfl rfl ?_
                refine St.val (v := (.bool (decide (a0.N ≤ 1000000000)))) (Yields.le rfl rfl) rfl rfl rfl ?_
                refine St.val (v := (.bool (decide (a0.N ≤ 1000000000)))) (Yields.pick_t rfl rfl) trivial rfl rfl ?_
                refine St.val (v := (.bool (decide (a0.N ≤ 1000000000)))) (Yields.assign rfl) trivial rfl rfl ?_
                refine St.nil ?_
                refine St.innorm ?_
                obtain rfl := sI hm
                intro a w ha hs
                exact ⟨F, (PH.le_refl _), ha.covers ⟨rfl, rfl, trivial⟩, (Among.of (Among.take 0 rfl rfl Among.none) _ hs)⟩
              · replace hm := iF hm q30
                refine St.val (v := (.bool false)) (Yields.isnt q30 (Yields.ge rfl rfl)) rfl rfl rfl ?_
                refine St.val (v := (.bool false)) (Yields.pick_t rfl rfl) trivial rfl rfl ?_
                refine St.val (v := (.bool false)) (Yields.move rfl) trivial rfl rfl ?_
                refine St.unwanted rfl rfl rfl ?_
                refine St.unwanted rfl rfl rfl ?_
                refine St.unwanted rfl rfl rfl ?_
                refine St.val (v := (.bool false)) (Yields.pick_f rfl rfl) trivial rfl rfl ?_
                refine St.val (v := (.bool false)) (Yields.assign rfl) trivial rfl rfl ?_
                refine St.nil ?_
                refine St.innorm ?_
                obtain rfl := sI hm
                intro a w ha hs
                exact ⟨F, (PH.le_refl _), ha.covers ⟨rfl, rfl, trivial⟩, (Among.of (Among.take 0 rfl rfl Among.none) _ hs)⟩
            · replace hm := iF hm q29
              refine St.val (v := (.bool false)) (Yields.isnt q29 (Yields.eq rfl rfl)) rfl rfl rfl ?_
              refine St.val (v := (.bool false)) (Yields.pick_t rfl rfl) trivial rfl rfl ?_
              refine St.val (v := (.bool false)) (Yields.move rfl) trivial rfl rfl ?_
              refine St.unwanted rfl rfl rfl ?_
              refine St.unwanted rfl rfl rfl ?_
              refine St.unwanted rfl rfl rfl ?_
              refine St.val (v := (.bool false)) (Yields.pick_f rfl rfl) trivial rfl rfl ?_
              refine St.val (v := (.bool false)) (Yields.move rfl) trivial rfl rfl ?_
              refine St.unwanted rfl rfl rfl ?_
              refine St.unwanted rfl rfl rfl ?_
              refine St.unwanted rfl rfl rfl ?_
              refine St.val (v := (.bool false)) (Yields.pick_f rfl rfl) trivial rfl rfl ?_
              refine St.val (v := (.bool false)) (Yields.assign rfl) trivial rfl rfl ?_
              refine St.nil ?_
              refine St.innorm ?_
              obtain rfl := sI hm
              intro a w ha hs
              exact ⟨F, (PH.le_refl _), ha.covers ⟨rfl, rfl, trivial⟩, (Among.of (Among.take 0 rfl rfl Among.none) _ hs)⟩
          · replace hm := iF hm q28
            refine St.val (v := (.bool false)) (Yields.isnt q28 (Yields.eqStr rfl rfl)) trivial rfl rfl ?_
            refine St.val (v := (.bool false)) (Yields.move rfl) trivial rfl rfl ?_
            refine St.unwanted rfl rfl rfl ?_
            refine St.unwanted rfl rfl rfl ?_
            refine St.unwanted rfl rfl rfl ?_
            refine St.unwanted rfl rfl rfl ?_
            refine St.val (v := (.bool false)) (Yields.pick_f rfl rfl) trivial rfl rfl ?_
            refine St.val (v := (.bool false)) (Yields.move rfl) trivial rfl rfl ?_
            refine St.unwanted rfl rfl rfl ?_
            refine St.unwanted rfl rfl rfl ?_
            refine St.unwanted rfl rfl rfl ?_
            refine St.val (v := (.bool false)) (Yields.pick_f rfl rfl) trivial rfl rfl ?_
            refine St.val (v := (.bool false)) (Yields.move rfl) trivial rfl rfl ?_
            refine St.unwanted rfl rfl rfl ?_
            refine St.unwanted rfl rfl rfl ?_
            refine St.unwanted rfl rfl rfl ?_
            refine St.val (v := (.bool false)) (Yields.pick_f rfl rfl) trivial rfl rfl ?_
            refine St.val (v := (.bool false)) (Yields.assign rfl) trivial rfl rfl ?_
            refine St.nil ?_
            refine St.innorm ?_
            obtain rfl := sI hm
            intro a w ha hs
            exact ⟨F, (PH.le_refl _), ha.covers ⟨rfl, rfl, trivial⟩, (Among.of (Among.take 0 rfl rfl Among.none) _ hs)⟩
        · intro q31
          replace q31 : ¬ (a0.Op = 2) := of_decide_eq_false q31
          replace hm := iF hm q31
          refine St.seq ?_
          refine St.region ?_
          refine St.val (v := (.bool (decide (a0.Op = 3)))) (Yields.eq rfl rfl) trivial rfl rfl ?_
          refine St.val (v := (.bool (decide (a0.Op = 3)))) (Yields.assign rfl) trivial rfl rfl ?_
          refine St.nil ?_
          refine St.norm ?_
          refine St.cond_b rfl ?_ ?_
          · intro q32
            replace q32 : a0.Op = 3 := of_decide_eq_true q32
            replace hm := iT hm q32
            refine St.region ?_
            refine St.val (v := (.pointer (some ⟨b2, 1, none⟩))) (Yields.fieldAddr (v := (.pointer (some ⟨b2, 1, none⟩))) rfl (fun _ => by kernel_rfl)) trivial rfl rfl ?_
            refine St.val (v := (.string (bs a0.Name))) (Yields.load rfl (Loads.H1 0 rfl tc9 rfl)) trivial rfl rfl ?_
            by_cases q33 : a0.Name = ([] : List UInt8)
            · replace hm := iT hm q33
              refine St.val (v := (.bool true)) (Yields.is q33 (Yields.eqStr rfl rfl)) trivial rfl rfl ?_
              refine St.val (v := (.bool true)) (Yields.move rfl) trivial rfl rfl ?_
              refine St.val (v := (.pointer (some ⟨b2, 3, none⟩))) (Yields.fieldAddr (v := (.pointer (some ⟨b2, 3, none⟩))) rfl (fun _ => by kernel_rfl)) rfl rfl rfl ?_
              refine St.val (v := (.slice pA0_0 a0.Kids.length pc0_0)) (Yields.load rfl (Loads.H1 0 rfl tc22 rfl)) rfl rfl rfl ?_
              refine St.val (v := (.int .i64 ((a0.Kids.length : Nat) : Int))) (Yields.lenSlice tu22 rfl) rfl rfl rfl ?_
              by_cases q34 : ((a0.Kids.length : Nat) : Int) = 0
              · replace hm := iT hm q34
                refine St.val (v := (.bool true)) (Yields.is q34 (Yields.eq rfl rfl)) rfl rfl rfl ?_
                refine St.val (v := (.bool true)) (Yields.pick_t rfl rfl) trivial rfl rfl ?_
                refine St.val (v := (.bool true)) (Yields.move rfl) trivial rfl rfl ?_
                refine St.val (v := (.pointer (some ⟨b2, 2, none⟩))) (Yields.fieldAddr (v := (.pointer (some ⟨b2, 2, none⟩))) rfl (fun _ => by kernel_rfl)) rfl rfl rfl ?_
                refine St.val (v := (.int .i64 a0.N)) (Yields.load rfl (Loads.H1 0 rfl tc3 rfl)) rfl rfl rfl ?_
                by_cases q35 : a0.N ≥ 0
                · replace hm := iT hm q35
                  refine St.val (v := (.bool true)) (Yields.is q35 (Yields.ge rfl rfl)) rfl rfl rfl ?_
                  refine St.val (v := (.bool true)) (Yields.pick_t rfl rfl) trivial rfl rfl ?_
                  refine St.val (v := (.bool true)) (Yields.move rfl) trivial rfl rfl ?_
                  refine St.val (v := (.pointer (some ⟨b2, 2, none⟩))) (Yields.fieldAddr (v := (.pointer (some ⟨b2, 2, none⟩))) rfl (fun _ => by kernel_rfl)) rfl rfl rfl ?_
                  refine St.val (v := (.int .i64 a0.N)) (Yields.load rfl (Loads.H1 0 rfl tc3 rfl)) rfl rfl rfl ?_
                  refine St.val (v := (.bool (decide (a0.N ≤ 300)))) (Yields.le rfl rfl) rfl rfl rfl ?_
                  refine St.val (v := (.bool (decide (a0.N ≤ 300)))) (Yields.pick_t rfl rfl) trivial rfl rfl ?_
                  refine St.val (v := (.bool (decide (a0.N ≤ 300)))) (Yields.assign rfl) trivial rfl rfl ?_
                  refine St.nil ?_
                  refine St.innorm ?_
                  obtain rfl := sI hm
                  intro a w ha hs
                  exact ⟨F, (PH.le_refl _), ha.covers ⟨rfl, rfl, trivial⟩, (Among.of (Among.take 0 rfl rfl Among.none) _ hs)⟩
                · replace hm := iF hm q35
                  refine St.val (v := (.bool false)) (Yields.isnt q35 (Yields.ge rfl rfl)) rfl rfl rfl ?_
                  refine St.val (v := (.bool false)) (Yields.pick_t rfl rfl) trivial rfl rfl ?_
                  refine St.val (v := (.bool false)) (Yields.move rfl) trivial rfl rfl ?_
                  refine St.unwanted rfl rfl rfl ?_
                  refine St.unwanted rfl rfl rfl ?_
                  refine St.unwanted rfl rfl rfl ?_
                  refine St.val (v := (.bool false)) (Yields.pick_f rfl rfl) trivial rfl rfl ?_
                  refine St.val (v := (.bool false)) (Yields.assign rfl) trivial rfl rfl ?_
                  refine St.nil ?_
                  refine St.innorm ?_
                  obtain rfl := sI hm
                  intro a w ha hs
                  exact ⟨F, (PH.le_refl _), ha.covers ⟨rfl, rfl, trivial⟩, (Among.of (Among.take 0 rfl rfl Among.none) _ hs)⟩
              · replace hm := iF hm q34
                refine St.val (v := (.bool false)) (Yields.isnt q34 (Yields.eq rfl rfl)) rfl rfl rfl ?_
                refine St.val (v := (.bool false)) (Yields.pick_t rfl rfl) trivial rfl rfl ?_
                refine St.val (v := (.bool false)) (Yields.move rfl) trivial rfl rfl ?_
                refine St.unwanted rfl rfl rfl ?_
                refine St.unwanted rfl rfl rfl ?_
                refine St.unwanted rfl rfl rfl ?_
                refine St.val (v := (.bool false)) (Yields.pick_f rfl rfl) trivial rfl rfl ?_
                refine St.val (v := (.bool false)) (Yields.move rfl) trivial rfl rfl ?_
                refine St.unwanted rfl rfl rfl ?_
                refine St.unwanted rfl rfl rfl ?_
                refine St.unwanted rfl rfl rfl ?_
                refine St.val (v := (.bool false)) (Yields.pick_f rfl rfl) trivial rfl rfl ?_
                refine St.val (v := (.bool false)) (Yields.assign rfl) trivial rfl rfl ?_
                refine St.nil ?_
                refine St.innorm ?_
                obtain rfl := sI hm
                intro a w ha hs
                exact ⟨F, (PH.le_refl _), ha.covers ⟨rfl, rfl, trivial⟩, (Among.of (Among.take 0 rfl rfl Among.none) _ hs)⟩
            · replace hm := iF hm q33
              refine St.val (v := (.bool false)) (Yields.isnt q33 (Yields.eqStr rfl rfl)) trivial rfl rfl ?_
              refine St.val (v := (.bool false)) (Yields.move rfl) trivial rfl rfl ?_
              refine St.unwanted rfl rfl rfl ?_
              refine St.unwanted rfl rfl rfl ?_
              refine St.unwanted rfl rfl rfl ?_
              refine St.unwanted rfl rfl rfl ?_
              refine St.val (v := (.bool false)) (Yields.pick_f rfl rfl) trivial rfl rfl ?_
              refine St.val (v := (.bool false)) (Yields.move rfl) trivial rfl rfl ?_
              refine St.unwanted rfl rfl rfl ?_
              refine St.unwanted rfl rfl rfl ?_
              refine St.unwanted rfl rfl rfl ?_
              refine St.val (v := (.bool false)) (Yields.pick_f rfl rfl) trivial rfl rfl ?_
              refine St.val (v := (.bool false)) (Yields.move rfl) trivial rfl rfl ?_
              refine St.unwanted rfl rfl rfl ?_
              refine St.unwanted rfl rfl rfl ?_
              refine St.unwanted rfl rfl rfl ?_
              refine St.val (v := (.bool false)) (Yields.pick_f rfl rfl) trivial rfl rfl ?_
              refine St.val (v := (.bool false)) (Yields.assign rfl) trivial rfl rfl ?_
              refine St.nil ?_
              refine St.innorm ?_
              obtain rfl := sI hm
              intro a w ha hs
              exact ⟨F, (PH.le_refl _), ha.covers ⟨rfl, rfl, trivial⟩, (Among.of (Among.take 0 rfl rfl Among.none) _ hs)⟩
          · intro q36
            replace q36 : ¬ (a0.Op = 3) := of_decide_eq_false q36
            replace hm := iF hm q36
            refine St.skip ?_
            refine St.innorm ?_
            obtain rfl := sI hm
            intro a w ha hs
            exact ⟨F, (PH.le_refl _), ha.covers ⟨rfl, rfl, trivial⟩, (Among.of (Among.take 0 rfl rfl Among.none) _ hs)⟩
  · rintro a w ⟨F4, l5, ha, hs⟩
    replace hm := hk6
    refine St.use (?_ : St _ _ _ _ _ _) ha hs
    clear ha hs a w
    obtain ⟨z37, hm, hk40⟩ := bS hm
    refine St.cutI (fun a w => ∃ (F38 : PH), PH.le F4 F38 ∧ Has Try.f66.ntmps a [(2, .bool z37)] ∧ Sat ⟨w0, fun b => m0 b ≠ none, F⟩ F38 [] w) ?_ ?_
    · skip
      refine St.region ?_
      by_cases q41 : z3 = true
      · replace hm := iT hm q41
        have hb42 : (z3) = true := q41
        try rw [hb42]
        refine St.val (v := (.bool true)) (Yields.move rfl) trivial rfl rfl ?_
        refine St.val (v := (.bool true)) (Yields.move rfl) trivial rfl rfl ?_
        refine St.val (v := (.pointer (some ⟨b2, 3, none⟩))) (Yields.fieldAddr (v := (.pointer (some ⟨b2, 3, none⟩))) rfl (fun _ => by kernel_rfl)) rfl rfl rfl ?_
        refine St.val (v := (.slice pA0_0 a0.Kids.length pc0_0)) (Yields.load rfl (Loads.H1 0 rfl tc22 rfl)) rfl rfl rfl ?_
        obtain ⟨q43, e44, hm⟩ := bS hm
        refine St.call [blk b2 (.cells #[.int .i64 a0.Op, .string (bs a0.Name), .int .i64 a0.N, .slice pA0_0 a0.Kids.length pc0_0] 24 (0, 0))] (ih_m_api_Value_3 (Fsl.mono l5 ph0_0) e44) rfl (fun _ ha => ev2 ha rfl rfl) rfl en90 rfl rfl rfl ?_
        rintro _ F45 _ ⟨rfl, rfl⟩ l46
        refine St.val (v := (.bool (!q43))) (Yields.not rfl) rfl rfl rfl ?_
        refine St.val (v := (.bool (!q43))) (Yields.pick_t rfl rfl) trivial rfl rfl ?_
        refine St.val (v := (.bool (!q43))) (Yields.assign rfl) trivial rfl rfl ?_
        refine St.nil ?_
        obtain rfl := sI hm
        intro a w ha hs
        exact ⟨F45, l46, ha.covers ⟨rfl, trivial⟩, (Among.of Among.none _ hs)⟩
      · replace hm := iF hm q41
        have hb47 : (z3) = false := eq_false_of_ne_true q41
        try rw [hb47]
        refine St.val (v := (.bool false)) (Yields.move rfl) trivial rfl rfl ?_
        refine St.val (v := (.bool false)) (Yields.move rfl) trivial rfl rfl ?_
        refine St.unwanted rfl rfl rfl ?_
        refine St.unwanted rfl rfl rfl ?_
        refine St.unwanted rfl rfl rfl ?_
        refine St.unwanted rfl rfl rfl ?_
        refine St.val (v := (.bool false)) (Yields.pick_f rfl rfl) trivial rfl rfl ?_
        refine St.val (v := (.bool false)) (Yields.assign rfl) trivial rfl rfl ?_
        refine St.nil ?_
        obtain rfl := sI hm
        intro a w ha hs
        exact ⟨F4, (PH.le_refl _), ha.covers ⟨rfl, trivial⟩, (Among.of Among.none _ hs)⟩
    · rintro a w ⟨F38, l39, ha, hs⟩
      replace hm := hk40
      refine St.use (?_ : St _ _ _ _ _ _) ha hs
      clear ha hs a w
      refine St.ret ?_
      obtain rfl := sI hm
      exact St.doneR1 rfl rfl ⟨rfl, rfl⟩ (fun w hs => Among.of Among.none w hs)
theorem m_value_isRight_all : ∀ g, m_value_isRight_f1_S g ∧ m_api_Value_4_S g ∧ m_api_Value_3_S g ∧ m_value_isRight_S g
  | 0 => ⟨(by (try unfold m_value_isRight_f1_S); intros; rename_i hm; exact nomatch (show (none : Option _) = some _ from hm)), (by (try unfold m_api_Value_4_S); intros; rename_i hm; exact nomatch (show (none : Option _) = some _ from hm)), (by (try unfold m_api_Value_3_S); intros; rename_i hm; exact nomatch (show (none : Option _) = some _ from hm)), (by (try unfold m_value_isRight_S); intros; rename_i hm; exact nomatch (show (none : Option _) = some _ from hm))⟩
  | g + 1 => let ⟨h0, h1, h2, h3⟩ := m_value_isRight_all g
    ⟨m_value_isRight_f1_st h0 h1 h2 h3, m_api_Value_4_st h0 h1 h2 h3, m_api_Value_3_st h0 h1 h2 h3, m_value_isRight_st h0 h1 h2 h3⟩
theorem m_value_isRight_f1_sp {F : PH} {g : Nat} {a0 : DValue} {pA0_0 : Option Addr} {pc0_0 : Nat} (ph0_0 : Fsl 56 KDValue F pA0_0 pc0_0 a0.Kids) {r : Bool} (hm : m_value_isRight_f1 g a0 = some r) :
    CallSp Try.prog 92 #[.agg #[.int .i64 a0.Op, .string (bs a0.Name), .int .i64 a0.N, .slice pA0_0 a0.Kids.length pc0_0]] F [] (fun u F' H' => u = (.bool r) ∧ H' = []) := (m_value_isRight_all g).1 ph0_0 hm
theorem m_api_Value_4_sp {F : PH} {g : Nat} {a0 : List DValue} {pA0 : Option Addr} {pc0 : Nat} (ph0 : Fsl 56 KDValue F pA0 pc0 a0) {r : Int} (hm : m_api_Value_4 g a0 = some r) :
    CallSp Try.prog 102 #[.slice pA0 a0.length pc0, .func (.func 92) #[] #[]] F [] (fun u F' H' => u = (.int .i64 r) ∧ H' = []) := (m_value_isRight_all g).2.1 ph0 hm
theorem m_api_Value_3_sp {F : PH} {g : Nat} {a0 : List DValue} {pA0 : Option Addr} {pc0 : Nat} (ph0 : Fsl 56 KDValue F pA0 pc0 a0) {r : Bool} (hm : m_api_Value_3 g a0 = some r) :
    CallSp Try.prog 90 #[.slice pA0 a0.length pc0, .func (.func 92) #[] #[]] F [] (fun u F' H' => u = (.bool r) ∧ H' = []) := (m_value_isRight_all g).2.2.1 ph0 hm
theorem m_value_isRight_sp {F : PH} {g : Nat} {a0 : DValue} {pA0_0 : Option Addr} {pc0_0 : Nat} (ph0_0 : Fsl 56 KDValue F pA0_0 pc0_0 a0.Kids) {r : Bool} (hm : m_value_isRight g a0 = some r) :
    CallSp Try.prog 66 #[.agg #[.int .i64 a0.Op, .string (bs a0.Name), .int .i64 a0.N, .slice pA0_0 a0.Kids.length pc0_0]] F [] (fun u F' H' => u = (.bool r) ∧ H' = []) := (m_value_isRight_all g).2.2.2 ph0_0 hm

theorem m_value_Validate_sp {F : PH} {g : Nat} {a0 : DValue} {pA0_0 : Option Addr} {pc0_0 : Nat} (ph0_0 : Fsl 56 KDValue F pA0_0 pc0_0 a0.Kids) {r : Int} (hm : m_value_Validate g a0 = some r) :
    CallSp Try.prog 30 #[.agg #[.int .i64 a0.Op, .string (bs a0.Name), .int .i64 a0.N, .slice pA0_0 a0.Kids.length pc0_0]] F [] (fun u F' H' => u = (.int .i64 r) ∧ H' = []) := by
  unfold m_value_Validate at hm
  refine CallSp.enter (args := [.agg #[.int .i64 a0.Op, .string (bs a0.Name), .int .i64 a0.N, .slice pA0_0 a0.Kids.length pc0_0]]) Try.func30 rfl rfl ?_
  intro w0 m0 hm0
  refine St.seq ?_
  refine St.region ?_
  refine St.box rfl trivial rfl ?_
  intro b2
  refine St.val (v := (.int .i64 0)) (Yields.assign rfl) trivial rfl rfl ?_
  refine St.nil ?_
  refine St.norm ?_
  refine St.seq ?_
  refine St.block ?_
  obtain ⟨z3, hm, hk6⟩ := bS hm
  refine St.cutI (fun a w => ∃ (F4 : PH), PH.le F F4 ∧ Has Try.f30.ntmps a [(1, .pointer (some ⟨b2, 0, none⟩)), (3, .bool z3)] ∧ Sat ⟨w0, fun b => m0 b ≠ none, F⟩ F4 [blk b2 (.cells #[.int .i64 a0.Op, .string (bs a0.Name), .int .i64 a0.N, .slice pA0_0 a0.Kids.length pc0_0] 24 (0, 0))] w) ?_ ?_
  · skip
    refine St.region ?_
    refine St.val (v := (.agg #[.int .i64 a0.Op, .string (bs a0.Name), .int .i64 a0.N, .slice pA0_0 a0.Kids.length pc0_0])) (Yields.load rfl (Loads.Hk (vs := [.int .i64 a0.Op, .string (bs a0.Name), .int .i64 a0.N, .slice pA0_0 a0.Kids.length pc0_0]) 0 rfl ta24 rfl rfl)) trivial rfl rfl ?_
    obtain ⟨q7, e8, hm⟩ := bS hm
    refine St.call [blk b2 (.cells #[.int .i64 a0.Op, .string (bs a0.Name), .int .i64 a0.N, .slice pA0_0 a0.Kids.length pc0_0] 24 (0, 0))] (m_value_deep_sp (a0 := a0) ph0_0 e8) rfl (fun _ ha => ev2 ha rfl rfl) rfl en64 rfl rfl trivial ?_
    rintro _ F9 _ ⟨rfl, rfl⟩ l10
    by_cases q11 : q7 = true
    · replace hm := iT hm q11
      have hb12 : (q7) = true := q11
      try rw [hb12]
      refine St.val (v := (.bool true)) (Yields.move rfl) trivial rfl rfl ?_
      refine St.unwanted rfl rfl rfl ?_
      refine St.unwanted rfl rfl rfl ?_
      refine St.unwanted rfl rfl rfl ?_
      refine St.val (v := (.bool true)) (Yields.pick_t rfl rfl) trivial rfl rfl ?_
      refine St.val (v := (.bool true)) (Yields.assign rfl) trivial rfl rfl ?_
      refine St.nil ?_
      obtain rfl := sI hm
      intro a w ha hs
      exact ⟨F9, l10, ha.covers ⟨rfl, rfl, trivial⟩, (Among.of (Among.take 0 rfl rfl Among.none) _ hs)⟩
    · replace hm := iF hm q11
      have hb13 : (q7) = false := eq_false_of_ne_true q11
      try rw [hb13]
      refine St.val (v := (.bool false)) (Yields.move rfl) trivial rfl rfl ?_
      refine St.val (v := (.agg #[.int .i64 a0.Op, .string (bs a0.Name), .int .i64 a0.N, .slice pA0_0 a0.Kids.length pc0_0])) (Yields.load rfl (Loads.Hk (vs := [.int .i64 a0.Op, .string (bs a0.Name), .int .i64 a0.N, .slice pA0_0 a0.Kids.length pc0_0]) 0 rfl ta24 rfl rfl)) rfl rfl rfl ?_
      obtain ⟨q14, e15, hm⟩ := bS hm
      refine St.call [blk b2 (.cells #[.int .i64 a0.Op, .string (bs a0.Name), .int .i64 a0.N, .slice pA0_0 a0.Kids.length pc0_0] 24 (0, 0))] (m_value_count_sp (a0 := a0) (Fsl.mono l10 ph0_0) e15) rfl (fun _ ha => ev1 ha rfl) rfl en65 rfl rfl rfl ?_
      rintro _ F16 _ ⟨rfl, rfl⟩ l17
      refine St.val (v := (.bool (decide (q14 > 300)))) (Yields.gt rfl rfl) rfl rfl rfl ?_
      refine St.val (v := (.bool (decide (q14 > 300)))) (Yields.pick_f rfl rfl) trivial rfl rfl ?_
      refine St.val (v := (.bool (decide (q14 > 300)))) (Yields.assign rfl) trivial rfl rfl ?_
      refine St.nil ?_
      obtain rfl := sI hm
      intro a w ha hs
      exact ⟨F16, (PH.le_trans l10 l17), ha.covers ⟨rfl, rfl, trivial⟩, (Among.of (Among.take 0 rfl rfl Among.none) _ hs)⟩
  · rintro a w ⟨F4, l5, ha, hs⟩
    replace hm := hk6
    refine St.use (?_ : St _ _ _ _ _ _) ha hs
    clear ha hs a w
    refine St.cond_b rfl ?_ ?_
    · intro q18
      replace q18 : z3 = true := q18
      replace hm := iT hm q18
      refine St.seq ?_
      refine St.region ?_
      refine St.val (v := (.int .i64 3)) (Yields.assign rfl) trivial rfl rfl ?_
      refine St.nil ?_
      refine St.norm ?_
      refine St.ret ?_
      refine St.inret ?_
      refine St.thenret ?_
      obtain rfl := sI hm
      exact St.doneR1 rfl rfl ⟨rfl, rfl⟩ (fun w hs => Among.of Among.none w hs)
    · intro q19
      replace q19 : ¬ (z3 = true) := bf q19
      replace hm := iF hm q19
      refine St.seq ?_
      refine St.region ?_
      refine St.val (v := (.agg #[.int .i64 a0.Op, .string (bs a0.Name), .int .i64 a0.N, .slice pA0_0 a0.Kids.length pc0_0])) (Yields.load rfl (Loads.Hk (vs := [.int .i64 a0.Op, .string (bs a0.Name), .int .i64 a0.N, .slice pA0_0 a0.Kids.length pc0_0]) 0 rfl ta24 rfl rfl)) trivial rfl rfl ?_
      obtain ⟨q20, e21, hm⟩ := bS hm
      refine St.call [blk b2 (.cells #[.int .i64 a0.Op, .string (bs a0.Name), .int .i64 a0.N, .slice pA0_0 a0.Kids.length pc0_0] 24 (0, 0))] (m_value_isRight_sp (a0 := a0) (Fsl.mono l5 ph0_0) e21) rfl (fun _ ha => ev1 ha rfl) rfl en66 rfl rfl trivial ?_
      rintro _ F22 _ ⟨rfl, rfl⟩ l23
      refine St.val (v := (.bool (!q20))) (Yields.not rfl) trivial rfl rfl ?_
      refine St.val (v := (.bool (!q20))) (Yields.assign rfl) trivial rfl rfl ?_
      refine St.nil ?_
      refine St.norm ?_
      refine St.cond_b rfl ?_ ?_
      · intro q24
        replace q24 : ¬ (q20 = true) := nb_t q24
        replace hm := iF hm q24
        refine St.seq ?_
        refine St.region ?_
        refine St.val (v := (.int .i64 1)) (Yields.assign rfl) trivial rfl rfl ?_
        refine St.nil ?_
        refine St.norm ?_
        refine St.ret ?_
        refine St.inret ?_
        refine St.thenret ?_
        obtain rfl := sI hm
        exact St.doneR1 rfl rfl ⟨rfl, rfl⟩ (fun w hs => Among.of Among.none w hs)
      · intro q25
        replace q25 : q20 = true := nb_f q25
        replace hm := iT hm q25
        refine St.skip ?_
        refine St.innorm ?_
        refine St.norm ?_
        refine St.seq ?_
        refine St.region ?_
        refine St.val (v := (.int .i64 0)) (Yields.assign rfl) trivial rfl rfl ?_
        refine St.nil ?_
        refine St.norm ?_
        refine St.ret ?_
        obtain rfl := sI hm
        exact St.doneR1 rfl rfl ⟨rfl, rfl⟩ (fun w hs => Among.of Among.none w hs)

theorem m_value_Parse_sp {F : PH} {g : Nat} {a0 : List UInt8} {r : DValue × Int × Int} (hm : m_value_Parse g a0 = some r) :
    CallSp Try.prog 6 #[.string (bs a0)] F [] (fun u F' H' => ∃ (B0_0 : Option Addr) (d0_0 : Nat), u = (.tuple #[.agg #[.int .i64 r.1.Op, .string (bs r.1.Name), .int .i64 r.1.N, .slice B0_0 r.1.Kids.length d0_0], .int .i64 r.2.1, .int .i64 r.2.2]) ∧ Fsl 56 KDValue F' B0_0 d0_0 r.1.Kids ∧ H' = []) := by
  unfold m_value_Parse at hm
  refine CallSp.enter (args := [.string (bs a0)]) Try.func6 rfl rfl ?_
  intro w0 m0 hm0
  refine St.seq ?_
  refine St.region ?_
  refine St.alloc tz24 trivial rfl ?_
  intro b1
  refine St.val (v := (.int .i64 0)) (Yields.assign rfl) trivial rfl rfl ?_
  refine St.val (v := (.int .i64 0)) (Yields.assign rfl) trivial rfl rfl ?_
  refine St.nil ?_
  refine St.norm ?_
  refine St.seq ?_
  refine St.seq ?_
  refine St.region ?_
  refine St.val (v := (.string (bs a0))) (Yields.move rfl) trivial rfl rfl ?_
  refine St.val (v := (.int .i64 ((a0.length : Nat) : Int))) (Yields.lenStr tu9 rfl) trivial rfl rfl ?_
  refine St.val (v := (.bool (decide (((a0.length : Nat) : Int) > 20000)))) (Yields.gt rfl rfl) trivial rfl rfl ?_
  refine St.nil ?_
  refine St.norm ?_
  refine St.cond_b rfl ?_ ?_
  · intro q2
    replace q2 : ((a0.length : Nat) : Int) > 20000 := of_decide_eq_true q2
    replace hm := iT hm q2
    refine St.seq ?_
    refine St.region ?_
    refine St.val (v := (.agg #[.int .i64 0, .string (bs []), .int .i64 0, .slice none 0 0])) (Yields.build (v := (.agg #[.int .i64 0, .string (bs []), .int .i64 0, .slice none 0 0])) (vs := #[]) (fun a _ => by simp) (fun _ => by kernel_rfl)) trivial rfl rfl ?_
    refine St.storen (R := []) rfl rfl 0 rfl rfl ta24 rfl rfl rfl trivial (cs' := #[.int .i64 0, .string (bs []), .int .i64 0, .slice none 0 0]) rfl ?_
    refine St.val (v := (.int .i64 0)) (Yields.assign rfl) trivial rfl rfl ?_
    refine St.val (v := (.int .i64 3)) (Yields.assign rfl) trivial rfl rfl ?_
    refine St.nil ?_
    refine St.norm ?_
    refine St.ret ?_
    refine St.thenret ?_
    obtain rfl := sI hm
    exact St.doneR3 rfl (ResOk.cell rfl (Loads.Hk (vs := [.int .i64 0, .string (bs []), .int .i64 0, .slice none 0 0]) 0 rfl ta24 rfl rfl)) rfl rfl ⟨none, 0, rfl, Fsl.nil, rfl⟩ (fun w hs => Among.of Among.none w hs)
  · intro q3
    replace q3 : ¬ (((a0.length : Nat) : Int) > 20000) := of_decide_eq_false q3
    replace hm := iF hm q3
    refine St.skip ?_
    refine St.norm ?_
    refine St.seq ?_
    refine St.region ?_
    refine St.val (v := (.string (bs a0))) (Yields.move rfl) trivial rfl rfl ?_
    refine St.val (v := (.agg #[.string (bs a0), .int .i64 0, .int .i64 (-1)])) (Yields.build (v := (.agg #[.string (bs a0), .int .i64 0, .int .i64 (-1)])) (vs := #[(0, .string (bs a0)), (2, .int .i64 (-1))]) (fun _ ha => evp2 ha rfl rfl) (fun _ => by kernel_rfl)) trivial rfl rfl ?_
    refine St.box rfl trivial rfl ?_
    intro b4
    refine St.val (v := (.pointer (some ⟨b4, 0, none⟩))) (Yields.assign rfl) trivial rfl rfl ?_
    refine St.nil ?_
    refine St.norm ?_
    refine St.seq ?_
    refine St.region ?_
    refine St.val (v := (.pointer (some ⟨b4, 0, none⟩))) (Yields.move rfl) trivial rfl rfl ?_
    refine St.pick (R := [blk b1 (.cells #[.int .i64 0, .string (bs []), .int .i64 0, .slice none 0 0] 24 (0, 0))]) 0 rfl rfl ?_
    obtain ⟨q5, e6, hm⟩ := bS hm
    refine St.call [blk b1 (.cells #[.int .i64 0, .string (bs []), .int .i64 0, .slice none 0 0] 24 (0, 0))] (m_value_reader_any_sp e6) rfl (fun _ ha => ev2 ha rfl rfl) rfl en27 rfl rfl trivial ?_
    rintro _ F7 _ ⟨A9, c10, rfl, h11, rfl⟩ l8
    refine St.alloc tz24 trivial rfl ?_
    intro b13
    refine St.storen (R := [blk b4 (.cells #[.string (bs a0), .int .i64 q5.2.1, .int .i64 q5.2.2] 50 (0, 0)), blk b1 (.cells #[.int .i64 0, .string (bs []), .int .i64 0, .slice none 0 0] 24 (0, 0))]) rfl rfl 0 rfl rfl ta24 rfl rfl rfl trivial (cs' := #[.int .i64 q5.1.Op, .string (bs q5.1.Name), .int .i64 q5.1.N, .slice A9 q5.1.Kids.length c10]) rfl ?_
    refine St.nil ?_
    refine St.norm ?_
    obtain ⟨z14, hm, hk17⟩ := bS hm
    refine St.cutI (fun a w => ∃ (F15 : PH), PH.le F7 F15 ∧ Has Try.f6.ntmps a [(2, .pointer (some ⟨b1, 0, none⟩)), (5, .pointer (some ⟨b4, 0, none⟩)), (6, .pointer (some ⟨b13, 0, none⟩))] ∧ Sat ⟨w0, fun b => m0 b ≠ none, F⟩ F15 [blk b1 (.cells #[.int .i64 0, .string (bs []), .int .i64 0, .slice none 0 0] 24 (0, 0)), blk b4 (.cells #[.string (bs a0), .int .i64 q5.2.1, .int .i64 z14] 50 (0, 0)), blk b13 (.cells #[.int .i64 q5.1.Op, .string (bs q5.1.Name), .int .i64 q5.1.N, .slice A9 q5.1.Kids.length c10] 24 (0, 0))] w) ?_ ?_
    · skip
      refine St.seq ?_
      refine St.region ?_
      refine St.val (v := (.pointer (some ⟨b4, 0, none⟩))) (Yields.move rfl) trivial rfl rfl ?_
      refine St.val (v := (.pointer (some ⟨b4, 0, none⟩))) (Yields.nilCheck rfl) trivial rfl rfl ?_
      refine St.val (v := (.pointer (some ⟨b4, 2, none⟩))) (Yields.fieldAddr (v := (.pointer (some ⟨b4, 2, none⟩))) rfl (fun _ => by kernel_rfl)) trivial rfl rfl ?_
      refine St.val (v := (.int .i64 q5.2.2)) (Yields.load rfl (Loads.H1 1 rfl tc3 rfl)) trivial rfl rfl ?_
      refine St.val (v := (.bool (decide (q5.2.2 < 0)))) (Yields.lt rfl rfl) trivial rfl rfl ?_
      refine St.nil ?_
      refine St.norm ?_
      refine St.cond_b rfl ?_ ?_
      · intro q18
        replace q18 : q5.2.2 < 0 := of_decide_eq_true q18
        replace hm := iT hm q18
        refine St.seq ?_
        refine St.region ?_
        refine St.val (v := (.pointer (some ⟨b4, 0, none⟩))) (Yields.move rfl) trivial rfl rfl ?_
        refine St.pick (R := [blk b13 (.cells #[.int .i64 q5.1.Op, .string (bs q5.1.Name), .int .i64 q5.1.N, .slice A9 q5.1.Kids.length c10] 24 (0, 0)), blk b1 (.cells #[.int .i64 0, .string (bs []), .int .i64 0, .slice none 0 0] 24 (0, 0))]) 1 rfl rfl ?_
        obtain ⟨q19, e20, hm⟩ := bS hm
        refine St.call [blk b13 (.cells #[.int .i64 q5.1.Op, .string (bs q5.1.Name), .int .i64 q5.1.N, .slice A9 q5.1.Kids.length c10] 24 (0, 0)), blk b1 (.cells #[.int .i64 0, .string (bs []), .int .i64 0, .slice none 0 0] 24 (0, 0))] (m_value_reader_token_sp e20) rfl (fun _ ha => ev1 ha rfl) rfl en28 rfl rfl trivial ?_
        rintro _ F21 _ ⟨rfl, rfl⟩ l22
        refine St.val (v := (.tuple #[.string (bs q19.1), .int .i64 q19.2])) (Yields.move rfl) trivial rfl rfl ?_
        refine St.val (v := (.string (bs q19.1))) (Yields.extract rfl rfl) trivial rfl rfl ?_
        refine St.val (v := (.int .i64 q19.2)) (Yields.extract rfl rfl) trivial rfl rfl ?_
        refine St.val (v := (.string (bs q19.1))) (Yields.assign rfl) trivial rfl rfl ?_
        refine St.val (v := (.int .i64 q19.2)) (Yields.assign rfl) trivial rfl rfl ?_
        refine St.nil ?_
        refine St.norm ?_
        refine St.seq ?_
        refine St.region ?_
        refine St.val (v := (.string (bs q19.1))) (Yields.move rfl) trivial rfl rfl ?_
        refine St.val (v := (.bool (!decide (q19.1 = ([] : List UInt8))))) (Yields.neStr rfl rfl) trivial rfl rfl ?_
        refine St.nil ?_
        refine St.norm ?_
        refine St.cond_b rfl ?_ ?_
        · intro q23
          replace q23 : ¬ (q19.1 = ([] : List UInt8)) := nd_t q23
          replace hm := iF hm q23
          refine St.region ?_
          refine St.val (v := (.pointer (some ⟨b4, 0, none⟩))) (Yields.move rfl) trivial rfl rfl ?_
          refine St.val (v := (.int .i64 q19.2)) (Yields.move rfl) trivial rfl rfl ?_
          refine St.pick (R := [blk b13 (.cells #[.int .i64 q5.1.Op, .string (bs q5.1.Name), .int .i64 q5.1.N, .slice A9 q5.1.Kids.length c10] 24 (0, 0)), blk b1 (.cells #[.int .i64 0, .string (bs []), .int .i64 0, .slice none 0 0] 24 (0, 0))]) 0 rfl rfl ?_
          obtain ⟨q24, e25, hm⟩ := bS hm
          refine St.call [blk b13 (.cells #[.int .i64 q5.1.Op, .string (bs q5.1.Name), .int .i64 q5.1.N, .slice A9 q5.1.Kids.length c10] 24 (0, 0)), blk b1 (.cells #[.int .i64 0, .string (bs []), .int .i64 0, .slice none 0 0] 24 (0, 0))] (m_value_reader_fail_sp e25) rfl (fun _ ha => ev2 ha rfl rfl) rfl en29 rfl rfl trivial ?_
          rintro _ F26 _ ⟨rfl, rfl⟩ l27
          refine St.nil ?_
          obtain rfl := sI hm
          intro a w ha hs
          exact ⟨F26, (PH.le_trans l22 l27), ha.covers ⟨rfl, rfl, rfl, trivial⟩, (Among.of (Among.take 2 rfl rfl (Among.take 0 rfl rfl (Among.take 0 rfl rfl Among.none))) _ hs)⟩
        · intro q28
          replace q28 : q19.1 = ([] : List UInt8) := nd_f q28
          replace hm := iT hm q28
          refine St.skip ?_
          obtain rfl := sI hm
          intro a w ha hs
          exact ⟨F21, l22, ha.covers ⟨rfl, rfl, rfl, trivial⟩, (Among.of (Among.take 2 rfl rfl (Among.take 0 rfl rfl (Among.take 0 rfl rfl Among.none))) _ hs)⟩
      · intro q29
        replace q29 : ¬ (q5.2.2 < 0) := of_decide_eq_false q29
        replace hm := iF hm q29
        refine St.skip ?_
        obtain rfl := sI hm
        intro a w ha hs
        exact ⟨F7, (PH.le_refl _), ha.covers ⟨rfl, rfl, rfl, trivial⟩, (Among.of (Among.take 2 rfl rfl (Among.take 1 rfl rfl (Among.take 0 rfl rfl Among.none))) _ hs)⟩
    · rintro a w ⟨F15, l16, ha, hs⟩
      replace hm := hk17
      refine St.use (?_ : St _ _ _ _ _ _) ha hs
      clear ha hs a w
      refine St.seq ?_
      refine St.seq ?_
      refine St.region ?_
      refine St.val (v := (.pointer (some ⟨b4, 0, none⟩))) (Yields.move rfl) trivial rfl rfl ?_
      refine St.val (v := (.pointer (some ⟨b4, 0, none⟩))) (Yields.nilCheck rfl) trivial rfl rfl ?_
      refine St.val (v := (.pointer (some ⟨b4, 2, none⟩))) (Yields.fieldAddr (v := (.pointer (some ⟨b4, 2, none⟩))) rfl (fun _ => by kernel_rfl)) trivial rfl rfl ?_
      refine St.val (v := (.int .i64 z14)) (Yields.load rfl (Loads.H1 1 rfl tc3 rfl)) trivial rfl rfl ?_
      refine St.val (v := (.bool (decide (z14 ≥ 0)))) (Yields.ge rfl rfl) trivial rfl rfl ?_
      refine St.nil ?_
      refine St.norm ?_
      refine St.cond_b rfl ?_ ?_
      · intro q30
        replace q30 : z14 ≥ 0 := of_decide_eq_true q30
        replace hm := iT hm q30
        refine St.seq ?_
        refine StD.start [] [blk b1 (.cells #[.int .i64 0, .string (bs []), .int .i64 0, .slice none 0 0] 24 (0, 0)), blk b4 (.cells #[.string (bs a0), .int .i64 q5.2.1, .int .i64 z14] 50 (0, 0)), blk b13 (.cells #[.int .i64 q5.1.Op, .string (bs q5.1.Name), .int .i64 q5.1.N, .slice A9 q5.1.Kids.length c10] 24 (0, 0))] hmix ?_
        refine StD.takeP (i := 0) (v := (.agg #[.int .i64 0, .string (bs []), .int .i64 0, .slice none 0 0])) rfl (fun _ => Yields.build (v := (.agg #[.int .i64 0, .string (bs []), .int .i64 0, .slice none 0 0])) (vs := #[]) (fun a _ => by simp) (fun _ => by kernel_rfl)) rfl rfl trivial (by rintro _ _ _ ⟨_, _, _, _, h, _⟩; cases h) (by kernel_rfl) (listed' := #[true, false, false, false, false, false, false, false]) rfl ?_
        refine StD.takeP (i := 1) (v := (.pointer (some ⟨b4, 0, none⟩))) rfl (fun _ => Yields.move rfl) rfl rfl trivial (by rintro _ _ _ ⟨_, _, _, _, h, _⟩; cases h) (by kernel_rfl) (listed' := #[true, true, false, false, false, false, false, false]) rfl ?_
        refine StD.takeP (i := 2) (v := (.pointer (some ⟨b4, 0, none⟩))) rfl (fun _ => Yields.nilCheck rfl) rfl rfl trivial (by rintro _ _ _ ⟨_, _, _, _, h, _⟩; cases h) (by kernel_rfl) (listed' := #[true, true, true, false, false, false, false, false]) rfl ?_
        refine StD.takeP (i := 3) (v := (.pointer (some ⟨b4, 2, none⟩))) rfl (fun _ => Yields.fieldAddr (v := (.pointer (some ⟨b4, 2, none⟩))) rfl (fun _ => by kernel_rfl)) rfl rfl trivial (by rintro _ _ _ ⟨_, _, _, _, h, _⟩; cases h) (by kernel_rfl) (listed' := #[true, true, true, true, false, false, false, false]) rfl ?_
        refine StD.take [0, 1, 2, 3, 6, 7] (i := 4) (v := (.int .i64 z14)) rfl (Yields.load rfl (Loads.H1 1 rfl tc3 rfl)) rfl rfl trivial Among.refl (by rintro _ _ _ ⟨_, _, _, _, h, _⟩; cases h) (by kernel_rfl) (listed' := #[true, true, true, true, true, false, false, false]) rfl ?_
        refine StD.only (i := 5) rfl (by kernel_rfl) (listed' := #[true, true, true, true, true, true, false, false]) rfl ?_
        intro hcl31
        refine St.storen (R := [blk b4 (.cells #[.string (bs a0), .int .i64 q5.2.1, .int .i64 z14] 50 (0, 0)), blk b13 (.cells #[.int .i64 q5.1.Op, .string (bs q5.1.Name), .int .i64 q5.1.N, .slice A9 q5.1.Kids.length c10] 24 (0, 0))]) rfl rfl 0 rfl rfl ta24 rfl rfl rfl trivial (cs' := #[.int .i64 0, .string (bs []), .int .i64 0, .slice none 0 0]) rfl ?_
        refine StD.next hcl31 (fun _ => Among.refl) ?_
        refine StD.takeP (i := 6) (v := (.int .i64 z14)) rfl (fun _ => Yields.assign rfl) rfl rfl trivial (by rintro _ _ _ ⟨_, _, _, _, h, _⟩; cases h) (by kernel_rfl) (listed' := #[true, true, true, true, true, true, true, false]) rfl ?_
        refine StD.takeP (i := 7) (v := (.int .i64 2)) rfl (fun _ => Yields.assign rfl) rfl rfl trivial (by rintro _ _ _ ⟨_, _, _, _, h, _⟩; cases h) (by kernel_rfl) (listed' := #[true, true, true, true, true, true, true, true]) rfl ?_
        refine StD.done (by kernel_rfl) ?_
        refine St.norm ?_
        refine St.ret ?_
        refine St.thenret ?_
        obtain rfl := sI hm
        exact St.doneR3 rfl (ResOk.cell rfl (Loads.Hk (vs := [.int .i64 0, .string (bs []), .int .i64 0, .slice none 0 0]) 0 rfl ta24 rfl rfl)) rfl rfl ⟨none, 0, rfl, Fsl.nil, rfl⟩ (fun w hs => Among.of Among.none w hs)
      · intro q32
        replace q32 : ¬ (z14 ≥ 0) := of_decide_eq_false q32
        replace hm := iF hm q32
        refine St.skip ?_
        refine St.norm ?_
        refine St.seq ?_
        refine St.seq ?_
        refine St.region ?_
        refine St.val (v := (.agg #[.int .i64 q5.1.Op, .string (bs q5.1.Name), .int .i64 q5.1.N, .slice A9 q5.1.Kids.length c10])) (Yields.load rfl (Loads.Hk (vs := [.int .i64 q5.1.Op, .string (bs q5.1.Name), .int .i64 q5.1.N, .slice A9 q5.1.Kids.length c10]) 2 rfl ta24 rfl rfl)) trivial rfl rfl ?_
        obtain ⟨q33, e34, hm⟩ := bS hm
        refine St.call [blk b1 (.cells #[.int .i64 0, .string (bs []), .int .i64 0, .slice none 0 0] 24 (0, 0)), blk b4 (.cells #[.string (bs a0), .int .i64 q5.2.1, .int .i64 z14] 50 (0, 0)), blk b13 (.cells #[.int .i64 q5.1.Op, .string (bs q5.1.Name), .int .i64 q5.1.N, .slice A9 q5.1.Kids.length c10] 24 (0, 0))] (m_value_Validate_sp (a0 := q5.1) (Fsl.mono l16 h11) e34) rfl (fun _ ha => ev1 ha rfl) rfl en30 rfl rfl trivial ?_
        rintro _ F35 _ ⟨rfl, rfl⟩ l36
        refine St.val (v := (.int .i64 q33)) (Yields.assign rfl) trivial rfl rfl ?_
        refine St.nil ?_
        refine St.norm ?_
        refine St.seq ?_
        refine St.region ?_
        refine St.val (v := (.int .i64 q33)) (Yields.move rfl) trivial rfl rfl ?_
        refine St.val (v := (.bool (!decide (q33 = 0)))) (Yields.ne rfl rfl) trivial rfl rfl ?_
        refine St.nil ?_
        refine St.norm ?_
        refine St.cond_b rfl ?_ ?_
        · intro q37
          replace q37 : ¬ (q33 = 0) := nd_t q37
          replace hm := iF hm q37
          refine St.seq ?_
          refine St.region ?_
          refine St.val (v := (.agg #[.int .i64 0, .string (bs []), .int .i64 0, .slice none 0 0])) (Yields.build (v := (.agg #[.int .i64 0, .string (bs []), .int .i64 0, .slice none 0 0])) (vs := #[]) (fun a _ => by simp) (fun _ => by kernel_rfl)) trivial rfl rfl ?_
          refine St.val (v := (.int .i64 q33)) (Yields.move rfl) trivial rfl rfl ?_
          refine St.storen (R := [blk b4 (.cells #[.string (bs a0), .int .i64 q5.2.1, .int .i64 z14] 50 (0, 0)), blk b13 (.cells #[.int .i64 q5.1.Op, .string (bs q5.1.Name), .int .i64 q5.1.N, .slice A9 q5.1.Kids.length c10] 24 (0, 0))]) rfl rfl 0 rfl rfl ta24 rfl rfl rfl trivial (cs' := #[.int .i64 0, .string (bs []), .int .i64 0, .slice none 0 0]) rfl ?_
          refine St.val (v := (.int .i64 0)) (Yields.assign rfl) trivial rfl rfl ?_
          refine St.val (v := (.int .i64 q33)) (Yields.assign rfl) trivial rfl rfl ?_
          refine St.nil ?_
          refine St.norm ?_
          refine St.ret ?_
          refine St.thenret ?_
          obtain rfl := sI hm
          exact St.doneR3 rfl (ResOk.cell rfl (Loads.Hk (vs := [.int .i64 0, .string (bs []), .int .i64 0, .slice none 0 0]) 0 rfl ta24 rfl rfl)) rfl rfl ⟨none, 0, rfl, Fsl.nil, rfl⟩ (fun w hs => Among.of Among.none w hs)
        · intro q38
          replace q38 : q33 = 0 := nd_f q38
          replace hm := iT hm q38
          refine St.skip ?_
          refine St.norm ?_
          refine St.seq ?_
          refine St.region ?_
          refine St.val (v := (.agg #[.int .i64 q5.1.Op, .string (bs q5.1.Name), .int .i64 q5.1.N, .slice A9 q5.1.Kids.length c10])) (Yields.load rfl (Loads.Hk (vs := [.int .i64 q5.1.Op, .string (bs q5.1.Name), .int .i64 q5.1.N, .slice A9 q5.1.Kids.length c10]) 2 rfl ta24 rfl rfl)) trivial rfl rfl ?_
          refine St.storen (R := [blk b4 (.cells #[.string (bs a0), .int .i64 q5.2.1, .int .i64 z14] 50 (0, 0)), blk b13 (.cells #[.int .i64 q5.1.Op, .string (bs q5.1.Name), .int .i64 q5.1.N, .slice A9 q5.1.Kids.length c10] 24 (0, 0))]) rfl rfl 0 rfl rfl ta24 rfl rfl rfl trivial (cs' := #[.int .i64 q5.1.Op, .string (bs q5.1.Name), .int .i64 q5.1.N, .slice A9 q5.1.Kids.length c10]) rfl ?_
          refine St.val (v := (.int .i64 0)) (Yields.assign rfl) trivial rfl rfl ?_
          refine St.val (v := (.int .i64 0)) (Yields.assign rfl) trivial rfl rfl ?_
          refine St.nil ?_
          refine St.norm ?_
          refine St.ret ?_
          obtain rfl := sI hm
          exact St.doneR3 rfl (ResOk.cell rfl (Loads.Hk (vs := [.int .i64 q5.1.Op, .string (bs q5.1.Name), .int .i64 q5.1.N, .slice A9 q5.1.Kids.length c10]) 0 rfl ta24 rfl rfl)) rfl rfl ⟨A9, c10, rfl, (Fsl.mono (PH.le_trans l16 l36) h11), rfl⟩ (fun w hs => Among.of Among.none w hs)

theorem m_ref08_isSmall_sp {F : PH} {g : Nat} {a0 : Int} {r : Bool} (hm : m_ref08_isSmall g a0 = some r) :
    CallSp Try.prog 93 #[.int .u8 a0] F [] (fun u F' H' => u = (.bool r) ∧ H' = []) := by
  unfold m_ref08_isSmall at hm
  refine CallSp.enter (args := [.int .u8 a0]) Try.func93 rfl rfl ?_
  intro w0 m0 hm0
  refine St.seq ?_
  refine St.region ?_
  refine St.val (v := (.bool false)) (Yields.assign rfl) trivial rfl rfl ?_
  refine St.nil ?_
  refine St.norm ?_
  obtain ⟨z1, hm, hk2⟩ := bS hm
  refine St.cutI (fun a w => Has Try.f93.ntmps a [(2, .bool z1)] ∧ Sat ⟨w0, fun b => m0 b ≠ none, F⟩ F [] w) ?_ ?_
  · skip
    refine St.region ?_
    refine St.val (v := (.int .u8 a0)) (Yields.move rfl) trivial rfl rfl ?_
    by_cases q3 : a0 ≥ 97
    · replace hm := iT hm q3
      refine St.val (v := (.bool true)) (Yields.is q3 (Yields.ge rfl rfl)) trivial rfl rfl ?_
      refine St.val (v := (.bool true)) (Yields.move rfl) trivial rfl rfl ?_
      refine St.val (v := (.int .u8 a0)) (Yields.move rfl) rfl rfl rfl ?_
      refine St.val (v := (.bool (decide (a0 ≤ 122)))) (Yields.le rfl rfl) rfl rfl rfl ?_
      refine St.val (v := (.bool (decide (a0 ≤ 122)))) (Yields.pick_t rfl rfl) trivial rfl rfl ?_
      refine St.val (v := (.bool (decide (a0 ≤ 122)))) (Yields.assign rfl) trivial rfl rfl ?_
      refine St.nil ?_
      obtain rfl := sI hm
      intro a w ha hs
      exact ⟨ha.covers ⟨rfl, trivial⟩, (Among.of Among.none _ hs)⟩
    · replace hm := iF hm q3
      refine St.val (v := (.bool false)) (Yields.isnt q3 (Yields.ge rfl rfl)) trivial rfl rfl ?_
      refine St.val (v := (.bool false)) (Yields.move rfl) trivial rfl rfl ?_
      refine St.unwanted rfl rfl rfl ?_
      refine St.unwanted rfl rfl rfl ?_
      refine St.val (v := (.bool false)) (Yields.pick_f rfl rfl) trivial rfl rfl ?_
      refine St.val (v := (.bool false)) (Yields.assign rfl) trivial rfl rfl ?_
      refine St.nil ?_
      obtain rfl := sI hm
      intro a w ha hs
      exact ⟨ha.covers ⟨rfl, trivial⟩, (Among.of Among.none _ hs)⟩
  · rintro a w ⟨ha, hs⟩
    replace hm := hk2
    refine St.use (?_ : St _ _ _ _ _ _) ha hs
    clear ha hs a w
    refine St.ret ?_
    obtain rfl := sI hm
    exact St.doneR1 rfl rfl ⟨rfl, rfl⟩ (fun w hs => Among.of Among.none w hs)

theorem m_ref08_isGreat_sp {F : PH} {g : Nat} {a0 : Int} {r : Bool} (hm : m_ref08_isGreat g a0 = some r) :
    CallSp Try.prog 94 #[.int .u8 a0] F [] (fun u F' H' => u = (.bool r) ∧ H' = []) := by
  unfold m_ref08_isGreat at hm
  refine CallSp.enter (args := [.int .u8 a0]) Try.func94 rfl rfl ?_
  intro w0 m0 hm0
  refine St.seq ?_
  refine St.region ?_
  refine St.val (v := (.bool false)) (Yields.assign rfl) trivial rfl rfl ?_
  refine St.nil ?_
  refine St.norm ?_
  obtain ⟨z1, hm, hk2⟩ := bS hm
  refine St.cutI (fun a w => Has Try.f94.ntmps a [(2, .bool z1)] ∧ Sat ⟨w0, fun b => m0 b ≠ none, F⟩ F [] w) ?_ ?_
  · skip
    refine St.region ?_
    refine St.val (v := (.int .u8 a0)) (Yields.move rfl) trivial rfl rfl ?_
    by_cases q3 : a0 ≥ 65
    · replace hm := iT hm q3
      refine St.val (v := (.bool true)) (Yields.is q3 (Yields.ge rfl rfl)) trivial rfl rfl ?_
      refine St.val (v := (.bool true)) (Yields.move rfl) trivial rfl rfl ?_
      refine St.val (v := (.int .u8 a0)) (Yields.move rfl) rfl rfl rfl ?_
      refine St.val (v := (.bool (decide (a0 ≤ 90)))) (Yields.le rfl rfl) rfl rfl rfl ?_
      refine St.val (v := (.bool (decide (a0 ≤ 90)))) (Yields.pick_t rfl rfl) trivial rfl rfl ?_
      refine St.val (v := (.bool (decide (a0 ≤ 90)))) (Yields.assign rfl) trivial rfl rfl ?_
      refine St.nil ?_
      obtain rfl := sI hm
      intro a w ha hs
      exact ⟨ha.covers ⟨rfl, trivial⟩, (Among.of Among.none _ hs)⟩
    · replace hm := iF hm q3
      refine St.val (v := (.bool false)) (Yields.isnt q3 (Yields.ge rfl rfl)) trivial rfl rfl ?_
      refine St.val (v := (.bool false)) (Yields.move rfl) trivial rfl rfl ?_
      refine St.unwanted rfl rfl rfl ?_
      refine St.unwanted rfl rfl rfl ?_
      refine St.val (v := (.bool false)) (Yields.pick_f rfl rfl) trivial rfl rfl ?_
      refine St.val (v := (.bool false)) (Yields.assign rfl) trivial rfl rfl ?_
      refine St.nil ?_
      obtain rfl := sI hm
      intro a w ha hs
      exact ⟨ha.covers ⟨rfl, trivial⟩, (Among.of Among.none _ hs)⟩
  · rintro a w ⟨ha, hs⟩
    replace hm := hk2
    refine St.use (?_ : St _ _ _ _ _ _) ha hs
    clear ha hs a w
    refine St.ret ?_
    obtain rfl := sI hm
    exact St.doneR1 rfl rfl ⟨rfl, rfl⟩ (fun w hs => Among.of Among.none w hs)

theorem m_ref08_isDigit_sp {F : PH} {g : Nat} {a0 : Int} {r : Bool} (hm : m_ref08_isDigit g a0 = some r) :
    CallSp Try.prog 68 #[.int .u8 a0] F [] (fun u F' H' => u = (.bool r) ∧ H' = []) := by
  unfold m_ref08_isDigit at hm
  refine CallSp.enter (args := [.int .u8 a0]) Try.func68 rfl rfl ?_
  intro w0 m0 hm0
  refine St.seq ?_
  refine St.region ?_
  refine St.val (v := (.bool false)) (Yields.assign rfl) trivial rfl rfl ?_
  refine St.nil ?_
  refine St.norm ?_
  obtain ⟨z1, hm, hk2⟩ := bS hm
  refine St.cutI (fun a w => Has Try.f68.ntmps a [(2, .bool z1)] ∧ Sat ⟨w0, fun b => m0 b ≠ none, F⟩ F [] w) ?_ ?_
  · skip
    refine St.region ?_
    refine St.val (v := (.int .u8 a0)) (Yields.move rfl) trivial rfl rfl ?_
    by_cases q3 : a0 ≥ 48
    · replace hm := iT hm q3
      refine St.val (v := (.bool true)) (Yields.is q3 (Yields.ge rfl rfl)) trivial rfl rfl ?_
      refine St.val (v := (.bool true)) (Yields.move rfl) trivial rfl rfl ?_
      refine St.val (v := (.int .u8 a0)) (Yields.move rfl) rfl rfl rfl ?_
      refine St.val (v := (.bool (decide (a0 ≤ 57)))) (Yields.le rfl rfl) rfl rfl rfl ?_
      refine St.val (v := (.bool (decide (a0 ≤ 57)))) (Yields.pick_t rfl rfl) trivial rfl rfl ?_
      refine St.val (v := (.bool (decide (a0 ≤ 57)))) (Yields.assign rfl) trivial rfl rfl ?_
      refine St.nil ?_
      obtain rfl := sI hm
      intro a w ha hs
      exact ⟨ha.covers ⟨rfl, trivial⟩, (Among.of Among.none _ hs)⟩
    · replace hm := iF hm q3
      refine St.val (v := (.bool false)) (Yields.isnt q3 (Yields.ge rfl rfl)) trivial rfl rfl ?_
      refine St.val (v := (.bool false)) (Yields.move rfl) trivial rfl rfl ?_
      refine St.unwanted rfl rfl rfl ?_
      refine St.unwanted rfl rfl rfl ?_
      refine St.val (v := (.bool false)) (Yields.pick_f rfl rfl) trivial rfl rfl ?_
      refine St.val (v := (.bool false)) (Yields.assign rfl) trivial rfl rfl ?_
      refine St.nil ?_
      obtain rfl := sI hm
      intro a w ha hs
      exact ⟨ha.covers ⟨rfl, trivial⟩, (Among.of Among.none _ hs)⟩
  · rintro a w ⟨ha, hs⟩
    replace hm := hk2
    refine St.use (?_ : St _ _ _ _ _ _) ha hs
    clear ha hs a w
    refine St.ret ?_
    obtain rfl := sI hm
    exact St.doneR1 rfl rfl ⟨rfl, rfl⟩ (fun w hs => Among.of Among.none w hs)

theorem m_ref08_isWord_sp {F : PH} {g : Nat} {a0 : Int} {r : Bool} (hm : m_ref08_isWord g a0 = some r) :
    CallSp Try.prog 67 #[.int .u8 a0] F [] (fun u F' H' => u = (.bool r) ∧ H' = []) := by
  unfold m_ref08_isWord at hm
  refine CallSp.enter (args := [.int .u8 a0]) Try.func67 rfl rfl ?_
  intro w0 m0 hm0
  refine St.seq ?_
  refine St.region ?_
  refine St.val (v := (.bool false)) (Yields.assign rfl) trivial rfl rfl ?_
  refine St.nil ?_
  refine St.norm ?_
  obtain ⟨z1, hm, hk4⟩ := bS hm
  refine St.cutI (fun a w => ∃ (F2 : PH), PH.le F F2 ∧ Has Try.f67.ntmps a [(2, .bool z1)] ∧ Sat ⟨w0, fun b => m0 b ≠ none, F⟩ F2 [] w) ?_ ?_
  · skip
    refine St.region ?_
    refine St.val (v := (.int .u8 a0)) (Yields.move rfl) trivial rfl rfl ?_
    obtain ⟨q5, e6, hm⟩ := bS hm
    refine St.call [] (m_ref08_isSmall_sp e6) rfl (fun _ ha => ev1 ha rfl) rfl en93 rfl rfl trivial ?_
    rintro _ F7 _ ⟨rfl, rfl⟩ l8
    by_cases q9 : q5 = true
    · replace hm := iT hm q9
      have hb10 : (q5) = true := q9
      try rw [hb10]
      refine St.val (v := (.bool true)) (Yields.move rfl) trivial rfl rfl ?_
      refine St.unwanted rfl rfl rfl ?_
      refine St.unwanted rfl rfl rfl ?_
      refine St.val (v := (.bool true)) (Yields.pick_t rfl rfl) trivial rfl rfl ?_
      refine St.val (v := (.bool true)) (Yields.move rfl) trivial rfl rfl ?_
      refine St.unwanted rfl rfl rfl ?_
      refine St.unwanted rfl rfl rfl ?_
      refine St.val (v := (.bool true)) (Yields.pick_t rfl rfl) trivial rfl rfl ?_
      refine St.val (v := (.bool true)) (Yields.move rfl) trivial rfl rfl ?_
      refine St.unwanted rfl rfl rfl ?_
      refine St.unwanted rfl rfl rfl ?_
      refine St.val (v := (.bool true)) (Yields.pick_t rfl rfl) trivial rfl rfl ?_
      refine St.val (v := (.bool true)) (Yields.assign rfl) trivial rfl rfl ?_
      refine St.nil ?_
      obtain rfl := sI hm
      intro a w ha hs
      exact ⟨F7, l8, ha.covers ⟨rfl, trivial⟩, (Among.of Among.none _ hs)⟩
    · replace hm := iF hm q9
      have hb11 : (q5) = false := eq_false_of_ne_true q9
      try rw [hb11]
      refine St.val (v := (.bool false)) (Yields.move rfl) trivial rfl rfl ?_
      refine St.val (v := (.int .u8 a0)) (Yields.move rfl) rfl rfl rfl ?_
      obtain ⟨q12, e13, hm⟩ := bS hm
      refine St.call [] (m_ref08_isGreat_sp e13) rfl (fun _ ha => ev1 ha rfl) rfl en94 rfl rfl rfl ?_
      rintro _ F14 _ ⟨rfl, rfl⟩ l15
      by_cases q16 : q12 = true
      · replace hm := iT hm q16
        have hb17 : (q12) = true := q16
        try rw [hb17]
        refine St.val (v := (.bool true)) (Yields.pick_f rfl rfl) trivial rfl rfl ?_
        refine St.val (v := (.bool true)) (Yields.move rfl) trivial rfl rfl ?_
        refine St.unwanted rfl rfl rfl ?_
        refine St.unwanted rfl rfl rfl ?_
        refine St.val (v := (.bool true)) (Yields.pick_t rfl rfl) trivial rfl rfl ?_
        refine St.val (v := (.bool true)) (Yields.move rfl) trivial rfl rfl ?_
        refine St.unwanted rfl rfl rfl ?_
        refine St.unwanted rfl rfl rfl ?_
        refine St.val (v := (.bool true)) (Yields.pick_t rfl rfl) trivial rfl rfl ?_
        refine St.val (v := (.bool true)) (Yields.assign rfl) trivial rfl rfl ?_
        refine St.nil ?_
        obtain rfl := sI hm
        intro a w ha hs
        exact ⟨F14, (PH.le_trans l8 l15), ha.covers ⟨rfl, trivial⟩, (Among.of Among.none _ hs)⟩
      · replace hm := iF hm q16
        have hb18 : (q12) = false := eq_false_of_ne_true q16
        try rw [hb18]
        refine St.val (v := (.bool false)) (Yields.pick_f rfl rfl) trivial rfl rfl ?_
        refine St.val (v := (.bool false)) (Yields.move rfl) trivial rfl rfl ?_
        refine St.val (v := (.int .u8 a0)) (Yields.move rfl) rfl rfl rfl ?_
        obtain ⟨q19, e20, hm⟩ := bS hm
        refine St.call [] (m_ref08_isDigit_sp e20) rfl (fun _ ha => ev1 ha rfl) rfl en68 rfl rfl rfl ?_
        rintro _ F21 _ ⟨rfl, rfl⟩ l22
        by_cases q23 : q19 = true
        · replace hm := iT hm q23
          have hb24 : (q19) = true := q23
          try rw [hb24]
          refine St.val (v := (.bool true)) (Yields.pick_f rfl rfl) trivial rfl rfl ?_
          refine St.val (v := (.bool true)) (Yields.move rfl) trivial rfl rfl ?_
          refine St.unwanted rfl rfl rfl ?_
          refine St.unwanted rfl rfl rfl ?_
          refine St.val (v := (.bool true)) (Yields.pick_t rfl rfl) trivial rfl rfl ?_
          refine St.val (v := (.bool true)) (Yields.assign rfl) trivial rfl rfl ?_
          refine St.nil ?_
          obtain rfl := sI hm
          intro a w ha hs
          exact ⟨F21, (PH.le_trans l8 (PH.le_trans l15 l22)), ha.covers ⟨rfl, trivial⟩, (Among.of Among.none _ hs)⟩
        · replace hm := iF hm q23
          have hb25 : (q19) = false := eq_false_of_ne_true q23
          try rw [hb25]
          refine St.val (v := (.bool false)) (Yields.pick_f rfl rfl) trivial rfl rfl ?_
          refine St.val (v := (.bool false)) (Yields.move rfl) trivial rfl rfl ?_
          refine St.val (v := (.int .u8 a0)) (Yields.move rfl) rfl rfl rfl ?_
          refine St.val (v := (.bool (decide (a0 = 95)))) (Yields.eq rfl rfl) rfl rfl rfl ?_
          refine St.val (v := (.bool (decide (a0 = 95)))) (Yields.pick_f rfl rfl) trivial rfl rfl ?_
          refine St.val (v := (.bool (decide (a0 = 95)))) (Yields.assign rfl) trivial rfl rfl ?_
          refine St.nil ?_
          obtain rfl := sI hm
          intro a w ha hs
          exact ⟨F21, (PH.le_trans l8 (PH.le_trans l15 l22)), ha.covers ⟨rfl, trivial⟩, (Among.of Among.none _ hs)⟩
  · rintro a w ⟨F2, l3, ha, hs⟩
    replace hm := hk4
    refine St.use (?_ : St _ _ _ _ _ _) ha hs
    clear ha hs a w
    refine St.ret ?_
    obtain rfl := sI hm
    exact St.doneR1 rfl rfl ⟨rfl, rfl⟩ (fun w hs => Among.of Among.none w hs)

theorem m_ref08_tokens_sp {F : PH} {g : Nat} {a0 : List UInt8} {r : List DToken} (hm : m_ref08_tokens g a0 = some r) :
    CallSp Try.prog 31 #[.string (bs a0)] F [] (fun u F' H' => ∃ (B0 : Option Addr) (d0 : Nat), u = (.slice B0 r.length d0) ∧ Fsl 24 KDToken F' B0 d0 r ∧ H' = []) := by
  unfold m_ref08_tokens at hm
  refine CallSp.enter (args := [.string (bs a0)]) Try.func31 rfl rfl ?_
  intro w0 m0 hm0
  refine St.seq ?_
  refine St.region ?_
  refine St.val (v := (.slice none 0 0)) (Yields.assign rfl) trivial rfl rfl ?_
  refine St.nil ?_
  refine St.norm ?_
  refine St.seq ?_
  refine St.region ?_
  refine St.val (v := (.slice none 0 0)) (Yields.assign rfl) trivial rfl rfl ?_
  refine St.nil ?_
  refine St.norm ?_
  obtain ⟨z1, hm, hk10⟩ := bS hm
  refine St.cutI (fun a w => ∃ (A5 : Option Addr) (c6 : Nat) (cells8 : List Value) (F2 : PH), PH.le F F2 ∧ Cat KDToken F2 cells8 z1 ∧ Bnd 24 z1 ∧ Has Try.f31.ntmps a [(0, .string (bs a0)), (3, .slice A5 z1.length c6)] ∧ Sat ⟨w0, fun b => m0 b ≠ none, F⟩ F2 [rowo A5 z1.length c6 61 2 cells8] w) ?_ ?_
  · skip
    refine St.seq ?_
    refine St.region ?_
    refine St.val (v := (.int .i64 0)) (Yields.assign rfl) trivial rfl rfl ?_
    refine St.nil ?_
    refine St.norm ?_
    refine St.block ?_
    refine St.loopM hm (fun s20 a w => ∃ (A25 : Option Addr) (c26 : Nat) (cells28 : List Value) (F30 : PH), PH.le F F30 ∧ Cat KDToken F30 cells28 s20.1 ∧ Bnd 24 s20.1 ∧ Has Try.f31.ntmps a [(0, .string (bs a0)), (3, .slice A25 s20.1.length c26), (4, .int .i64 s20.2)] ∧ Sat ⟨w0, fun b => m0 b ≠ none, F⟩ F30 [rowo A25 s20.1.length c26 61 2 cells28] w) ?_ ?_
    · skip
      refine St.rowo_new 61 2 ?_
      intro a w ha hs
      exact ⟨none, 0, [], F, (PH.le_refl _), (show Cat KDToken _ [] [] from rfl), Bnd.of_nil, ha.covers ⟨rfl, rfl, rfl, trivial⟩, (Among.of (Among.take 0 rfl rfl Among.none) _ hs)⟩
    · rintro s20 o21 co22 hm ho23 a w ⟨A25, c26, cells28, F30, l31, h27, b29, ha, hs⟩
      refine St.use (?_ : St _ _ _ _ _ _) ha hs
      clear ha hs a w
      refine St.seq ?_
      refine St.seq ?_
      refine St.region ?_
      refine St.val (v := (.int .i64 s20.2)) (Yields.move rfl) trivial rfl rfl ?_
      refine St.val (v := (.string (bs a0))) (Yields.move rfl) trivial rfl rfl ?_
      refine St.val (v := (.int .i64 ((a0.length : Nat) : Int))) (Yields.lenStr tu9 rfl) trivial rfl rfl ?_
      refine St.val (v := (.bool (decide (s20.2 < ((a0.length : Nat) : Int))))) (Yields.lt rfl rfl) trivial rfl rfl ?_
      refine St.nil ?_
      refine St.norm ?_
      refine St.cond_b rfl ?_ ?_
      · intro q33
        replace q33 : s20.2 < ((a0.length : Nat) : Int) := of_decide_eq_true q33
        replace hm := iT hm q33
        refine St.skip ?_
        refine St.norm ?_
        refine St.block ?_
        refine St.seq ?_
        refine St.seq ?_
        refine St.region ?_
        refine St.val (v := (.string (bs a0))) (Yields.move rfl) trivial rfl rfl ?_
        refine St.val (v := (.int .i64 s20.2)) (Yields.move rfl) trivial rfl rfl ?_
        obtain ⟨x34, e35, hm⟩ := bS hm
        refine St.val (v := (.int .u8 ((x34.toNat : Nat) : Int))) (Yields.indexStr e35 tu9 rfl rfl) trivial rfl rfl ?_
        refine St.val (v := (.bool (decide (((x34.toNat : Nat) : Int) = 32)))) (Yields.eq rfl rfl) trivial rfl rfl ?_
        refine St.nil ?_
        refine St.norm ?_
        refine St.cond_b rfl ?_ ?_
        · intro q36
          replace q36 : ((x34.toNat : Nat) : Int) = 32 := of_decide_eq_true q36
          replace hm := iT hm q36
          refine St.seq ?_
          refine St.region ?_
          refine St.val (v := (.int .i64 s20.2)) (Yields.move rfl) trivial rfl rfl ?_
          refine St.val (v := (.int .i64 (Mir.w64 (s20.2 + 1)))) (Yields.addw rfl rfl) trivial rfl rfl ?_
          refine St.val (v := (.int .i64 (Mir.w64 (s20.2 + 1)))) (Yields.assign rfl) trivial rfl rfl ?_
          refine St.nil ?_
          refine St.norm ?_
          refine St.exit ?_
          refine St.thenexit ?_
          refine St.inexit ?_
          refine St.norm ?_
          obtain rfl := sI hm
          intro a w ha hs
          exact ⟨(s20.1, Mir.w64 (s20.2 + 1)), aL ho23, A25, c26, cells28, F30, l31, h27, b29, ha.covers ⟨rfl, rfl, rfl, trivial⟩, (Among.of (Among.take 0 rfl rfl Among.none) _ hs)⟩
        · intro q37
          replace q37 : ¬ (((x34.toNat : Nat) : Int) = 32) := of_decide_eq_false q37
          replace hm := iF hm q37
          refine St.skip ?_
          refine St.norm ?_
          refine St.seq ?_
          refine St.region ?_
          refine St.val (v := (.int .i64 s20.2)) (Yields.move rfl) trivial rfl rfl ?_
          refine St.val (v := (.int .i64 (Mir.w64 (s20.2 + 1)))) (Yields.addw rfl rfl) trivial rfl rfl ?_
          refine St.val (v := (.int .i64 (Mir.w64 (s20.2 + 1)))) (Yields.assign rfl) trivial rfl rfl ?_
          refine St.nil ?_
          refine St.norm ?_
          obtain ⟨z38, hm, hk41⟩ := bS hm
          refine St.cutI (fun a w => ∃ (F39 : PH), PH.le F30 F39 ∧ Has Try.f31.ntmps a [(0, .string (bs a0)), (3, .slice A25 s20.1.length c26), (4, .int .i64 s20.2), (5, .int .i64 (Mir.w64 (s20.2 + 1))), (6, .bool z38)] ∧ Sat ⟨w0, fun b => m0 b ≠ none, F⟩ F39 [rowo A25 s20.1.length c26 61 2 cells28] w) ?_ ?_
          · skip
            refine St.region ?_
            refine St.val (v := (.string (bs a0))) (Yields.move rfl) trivial rfl rfl ?_
            refine St.val (v := (.int .i64 s20.2)) (Yields.move rfl) trivial rfl rfl ?_
            obtain ⟨x42, e43, hm⟩ := bS hm
            refine St.val (v := (.int .u8 ((x42.toNat : Nat) : Int))) (Yields.indexStr e43 tu9 rfl rfl) trivial rfl rfl ?_
            obtain ⟨q44, e45, hm⟩ := bS hm
            refine St.call [rowo A25 s20.1.length c26 61 2 cells28] (m_ref08_isWord_sp e45) rfl (fun _ ha => ev1 ha rfl) rfl en67 rfl rfl trivial ?_
            rintro _ F46 _ ⟨rfl, rfl⟩ l47
            by_cases q48 : q44 = true
            · replace hm := iT hm q48
              have hb49 : (q44) = true := q48
              try rw [hb49]
              refine St.val (v := (.bool true)) (Yields.move rfl) trivial rfl rfl ?_
              refine St.unwanted rfl rfl rfl ?_
              refine St.unwanted rfl rfl rfl ?_
              refine St.unwanted rfl rfl rfl ?_
              refine St.unwanted rfl rfl rfl ?_
              refine St.val (v := (.bool true)) (Yields.pick_t rfl rfl) trivial rfl rfl ?_
              refine St.val (v := (.bool true)) (Yields.move rfl) trivial rfl rfl ?_
              refine St.unwanted rfl rfl rfl ?_
              refine St.unwanted rfl rfl rfl ?_
              refine St.unwanted rfl rfl rfl ?_
              refine St.unwanted rfl rfl rfl ?_
              refine St.unwanted rfl rfl rfl ?_
              refine St.unwanted trivial rfl rfl ?_
              refine St.unwanted trivial rfl rfl ?_
              refine St.unwanted trivial rfl rfl ?_
              refine St.unwanted trivial rfl rfl ?_
              refine St.unwanted rfl rfl rfl ?_
              refine St.unwanted rfl rfl rfl ?_
              refine St.unwanted trivial rfl rfl ?_
              refine St.unwanted trivial rfl rfl ?_
              refine St.unwanted trivial rfl rfl ?_
              refine St.unwanted trivial rfl rfl ?_
              refine St.unwanted rfl rfl rfl ?_
              refine St.val (v := (.bool true)) (Yields.pick_t rfl rfl) trivial rfl rfl ?_
              refine St.val (v := (.bool true)) (Yields.assign rfl) trivial rfl rfl ?_
              refine St.nil ?_
              obtain rfl := sI hm
              intro a w ha hs
              exact ⟨F46, l47, ha.covers ⟨rfl, rfl, rfl, rfl, rfl, trivial⟩, (Among.of (Among.take 0 rfl rfl Among.none) _ hs)⟩
            · replace hm := iF hm q48
              have hb50 : (q44) = false := eq_false_of_ne_true q48
              try rw [hb50]
              refine St.val (v := (.bool false)) (Yields.move rfl) trivial rfl rfl ?_
              refine St.val (v := (.string (bs a0))) (Yields.move rfl) rfl rfl rfl ?_
              refine St.val (v := (.int .i64 s20.2)) (Yields.move rfl) rfl rfl rfl ?_
              obtain ⟨x51, e52, hm⟩ := bS hm
              refine St.val (v := (.int .u8 ((x51.toNat : Nat) : Int))) (Yields.indexStr e52 tu9 rfl rfl) rfl rfl rfl ?_
              by_cases q53 : ((x51.toNat : Nat) : Int) = 39
              · replace hm := iT hm q53
                refine St.val (v := (.bool true)) (Yields.is q53 (Yields.eq rfl rfl)) rfl rfl rfl ?_
                refine St.val (v := (.bool true)) (Yields.pick_f rfl rfl) trivial rfl rfl ?_
                refine St.val (v := (.bool true)) (Yields.move rfl) trivial rfl rfl ?_
                refine St.unwanted rfl rfl rfl ?_
                refine St.unwanted rfl rfl rfl ?_
                refine St.unwanted rfl rfl rfl ?_
                refine St.unwanted rfl rfl rfl ?_
                refine St.unwanted rfl rfl rfl ?_
                refine St.unwanted trivial rfl rfl ?_
                refine St.unwanted trivial rfl rfl ?_
                refine St.unwanted trivial rfl rfl ?_
                refine St.unwanted trivial rfl rfl ?_
                refine St.unwanted rfl rfl rfl ?_
                refine St.unwanted rfl rfl rfl ?_
                refine St.unwanted trivial rfl rfl ?_
                refine St.unwanted trivial rfl rfl ?_
                refine St.unwanted trivial rfl rfl ?_
                refine St.unwanted trivial rfl rfl ?_
                refine St.unwanted rfl rfl rfl ?_
                refine St.val (v := (.bool true)) (Yields.pick_t rfl rfl) trivial rfl rfl ?_
                refine St.val (v := (.bool true)) (Yields.assign rfl) trivial rfl rfl ?_
                refine St.nil ?_
                obtain rfl := sI hm
                intro a w ha hs
                exact ⟨F46, l47, ha.covers ⟨rfl, rfl, rfl, rfl, rfl, trivial⟩, (Among.of (Among.take 0 rfl rfl Among.none) _ hs)⟩
              · replace hm := iF hm q53
                refine St.val (v := (.bool false)) (Yields.isnt q53 (Yields.eq rfl rfl)) rfl rfl rfl ?_
                refine St.val (v := (.bool false)) (Yields.pick_f rfl rfl) trivial rfl rfl ?_
                refine St.val (v := (.bool false)) (Yields.move rfl) trivial rfl rfl ?_
                refine St.val (v := (.string (bs a0))) (Yields.move rfl) rfl rfl rfl ?_
                refine St.val (v := (.int .i64 s20.2)) (Yields.move rfl) rfl rfl rfl ?_
                obtain ⟨x54, e55, hm⟩ := bS hm
                refine St.val (v := (.int .u8 ((x54.toNat : Nat) : Int))) (Yields.indexStr e55 tu9 rfl rfl) rfl rfl rfl ?_
                by_cases q56 : ((x54.toNat : Nat) : Int) = 45
                · replace hm := iT hm q56
                  refine St.val (v := (.bool true)) (Yields.is q56 (Yields.eq rfl rfl)) rfl rfl rfl ?_
                  refine St.val (v := (.bool true)) (Yields.move rfl) rfl rfl rfl ?_
                  refine St.val (v := (.int .i64 (Mir.w64 (s20.2 + 1)))) (Yields.move rfl) rfl rfl rfl ?_
                  refine St.val (v := (.string (bs a0))) (Yields.move rfl) rfl rfl rfl ?_
                  refine St.val (v := (.int .i64 ((a0.length : Nat) : Int))) (Yields.lenStr tu9 rfl) rfl rfl rfl ?_
                  by_cases q57 : Mir.w64 (s20.2 + 1) < ((a0.length : Nat) : Int)
                  · replace hm := iT hm q57
                    refine St.val (v := (.bool true)) (Yields.is q57 (Yields.lt rfl rfl)) rfl rfl rfl ?_
                    refine St.val (v := (.bool true)) (Yields.pick_t rfl rfl) rfl rfl rfl ?_
                    refine St.val (v := (.bool true)) (Yields.move rfl) rfl rfl rfl ?_
                    refine St.val (v := (.string (bs a0))) (Yields.move rfl) rfl rfl rfl ?_
                    refine St.val (v := (.int .i64 (Mir.w64 (s20.2 + 1)))) (Yields.move rfl) rfl rfl rfl ?_
                    obtain ⟨x58, e59, hm⟩ := bS hm
                    refine St.val (v := (.int .u8 ((x58.toNat : Nat) : Int))) (Yields.indexStr e59 tu9 rfl rfl) rfl rfl rfl ?_
                    obtain ⟨q60, e61, hm⟩ := bS hm
                    refine St.call [rowo A25 s20.1.length c26 61 2 cells28] (m_ref08_isDigit_sp e61) rfl (fun _ ha => ev1 ha rfl) rfl en68 rfl rfl rfl ?_
                    rintro _ F62 _ ⟨rfl, rfl⟩ l63
                    refine St.val (v := (.bool q60)) (Yields.pick_t rfl rfl) rfl rfl rfl ?_
                    refine St.val (v := (.bool q60)) (Yields.pick_f rfl rfl) trivial rfl rfl ?_
                    refine St.val (v := (.bool q60)) (Yields.assign rfl) trivial rfl rfl ?_
                    refine St.nil ?_
                    obtain rfl := sI hm
                    intro a w ha hs
                    exact ⟨F62, (PH.le_trans l47 l63), ha.covers ⟨rfl, rfl, rfl, rfl, rfl, trivial⟩, (Among.of (Among.take 0 rfl rfl Among.none) _ hs)⟩
                  · replace hm := iF hm q57
                    refine St.val (v := (.bool false)) (Yields.isnt q57 (Yields.lt rfl rfl)) rfl rfl rfl ?_
                    refine St.val (v := (.bool false)) (Yields.pick_t rfl rfl) rfl rfl rfl ?_
                    refine St.val (v := (.bool false)) (Yields.move rfl) rfl rfl rfl ?_
                    refine St.unwanted rfl rfl rfl ?_
                    refine St.unwanted rfl rfl rfl ?_
                    refine St.unwanted rfl rfl rfl ?_
                    refine St.unwanted rfl rfl rfl ?_
                    refine St.val (v := (.bool false)) (Yields.pick_f rfl rfl) rfl rfl rfl ?_
                    refine St.val (v := (.bool false)) (Yields.pick_f rfl rfl) trivial rfl rfl ?_
                    refine St.val (v := (.bool false)) (Yields.assign rfl) trivial rfl rfl ?_
                    refine St.nil ?_
                    obtain rfl := sI hm
                    intro a w ha hs
                    exact ⟨F46, l47, ha.covers ⟨rfl, rfl, rfl, rfl, rfl, trivial⟩, (Among.of (Among.take 0 rfl rfl Among.none) _ hs)⟩
                · replace hm := iF hm q56
                  refine St.val (v := (.bool false)) (Yields.isnt q56 (Yields.eq rfl rfl)) rfl rfl rfl ?_
                  refine St.val (v := (.bool false)) (Yields.move rfl) rfl rfl rfl ?_
                  refine St.unwanted rfl rfl rfl ?_
                  refine St.unwanted rfl rfl rfl ?_
                  refine St.unwanted rfl rfl rfl ?_
                  refine St.unwanted rfl rfl rfl ?_
                  refine St.val (v := (.bool false)) (Yields.pick_f rfl rfl) rfl rfl rfl ?_
                  refine St.val (v := (.bool false)) (Yields.move rfl) rfl rfl rfl ?_
                  refine St.unwanted rfl rfl rfl ?_
                  refine St.unwanted rfl rfl rfl ?_
                  refine St.unwanted rfl rfl rfl ?_
                  refine St.unwanted rfl rfl rfl ?_
                  refine St.val (v := (.bool false)) (Yields.pick_f rfl rfl) rfl rfl rfl ?_
                  refine St.val (v := (.bool false)) (Yields.pick_f rfl rfl) trivial rfl rfl ?_
                  refine St.val (v := (.bool false)) (Yields.assign rfl) trivial rfl rfl ?_
                  refine St.nil ?_
                  obtain rfl := sI hm
                  intro a w ha hs
                  exact ⟨F46, l47, ha.covers ⟨rfl, rfl, rfl, rfl, rfl, trivial⟩, (Among.of (Among.take 0 rfl rfl Among.none) _ hs)⟩
          · rintro a w ⟨F39, l40, ha, hs⟩
            replace hm := hk41
            refine St.use (?_ : St _ _ _ _ _ _) ha hs
            clear ha hs a w
            obtain ⟨z64, hm, hk67⟩ := bS hm
            refine St.cutI (fun a w => ∃ (F65 : PH), PH.le F39 F65 ∧ Has Try.f31.ntmps a [(0, .string (bs a0)), (3, .slice A25 s20.1.length c26), (4, .int .i64 s20.2), (5, .int .i64 z64)] ∧ Sat ⟨w0, fun b => m0 b ≠ none, F⟩ F65 [rowo A25 s20.1.length c26 61 2 cells28] w) ?_ ?_
            · skip
              refine St.block ?_
              refine St.loopM hm (fun s71 a w => ∃ (F75 : PH), PH.le F39 F75 ∧ Has Try.f31.ntmps a [(0, .string (bs a0)), (3, .slice A25 s20.1.length c26), (4, .int .i64 s20.2), (5, .int .i64 s71.1), (6, .bool s71.2)] ∧ Sat ⟨w0, fun b => m0 b ≠ none, F⟩ F75 [rowo A25 s20.1.length c26 61 2 cells28] w) ?_ ?_
              · skip
                intro a w ha hs
                exact ⟨F39, (PH.le_refl _), ha.covers ⟨rfl, rfl, rfl, rfl, rfl, trivial⟩, (Among.of (Among.take 0 rfl rfl Among.none) _ hs)⟩
              · rintro s71 o72 co73 hm ho74 a w ⟨F75, l76, ha, hs⟩
                refine St.use (?_ : St _ _ _ _ _ _) ha hs
                clear ha hs a w
                refine St.seq ?_
                obtain ⟨z77, hm, hk80⟩ := bS hm
                refine St.cutI (fun a w => ∃ (F78 : PH), PH.le F75 F78 ∧ Has Try.f31.ntmps a [(0, .string (bs a0)), (3, .slice A25 s20.1.length c26), (4, .int .i64 s20.2), (5, .int .i64 s71.1), (6, .bool z77.1), (59, .bool z77.2)] ∧ Sat ⟨w0, fun b => m0 b ≠ none, F⟩ F78 [rowo A25 s20.1.length c26 61 2 cells28] w) ?_ ?_
                · skip
                  refine St.region ?_
                  by_cases q81 : s71.2 = true
                  · replace hm := iT hm q81
                    have hb82 : (s71.2) = true := q81
                    try rw [hb82]
                    refine St.val (v := (.bool true)) (Yields.move rfl) trivial rfl rfl ?_
                    refine St.val (v := (.bool true)) (Yields.move rfl) trivial rfl rfl ?_
                    refine St.val (v := (.int .i64 s71.1)) (Yields.move rfl) rfl rfl rfl ?_
                    refine St.val (v := (.string (bs a0))) (Yields.move rfl) rfl rfl rfl ?_
                    refine St.val (v := (.int .i64 ((a0.length : Nat) : Int))) (Yields.lenStr tu9 rfl) rfl rfl rfl ?_
                    by_cases q83 : s71.1 < ((a0.length : Nat) : Int)
                    · replace hm := iT hm q83
                      refine St.val (v := (.bool true)) (Yields.is q83 (Yields.lt rfl rfl)) rfl rfl rfl ?_
                      refine St.val (v := (.bool true)) (Yields.pick_t rfl rfl) trivial rfl rfl ?_
                      refine St.val (v := (.bool true)) (Yields.move rfl) trivial rfl rfl ?_
                      refine St.val (v := (.string (bs a0))) (Yields.move rfl) rfl rfl rfl ?_
                      refine St.val (v := (.int .i64 s71.1)) (Yields.move rfl) rfl rfl rfl ?_
                      obtain ⟨x84, e85, hm⟩ := bS hm
                      refine St.val (v := (.int .u8 ((x84.toNat : Nat) : Int))) (Yields.indexStr e85 tu9 rfl rfl) rfl rfl rfl ?_
                      obtain ⟨q86, e87, hm⟩ := bS hm
                      refine St.call [rowo A25 s20.1.length c26 61 2 cells28] (m_ref08_isWord_sp e87) rfl (fun _ ha => ev1 ha rfl) rfl en67 rfl rfl rfl ?_
                      rintro _ F88 _ ⟨rfl, rfl⟩ l89
                      refine St.val (v := (.bool q86)) (Yields.pick_t rfl rfl) trivial rfl rfl ?_
                      refine St.nil ?_
                      obtain rfl := sI hm
                      intro a w ha hs
                      exact ⟨F88, l89, ha.covers ⟨rfl, rfl, rfl, rfl, rfl, rfl, trivial⟩, (Among.of (Among.take 0 rfl rfl Among.none) _ hs)⟩
                    · replace hm := iF hm q83
                      refine St.val (v := (.bool false)) (Yields.isnt q83 (Yields.lt rfl rfl)) rfl rfl rfl ?_
                      refine St.val (v := (.bool false)) (Yields.pick_t rfl rfl) trivial rfl rfl ?_
                      refine St.val (v := (.bool false)) (Yields.move rfl) trivial rfl rfl ?_
                      refine St.unwanted rfl rfl rfl ?_
                      refine St.unwanted rfl rfl rfl ?_
                      refine St.unwanted rfl rfl rfl ?_
                      refine St.unwanted rfl rfl rfl ?_
                      refine St.val (v := (.bool false)) (Yields.pick_f rfl rfl) trivial rfl rfl ?_
                      refine St.nil ?_
                      obtain rfl := sI hm
                      intro a w ha hs
                      exact ⟨F75, (PH.le_refl _), ha.covers ⟨rfl, rfl, rfl, rfl, rfl, rfl, trivial⟩, (Among.of (Among.take 0 rfl rfl Among.none) _ hs)⟩
                  · replace hm := iF hm q81
                    have hb90 : (s71.2) = false := eq_false_of_ne_true q81
                    try rw [hb90]
                    refine St.val (v := (.bool false)) (Yields.move rfl) trivial rfl rfl ?_
                    refine St.val (v := (.bool false)) (Yields.move rfl) trivial rfl rfl ?_
                    refine St.unwanted rfl rfl rfl ?_
                    refine St.unwanted rfl rfl rfl ?_
                    refine St.unwanted rfl rfl rfl ?_
                    refine St.unwanted rfl rfl rfl ?_
                    refine St.val (v := (.bool false)) (Yields.pick_f rfl rfl) trivial rfl rfl ?_
                    refine St.val (v := (.bool false)) (Yields.move rfl) trivial rfl rfl ?_
                    refine St.unwanted rfl rfl rfl ?_
                    refine St.unwanted rfl rfl rfl ?_
                    refine St.unwanted rfl rfl rfl ?_
                    refine St.unwanted rfl rfl rfl ?_
                    refine St.val (v := (.bool false)) (Yields.pick_f rfl rfl) trivial rfl rfl ?_
                    refine St.nil ?_
                    obtain rfl := sI hm
                    intro a w ha hs
                    exact ⟨F75, (PH.le_refl _), ha.covers ⟨rfl, rfl, rfl, rfl, rfl, rfl, trivial⟩, (Among.of (Among.take 0 rfl rfl Among.none) _ hs)⟩
                · rintro a w ⟨F78, l79, ha, hs⟩
                  replace hm := hk80
                  refine St.use (?_ : St _ _ _ _ _ _) ha hs
                  clear ha hs a w
                  refine St.cond_b rfl ?_ ?_
                  · intro q91
                    replace q91 : z77.2 = true := q91
                    replace hm := iT hm q91
                    refine St.skip ?_
                    refine St.norm ?_
                    refine St.block ?_
                    refine St.region ?_
                    refine St.val (v := (.int .i64 s71.1)) (Yields.move rfl) trivial rfl rfl ?_
                    refine St.val (v := (.int .i64 (Mir.w64 (s71.1 + 1)))) (Yields.addw rfl rfl) trivial rfl rfl ?_
                    refine St.val (v := (.int .i64 (Mir.w64 (s71.1 + 1)))) (Yields.assign rfl) trivial rfl rfl ?_
                    refine St.nil ?_
                    refine St.innorm ?_
                    refine St.norm ?_
                    obtain rfl := sI hm
                    intro a w ha hs
                    exact ⟨(Mir.w64 (s71.1 + 1), z77.1), aL ho74, F78, (PH.le_trans l76 l79), ha.covers ⟨rfl, rfl, rfl, rfl, rfl, trivial⟩, (Among.of (Among.take 0 rfl rfl Among.none) _ hs)⟩
                  · intro q92
                    replace q92 : ¬ (z77.2 = true) := bf q92
                    replace hm := iF hm q92
                    refine St.exit ?_
                    refine St.thenexit ?_
                    refine St.thenexit ?_
                    refine St.inexit ?_
                    obtain rfl := sI hm
                    obtain rfl := aR ho74
                    intro a w ha hs
                    exact ⟨F78, (PH.le_trans l76 l79), ha.covers ⟨rfl, rfl, rfl, rfl, trivial⟩, (Among.of (Among.take 0 rfl rfl Among.none) _ hs)⟩
            · rintro a w ⟨F65, l66, ha, hs⟩
              replace hm := hk67
              refine St.use (?_ : St _ _ _ _ _ _) ha hs
              clear ha hs a w
              refine St.seq ?_
              refine St.region ?_
              refine St.val (v := (.slice A25 s20.1.length c26)) (Yields.move rfl) trivial rfl rfl ?_
              refine St.val (v := (.string (bs a0))) (Yields.move rfl) trivial rfl rfl ?_
              refine St.val (v := (.int .i64 s20.2)) (Yields.move rfl) trivial rfl rfl ?_
              refine St.val (v := (.int .i64 z64)) (Yields.move rfl) trivial rfl rfl ?_
              obtain ⟨x93, e94, hm⟩ := bS hm
              refine St.val (v := (.string (bs x93))) (Yields.subS2 e94 tu9 rfl rfl rfl) trivial rfl rfl ?_
              refine St.val (v := (.int .i64 s20.2)) (Yields.move rfl) trivial rfl rfl ?_
              refine St.val (v := (.agg #[.string (bs x93), .int .i64 s20.2])) (Yields.build (v := (.agg #[.string (bs x93), .int .i64 s20.2])) (vs := #[(0, .string (bs x93)), (1, .int .i64 s20.2)]) (fun _ ha => evp2 ha rfl rfl) (fun _ => by kernel_rfl)) trivial rfl rfl ?_
              refine St.buildSlice (e := 61) (cells := #[.string (bs x93), .int .i64 s20.2]) (vs := #[(0, .agg #[.string (bs x93), .int .i64 s20.2])]) (fun _ ha => evp1 ha rfl) (fun _ => by kernel_rfl) rfl trivial ?_
              intro b95
              obtain ⟨x100, e101, hm⟩ := bS hm
              refine St.pushL (R := [blk b95 (.cells #[.string (bs x93), .int .i64 s20.2] 61 (0, 0))]) (R3 := []) e101 ts56 rfl rfl rfl rfl rfl 1 rfl rfl 0 rfl 0 rfl rfl (Cat.mono (PH.le_trans l40 l66) h27) ⟨[.string (bs x93), .int .i64 s20.2], _, rfl, (DToken.shut), rfl⟩ rfl trivial ?_
              intro A96 c97 cells98 h99
              refine St.val (v := (.slice A96 x100.length c97)) (Yields.assign rfl) trivial rfl rfl ?_
              refine St.nil ?_
              refine St.norm ?_
              refine St.region ?_
              refine St.val (v := (.int .i64 z64)) (Yields.move rfl) trivial rfl rfl ?_
              refine St.val (v := (.int .i64 z64)) (Yields.assign rfl) trivial rfl rfl ?_
              refine St.nil ?_
              refine St.innorm ?_
              refine St.norm ?_
              obtain rfl := sI hm
              intro a w ha hs
              exact ⟨(x100, z64), aL ho23, A96, c97, cells98, F65, (PH.le_trans l31 (PH.le_trans l40 l66)), h99, (Bnd.of_push e101), ha.covers ⟨rfl, rfl, rfl, trivial⟩, (Among.of (Among.take 0 rfl rfl Among.none) _ hs)⟩
      · intro q103
        replace q103 : ¬ (s20.2 < ((a0.length : Nat) : Int)) := of_decide_eq_false q103
        replace hm := iF hm q103
        refine St.exit ?_
        refine St.thenexit ?_
        refine St.thenexit ?_
        refine St.inexit ?_
        obtain rfl := sI hm
        obtain rfl := aR ho23
        intro a w ha hs
        exact ⟨A25, c26, cells28, F30, l31, h27, b29, ha.covers ⟨rfl, rfl, trivial⟩, (Among.of (Among.take 0 rfl rfl Among.none) _ hs)⟩
  · rintro a w ⟨A5, c6, cells8, F2, l3, h7, b9, ha, hs⟩
    replace hm := hk10
    refine St.use (?_ : St _ _ _ _ _ _) ha hs
    clear ha hs a w
    refine St.seq ?_
    refine St.region ?_
    refine St.val (v := (.slice A5 z1.length c6)) (Yields.move rfl) trivial rfl rfl ?_
    refine St.val (v := (.string (bs a0))) (Yields.move rfl) trivial rfl rfl ?_
    refine St.val (v := (.int .i64 ((a0.length : Nat) : Int))) (Yields.lenStr tu9 rfl) trivial rfl rfl ?_
    refine St.val (v := (.agg #[.string (bs []), .int .i64 ((a0.length : Nat) : Int)])) (Yields.build (v := (.agg #[.string (bs []), .int .i64 ((a0.length : Nat) : Int)])) (vs := #[(0, .string (bs [])), (1, .int .i64 ((a0.length : Nat) : Int))]) (fun _ ha => evp2 ha rfl rfl) (fun _ => by kernel_rfl)) trivial rfl rfl ?_
    refine St.buildSlice (e := 61) (cells := #[.string (bs []), .int .i64 ((a0.length : Nat) : Int)]) (vs := #[(0, .agg #[.string (bs []), .int .i64 ((a0.length : Nat) : Int)])]) (fun _ ha => evp1 ha rfl) (fun _ => by kernel_rfl) rfl trivial ?_
    intro b104
    obtain ⟨x109, e110, hm⟩ := bS hm
    refine St.pushL (R := [blk b104 (.cells #[.string (bs []), .int .i64 ((a0.length : Nat) : Int)] 61 (0, 0))]) (R3 := []) e110 ts56 rfl rfl rfl rfl rfl 1 rfl rfl 0 rfl 0 rfl rfl h7 ⟨[.string (bs []), .int .i64 ((a0.length : Nat) : Int)], _, rfl, (DToken.shut), rfl⟩ rfl trivial ?_
    intro A105 c106 cells107 h108
    refine St.val (v := (.slice A105 x109.length c106)) (Yields.assign rfl) trivial rfl rfl ?_
    refine St.nil ?_
    refine St.norm ?_
    refine St.ret ?_
    refine St.frz 0 rfl rfl rfl h108 (Bnd.of_push e110) ?_
    intro F112 l113 h114
    obtain rfl := sI hm
    exact St.doneR1 rfl rfl ⟨A105, c106, rfl, h114, rfl⟩ (fun w hs => Among.of Among.none w hs)

theorem m_ref08_rest_sp {F : PH} {g : Nat} {a0 : List UInt8} {a1 : Int} {r : Bool} (hm : m_ref08_rest g a0 a1 = some r) :
    CallSp Try.prog 103 #[.string (bs a0), .int .i64 a1] F [] (fun u F' H' => u = (.bool r) ∧ H' = []) := by
  unfold m_ref08_rest at hm
  refine CallSp.enter (args := [.string (bs a0), .int .i64 a1]) Try.func103 rfl rfl ?_
  intro w0 m0 hm0
  refine St.seq ?_
  refine St.region ?_
  refine St.val (v := (.bool false)) (Yields.assign rfl) trivial rfl rfl ?_
  refine St.nil ?_
  refine St.norm ?_
  obtain ⟨o4, hm, ho5⟩ := jS hm
  refine St.cutI (fun a w => ∃ z1 : Unit, o4 = .inl z1 ∧ ∃ (F2 : PH), PH.le F F2 ∧ Has Try.f103.ntmps a [] ∧ Sat ⟨w0, fun b => m0 b ≠ none, F⟩ F2 [] w) ?_ ?_
  · skip
    refine St.seq ?_
    refine St.region ?_
    refine St.val (v := (.int .i64 a1)) (Yields.move rfl) trivial rfl rfl ?_
    refine St.val (v := (.int .i64 a1)) (Yields.assign rfl) trivial rfl rfl ?_
    refine St.nil ?_
    refine St.norm ?_
    refine St.block ?_
    refine St.loopM hm (fun s8 a w => ∃ (F12 : PH), PH.le F F12 ∧ Has Try.f103.ntmps a [(0, .string (bs a0)), (5, .int .i64 s8)] ∧ Sat ⟨w0, fun b => m0 b ≠ none, F⟩ F12 [] w) ?_ ?_
    · skip
      intro a w ha hs
      exact ⟨F, (PH.le_refl _), ha.covers ⟨rfl, rfl, trivial⟩, (Among.of Among.none _ hs)⟩
    · rintro s8 o9 co10 hm ho11 a w ⟨F12, l13, ha, hs⟩
      refine St.use (?_ : St _ _ _ _ _ _) ha hs
      clear ha hs a w
      refine St.seq ?_
      refine St.seq ?_
      refine St.region ?_
      refine St.val (v := (.int .i64 s8)) (Yields.move rfl) trivial rfl rfl ?_
      refine St.val (v := (.string (bs a0))) (Yields.move rfl) trivial rfl rfl ?_
      refine St.val (v := (.int .i64 ((a0.length : Nat) : Int))) (Yields.lenStr tu9 rfl) trivial rfl rfl ?_
      refine St.val (v := (.bool (decide (s8 < ((a0.length : Nat) : Int))))) (Yields.lt rfl rfl) trivial rfl rfl ?_
      refine St.nil ?_
      refine St.norm ?_
      refine St.cond_b rfl ?_ ?_
      · intro q14
        replace q14 : s8 < ((a0.length : Nat) : Int) := of_decide_eq_true q14
        replace hm := iT hm q14
        refine St.skip ?_
        refine St.norm ?_
        refine St.seq ?_
        refine St.block ?_
        refine St.seq ?_
        refine St.region ?_
        refine St.val (v := (.string (bs a0))) (Yields.move rfl) trivial rfl rfl ?_
        refine St.val (v := (.int .i64 s8)) (Yields.move rfl) trivial rfl rfl ?_
        obtain ⟨x15, e16, hm⟩ := bS hm
        refine St.val (v := (.int .u8 ((x15.toNat : Nat) : Int))) (Yields.indexStr e16 tu9 rfl rfl) trivial rfl rfl ?_
        obtain ⟨q17, e18, hm⟩ := bS hm
        refine St.call [] (m_ref08_isWord_sp e18) rfl (fun _ ha => ev1 ha rfl) rfl en67 rfl rfl trivial ?_
        rintro _ F19 _ ⟨rfl, rfl⟩ l20
        refine St.val (v := (.bool (!q17))) (Yields.not rfl) trivial rfl rfl ?_
        refine St.nil ?_
        refine St.norm ?_
        refine St.cond_b rfl ?_ ?_
        · intro q21
          replace q21 : ¬ (q17 = true) := nb_t q21
          replace hm := iF hm q21
          refine St.seq ?_
          refine St.region ?_
          refine St.val (v := (.bool false)) (Yields.assign rfl) trivial rfl rfl ?_
          refine St.nil ?_
          refine St.norm ?_
          refine St.ret ?_
          refine St.inret ?_
          refine St.thenret ?_
          refine St.thenret ?_
          refine St.inret ?_
          refine St.thenret ?_
          obtain rfl := sI hm
          obtain rfl := aR ho11
          obtain rfl := aR ho5
          exact St.doneR1 rfl rfl ⟨rfl, rfl⟩ (fun w hs => Among.of Among.none w hs)
        · intro q22
          replace q22 : q17 = true := nb_f q22
          replace hm := iT hm q22
          refine St.skip ?_
          refine St.innorm ?_
          refine St.norm ?_
          refine St.region ?_
          refine St.val (v := (.int .i64 s8)) (Yields.move rfl) trivial rfl rfl ?_
          refine St.val (v := (.int .i64 (Mir.w64 (s8 + 1)))) (Yields.addw rfl rfl) trivial rfl rfl ?_
          refine St.val (v := (.int .i64 (Mir.w64 (s8 + 1)))) (Yields.assign rfl) trivial rfl rfl ?_
          refine St.nil ?_
          refine St.norm ?_
          obtain rfl := sI hm
          intro a w ha hs
          exact ⟨Mir.w64 (s8 + 1), aL ho11, F19, (PH.le_trans l13 l20), ha.covers ⟨rfl, rfl, trivial⟩, (Among.of Among.none _ hs)⟩
      · intro q23
        replace q23 : ¬ (s8 < ((a0.length : Nat) : Int)) := of_decide_eq_false q23
        replace hm := iF hm q23
        refine St.exit ?_
        refine St.thenexit ?_
        refine St.thenexit ?_
        refine St.inexit ?_
        obtain rfl := sI hm
        obtain rfl := aR ho11
        intro a w ha hs
        exact ⟨(), rfl, F12, l13, ha.covers trivial, (Among.of Among.none _ hs)⟩
  · rintro a w ⟨z1, rfl, F2, l3, ha, hs⟩
    replace hm := aL ho5
    refine St.use (?_ : St _ _ _ _ _ _) ha hs
    clear ha hs a w
    refine St.seq ?_
    refine St.region ?_
    refine St.val (v := (.bool true)) (Yields.assign rfl) trivial rfl rfl ?_
    refine St.nil ?_
    refine St.norm ?_
    refine St.ret ?_
    obtain rfl := sI hm
    exact St.doneR1 rfl rfl ⟨rfl, rfl⟩ (fun w hs => Among.of Among.none w hs)

theorem m_ref08_IsGreat_sp {F : PH} {g : Nat} {a0 : List UInt8} {r : Bool} (hm : m_ref08_IsGreat g a0 = some r) :
    CallSp Try.prog 95 #[.string (bs a0)] F [] (fun u F' H' => u = (.bool r) ∧ H' = []) := by
  unfold m_ref08_IsGreat at hm
  refine CallSp.enter (args := [.string (bs a0)]) Try.func95 rfl rfl ?_
  intro w0 m0 hm0
  refine St.seq ?_
  refine St.region ?_
  refine St.val (v := (.bool false)) (Yields.assign rfl) trivial rfl rfl ?_
  refine St.nil ?_
  refine St.norm ?_
  obtain ⟨z1, hm, hk4⟩ := bS hm
  refine St.cutI (fun a w => ∃ (F2 : PH), PH.le F F2 ∧ Has Try.f95.ntmps a [(2, .bool z1)] ∧ Sat ⟨w0, fun b => m0 b ≠ none, F⟩ F2 [] w) ?_ ?_
  · skip
    refine St.region ?_
    refine St.val (v := (.string (bs a0))) (Yields.move rfl) trivial rfl rfl ?_
    refine St.val (v := (.int .i64 ((a0.length : Nat) : Int))) (Yields.lenStr tu9 rfl) trivial rfl rfl ?_
    by_cases q5 : ((a0.length : Nat) : Int) ≥ 1
    · replace hm := iT hm q5
      refine St.val (v := (.bool true)) (Yields.is q5 (Yields.ge rfl rfl)) trivial rfl rfl ?_
      refine St.val (v := (.bool true)) (Yields.move rfl) trivial rfl rfl ?_
      refine St.val (v := (.string (bs a0))) (Yields.move rfl) rfl rfl rfl ?_
      refine St.val (v := (.int .i64 ((a0.length : Nat) : Int))) (Yields.lenStr tu9 rfl) rfl rfl rfl ?_
      by_cases q6 : ((a0.length : Nat) : Int) ≤ 16
      · replace hm := iT hm q6
        refine St.val (v := (.bool true)) (Yields.is q6 (Yields.le rfl rfl)) rfl rfl rfl ?_
        refine St.val (v := (.bool true)) (Yields.pick_t rfl rfl) trivial rfl rfl ?_
        refine St.val (v := (.bool true)) (Yields.move rfl) trivial rfl rfl ?_
        refine St.val (v := (.string (bs a0))) (Yields.move rfl) rfl rfl rfl ?_
        obtain ⟨x7, e8, hm⟩ := bS hm
        refine St.val (v := (.int .u8 ((x7.toNat : Nat) : Int))) (Yields.indexStr (nlit e8) tu9 rfl rfl) rfl rfl rfl ?_
        obtain ⟨q9, e10, hm⟩ := bS hm
        refine St.call [] (m_ref08_isGreat_sp e10) rfl (fun _ ha => ev1 ha rfl) rfl en94 rfl rfl rfl ?_
        rintro _ F11 _ ⟨rfl, rfl⟩ l12
        by_cases q13 : q9 = true
        · replace hm := iT hm q13
          have hb14 : (q9) = true := q13
          try rw [hb14]
          refine St.val (v := (.bool true)) (Yields.pick_t rfl rfl) trivial rfl rfl ?_
          refine St.val (v := (.bool true)) (Yields.move rfl) trivial rfl rfl ?_
          refine St.val (v := (.string (bs a0))) (Yields.move rfl) rfl rfl rfl ?_
          obtain ⟨q15, e16, hm⟩ := bS hm
          refine St.call [] (m_ref08_rest_sp e16) rfl (fun _ ha => ev2 ha rfl rfl) rfl en103 rfl rfl rfl ?_
          rintro _ F17 _ ⟨rfl, rfl⟩ l18
          refine St.val (v := (.bool q15)) (Yields.pick_t rfl rfl) trivial rfl rfl ?_
          refine St.val (v := (.bool q15)) (Yields.assign rfl) trivial rfl rfl ?_
          refine St.nil ?_
          obtain rfl := sI hm
          intro a w ha hs
          exact ⟨F17, (PH.le_trans l12 l18), ha.covers ⟨rfl, trivial⟩, (Among.of Among.none _ hs)⟩
        · replace hm := iF hm q13
          have hb19 : (q9) = false := eq_false_of_ne_true q13
          try rw [hb19]
          refine St.val (v := (.bool false)) (Yields.pick_t rfl rfl) trivial rfl rfl ?_
          refine St.val (v := (.bool false)) (Yields.move rfl) trivial rfl rfl ?_
          refine St.unwanted rfl rfl rfl ?_
          refine St.unwanted rfl rfl rfl ?_
          refine St.val (v := (.bool false)) (Yields.pick_f rfl rfl) trivial rfl rfl ?_
          refine St.val (v := (.bool false)) (Yields.assign rfl) trivial rfl rfl ?_
          refine St.nil ?_
          obtain rfl := sI hm
          intro a w ha hs
          exact ⟨F11, l12, ha.covers ⟨rfl, trivial⟩, (Among.of Among.none _ hs)⟩
      · replace hm := iF hm q6
        refine St.val (v := (.bool false)) (Yields.isnt q6 (Yields.le rfl rfl)) rfl rfl rfl ?_
        refine St.val (v := (.bool false)) (Yields.pick_t rfl rfl) trivial rfl rfl ?_
        refine St.val (v := (.bool false)) (Yields.move rfl) trivial rfl rfl ?_
        refine St.unwanted rfl rfl rfl ?_
        refine St.unwanted rfl rfl rfl ?_
        refine St.unwanted rfl rfl rfl ?_
        refine St.val (v := (.bool false)) (Yields.pick_f rfl rfl) trivial rfl rfl ?_
        refine St.val (v := (.bool false)) (Yields.move rfl) trivial rfl rfl ?_
        refine St.unwanted rfl rfl rfl ?_
        refine St.unwanted rfl rfl rfl ?_
        refine St.val (v := (.bool false)) (Yields.pick_f rfl rfl) trivial rfl rfl ?_
        refine St.val (v := (.bool false)) (Yields.assign rfl) trivial rfl rfl ?_
        refine St.nil ?_
        obtain rfl := sI hm
        intro a w ha hs
        exact ⟨F, (PH.le_refl _), ha.covers ⟨rfl, trivial⟩, (Among.of Among.none _ hs)⟩
    · replace hm := iF hm q5
      refine St.val (v := (.bool false)) (Yields.isnt q5 (Yields.ge rfl rfl)) trivial rfl rfl ?_
      refine St.val (v := (.bool false)) (Yields.move rfl) trivial rfl rfl ?_
      refine St.unwanted rfl rfl rfl ?_
      refine St.unwanted rfl rfl rfl ?_
      refine St.unwanted rfl rfl rfl ?_
      refine St.val (v := (.bool false)) (Yields.pick_f rfl rfl) trivial rfl rfl ?_
      refine St.val (v := (.bool false)) (Yields.move rfl) trivial rfl rfl ?_
      refine St.unwanted rfl rfl rfl ?_
      refine St.unwanted rfl rfl rfl ?_
      refine St.unwanted rfl rfl rfl ?_
      refine St.val (v := (.bool false)) (Yields.pick_f rfl rfl) trivial rfl rfl ?_
      refine St.val (v := (.bool false)) (Yields.move rfl) trivial rfl rfl ?_
      refine St.unwanted rfl rfl rfl ?_
      refine St.unwanted rfl rfl rfl ?_
      refine St.val (v := (.bool false)) (Yields.pick_f rfl rfl) trivial rfl rfl ?_
      refine St.val (v := (.bool false)) (Yields.assign rfl) trivial rfl rfl ?_
      refine St.nil ?_
      obtain rfl := sI hm
      intro a w ha hs
      exact ⟨F, (PH.le_refl _), ha.covers ⟨rfl, trivial⟩, (Among.of Among.none _ hs)⟩
  · rintro a w ⟨F2, l3, ha, hs⟩
    replace hm := hk4
    refine St.use (?_ : St _ _ _ _ _ _) ha hs
    clear ha hs a w
    refine St.ret ?_
    obtain rfl := sI hm
    exact St.doneR1 rfl rfl ⟨rfl, rfl⟩ (fun w hs => Among.of Among.none w hs)

theorem m_ref08_reserved_sp {F : PH} {g : Nat} {r : List (List UInt8)} (hm : m_ref08_reserved g = some r) :
    CallSp Try.prog 106 #[] F [] (fun u F' H' => ∃ (B0 : Option Addr) (d0 : Nat), u = (.slice B0 r.length d0) ∧ Fsl 16 Kind.str F' B0 d0 r ∧ H' = []) := by
  unfold m_ref08_reserved at hm
  refine CallSp.enter (args := []) Try.func106 rfl rfl ?_
  intro w0 m0 hm0
  refine St.seq ?_
  refine St.region ?_
  refine St.val (v := (.slice none 0 0)) (Yields.assign rfl) trivial rfl rfl ?_
  refine St.nil ?_
  refine St.norm ?_
  refine St.seq ?_
  refine St.region ?_
  refine St.buildSlice (e := 9) (cells := #[.string (bs [100, 97, 116, 97]), .string (bs [99, 108, 97, 115, 115]), .string (bs [105, 110, 115, 116, 97, 110, 99, 101]), .string (bs [111, 112]), .string (bs [101, 110, 100]), .string (bs [119, 104, 101, 114, 101]), .string (bs [108, 101, 116]), .string (bs [105, 110]), .string (bs [102, 114, 101, 101]), .string (bs [99, 97, 115, 101]), .string (bs [114, 105, 103, 105, 100]), .string (bs [111, 102]), .string (bs [102, 97, 105, 108])]) (vs := #[(0, .string (bs [100, 97, 116, 97])), (1, .string (bs [99, 108, 97, 115, 115])), (2, .string (bs [105, 110, 115, 116, 97, 110, 99, 101])), (3, .string (bs [111, 112])), (4, .string (bs [101, 110, 100])), (5, .string (bs [119, 104, 101, 114, 101])), (6, .string (bs [108, 101, 116])), (7, .string (bs [105, 110])), (8, .string (bs [102, 114, 101, 101])), (9, .string (bs [99, 97, 115, 101])), (10, .string (bs [114, 105, 103, 105, 100])), (11, .string (bs [111, 102])), (12, .string (bs [102, 97, 105, 108]))]) (fun a _ => by simp only [List.map_toArray, List.map_cons, List.map_nil, Act.eval] <;> rfl) (fun _ => by kernel_rfl) rfl trivial ?_
  intro b1
  refine St.weak (R := []) (c' := rowo (some ⟨b1, 0, none⟩) ([[100, 97, 116, 97], [99, 108, 97, 115, 115], [105, 110, 115, 116, 97, 110, 99, 101], [111, 112], [101, 110, 100], [119, 104, 101, 114, 101], [108, 101, 116], [105, 110], [102, 114, 101, 101], [99, 97, 115, 101], [114, 105, 103, 105, 100], [111, 102], [102, 97, 105, 108]] : List (List UInt8)).length 13 9 1 [.string (bs [100, 97, 116, 97]), .string (bs [99, 108, 97, 115, 115]), .string (bs [105, 110, 115, 116, 97, 110, 99, 101]), .string (bs [111, 112]), .string (bs [101, 110, 100]), .string (bs [119, 104, 101, 114, 101]), .string (bs [108, 101, 116]), .string (bs [105, 110]), .string (bs [102, 114, 101, 101]), .string (bs [99, 97, 115, 101]), .string (bs [114, 105, 103, 105, 100]), .string (bs [111, 102]), .string (bs [102, 97, 105, 108])]) 0 rfl rfl (fun m hm => rowo_of_row (row_of_blk (k := 13) rfl (by decide) hm)) ?_
  refine St.val (v := (.slice (some ⟨b1, 0, none⟩) ([[100, 97, 116, 97], [99, 108, 97, 115, 115], [105, 110, 115, 116, 97, 110, 99, 101], [111, 112], [101, 110, 100], [119, 104, 101, 114, 101], [108, 101, 116], [105, 110], [102, 114, 101, 101], [99, 97, 115, 101], [114, 105, 103, 105, 100], [111, 102], [102, 97, 105, 108]] : List (List UInt8)).length 13)) (Yields.assign rfl) trivial rfl rfl ?_
  refine St.nil ?_
  refine St.norm ?_
  refine St.ret ?_
  refine St.frz 0 rfl rfl rfl (show Cat Kind.str F [.string (bs [100, 97, 116, 97]), .string (bs [99, 108, 97, 115, 115]), .string (bs [105, 110, 115, 116, 97, 110, 99, 101]), .string (bs [111, 112]), .string (bs [101, 110, 100]), .string (bs [119, 104, 101, 114, 101]), .string (bs [108, 101, 116]), .string (bs [105, 110]), .string (bs [102, 114, 101, 101]), .string (bs [99, 97, 115, 101]), .string (bs [114, 105, 103, 105, 100]), .string (bs [111, 102]), .string (bs [102, 97, 105, 108])] ([[100, 97, 116, 97], [99, 108, 97, 115, 115], [105, 110, 115, 116, 97, 110, 99, 101], [111, 112], [101, 110, 100], [119, 104, 101, 114, 101], [108, 101, 116], [105, 110], [102, 114, 101, 101], [99, 97, 115, 101], [114, 105, 103, 105, 100], [111, 102], [102, 97, 105, 108]] : List (List UInt8)) from ⟨[.string (bs [100, 97, 116, 97])], _, rfl, rfl, ⟨[.string (bs [99, 108, 97, 115, 115])], _, rfl, rfl, ⟨[.string (bs [105, 110, 115, 116, 97, 110, 99, 101])], _, rfl, rfl, ⟨[.string (bs [111, 112])], _, rfl, rfl, ⟨[.string (bs [101, 110, 100])], _, rfl, rfl, ⟨[.string (bs [119, 104, 101, 114, 101])], _, rfl, rfl, ⟨[.string (bs [108, 101, 116])], _, rfl, rfl, ⟨[.string (bs [105, 110])], _, rfl, rfl, ⟨[.string (bs [102, 114, 101, 101])], _, rfl, rfl, ⟨[.string (bs [99, 97, 115, 101])], _, rfl, rfl, ⟨[.string (bs [114, 105, 103, 105, 100])], _, rfl, rfl, ⟨[.string (bs [111, 102])], _, rfl, rfl, ⟨[.string (bs [102, 97, 105, 108])], _, rfl, rfl, rfl⟩⟩⟩⟩⟩⟩⟩⟩⟩⟩⟩⟩⟩) (show Bnd 16 ([[100, 97, 116, 97], [99, 108, 97, 115, 115], [105, 110, 115, 116, 97, 110, 99, 101], [111, 112], [101, 110, 100], [119, 104, 101, 114, 101], [108, 101, 116], [105, 110], [102, 114, 101, 101], [99, 97, 115, 101], [114, 105, 103, 105, 100], [111, 102], [102, 97, 105, 108]] : List (List UInt8)) from ⟨by simp, by simp⟩) ?_
  intro F3 l4 h5
  obtain rfl := sI hm
  exact St.doneR1 rfl rfl ⟨(some ⟨b1, 0, none⟩), 13, rfl, h5, rfl⟩ (fun w hs => Among.of Among.none w hs)

theorem m_ref08_IsSmall_sp {F : PH} {g : Nat} {a0 : List UInt8} {r : Bool} (hm : m_ref08_IsSmall g a0 = some r) :
    CallSp Try.prog 104 #[.string (bs a0)] F [] (fun u F' H' => u = (.bool r) ∧ H' = []) := by
  unfold m_ref08_IsSmall at hm
  refine CallSp.enter (args := [.string (bs a0)]) Try.func104 rfl rfl ?_
  intro w0 m0 hm0
  refine St.seq ?_
  refine St.region ?_
  refine St.val (v := (.bool false)) (Yields.assign rfl) trivial rfl rfl ?_
  refine St.nil ?_
  refine St.norm ?_
  refine St.seq ?_
  obtain ⟨z1, hm, hk4⟩ := bS hm
  refine St.cutI (fun a w => ∃ (F2 : PH), PH.le F F2 ∧ Has Try.f104.ntmps a [(0, .string (bs a0)), (23, .bool z1)] ∧ Sat ⟨w0, fun b => m0 b ≠ none, F⟩ F2 [] w) ?_ ?_
  · skip
    refine St.region ?_
    refine St.val (v := (.string (bs a0))) (Yields.move rfl) trivial rfl rfl ?_
    refine St.val (v := (.int .i64 ((a0.length : Nat) : Int))) (Yields.lenStr tu9 rfl) trivial rfl rfl ?_
    by_cases q5 : ((a0.length : Nat) : Int) < 1
    · replace hm := iT hm q5
      refine St.val (v := (.bool true)) (Yields.is q5 (Yields.lt rfl rfl)) trivial rfl rfl ?_
      refine St.val (v := (.bool true)) (Yields.move rfl) trivial rfl rfl ?_
      refine St.unwanted rfl rfl rfl ?_
      refine St.unwanted rfl rfl rfl ?_
      refine St.unwanted rfl rfl rfl ?_
      refine St.val (v := (.bool true)) (Yields.pick_t rfl rfl) trivial rfl rfl ?_
      refine St.val (v := (.bool true)) (Yields.move rfl) trivial rfl rfl ?_
      refine St.unwanted rfl rfl rfl ?_
      refine St.unwanted rfl rfl rfl ?_
      refine St.unwanted rfl rfl rfl ?_
      refine St.unwanted rfl rfl rfl ?_
      refine St.val (v := (.bool true)) (Yields.pick_t rfl rfl) trivial rfl rfl ?_
      refine St.val (v := (.bool true)) (Yields.move rfl) trivial rfl rfl ?_
      refine St.unwanted rfl rfl rfl ?_
      refine St.unwanted rfl rfl rfl ?_
      refine St.unwanted rfl rfl rfl ?_
      refine St.val (v := (.bool true)) (Yields.pick_t rfl rfl) trivial rfl rfl ?_
      refine St.nil ?_
      obtain rfl := sI hm
      intro a w ha hs
      exact ⟨F, (PH.le_refl _), ha.covers ⟨rfl, rfl, trivial⟩, (Among.of Among.none _ hs)⟩
    · replace hm := iF hm q5
      refine St.val (v := (.bool false)) (Yields.isnt q5 (Yields.lt rfl rfl)) trivial rfl rfl ?_
      refine St.val (v := (.bool false)) (Yields.move rfl) trivial rfl rfl ?_
      refine St.val (v := (.string (bs a0))) (Yields.move rfl) rfl rfl rfl ?_
      refine St.val (v := (.int .i64 ((a0.length : Nat) : Int))) (Yields.lenStr tu9 rfl) rfl rfl rfl ?_
      by_cases q6 : ((a0.length : Nat) : Int) > 16
      · replace hm := iT hm q6
        refine St.val (v := (.bool true)) (Yields.is q6 (Yields.gt rfl rfl)) rfl rfl rfl ?_
        refine St.val (v := (.bool true)) (Yields.pick_f rfl rfl) trivial rfl rfl ?_
        refine St.val (v := (.bool true)) (Yields.move rfl) trivial rfl rfl ?_
        refine St.unwanted rfl rfl rfl ?_
        refine St.unwanted rfl rfl rfl ?_
        refine St.unwanted rfl rfl rfl ?_
        refine St.unwanted rfl rfl rfl ?_
        refine St.val (v := (.bool true)) (Yields.pick_t rfl rfl) trivial rfl rfl ?_
        refine St.val (v := (.bool true)) (Yields.move rfl) trivial rfl rfl ?_
        refine St.unwanted rfl rfl rfl ?_
        refine St.unwanted rfl rfl rfl ?_
        refine St.unwanted rfl rfl rfl ?_
        refine St.val (v := (.bool true)) (Yields.pick_t rfl rfl) trivial rfl rfl ?_
        refine St.nil ?_
        obtain rfl := sI hm
        intro a w ha hs
        exact ⟨F, (PH.le_refl _), ha.covers ⟨rfl, rfl, trivial⟩, (Among.of Among.none _ hs)⟩
      · replace hm := iF hm q6
        refine St.val (v := (.bool false)) (Yields.isnt q6 (Yields.gt rfl rfl)) rfl rfl rfl ?_
        refine St.val (v := (.bool false)) (Yields.pick_f rfl rfl) trivial rfl rfl ?_
        refine St.val (v := (.bool false)) (Yields.move rfl) trivial rfl rfl ?_
        refine St.val (v := (.string (bs a0))) (Yields.move rfl) rfl rfl rfl ?_
        obtain ⟨x7, e8, hm⟩ := bS hm
        refine St.val (v := (.int .u8 ((x7.toNat : Nat) : Int))) (Yields.indexStr (nlit e8) tu9 rfl rfl) rfl rfl rfl ?_
        obtain ⟨q9, e10, hm⟩ := bS hm
        refine St.call [] (m_ref08_isSmall_sp e10) rfl (fun _ ha => ev1 ha rfl) rfl en93 rfl rfl rfl ?_
        rintro _ F11 _ ⟨rfl, rfl⟩ l12
        by_cases q13 : q9 = true
        · replace hm := iT hm q13
          have hb14 : (q9) = true := q13
          try rw [hb14]
          refine St.val (v := (.bool false)) (Yields.not_t rfl) rfl rfl rfl ?_
          refine St.val (v := (.bool false)) (Yields.pick_f rfl rfl) trivial rfl rfl ?_
          refine St.val (v := (.bool false)) (Yields.move rfl) trivial rfl rfl ?_
          refine St.val (v := (.string (bs a0))) (Yields.move rfl) rfl rfl rfl ?_
          obtain ⟨q15, e16, hm⟩ := bS hm
          refine St.call [] (m_ref08_rest_sp e16) rfl (fun _ ha => ev2 ha rfl rfl) rfl en103 rfl rfl rfl ?_
          rintro _ F17 _ ⟨rfl, rfl⟩ l18
          refine St.val (v := (.bool (!q15))) (Yields.not rfl) rfl rfl rfl ?_
          refine St.val (v := (.bool (!q15))) (Yields.pick_f rfl rfl) trivial rfl rfl ?_
          refine St.nil ?_
          obtain rfl := sI hm
          intro a w ha hs
          exact ⟨F17, (PH.le_trans l12 l18), ha.covers ⟨rfl, rfl, trivial⟩, (Among.of Among.none _ hs)⟩
        · replace hm := iF hm q13
          have hb19 : (q9) = false := eq_false_of_ne_true q13
          try rw [hb19]
          refine St.val (v := (.bool true)) (Yields.not_f rfl) rfl rfl rfl ?_
          refine St.val (v := (.bool true)) (Yields.pick_f rfl rfl) trivial rfl rfl ?_
          refine St.val (v := (.bool true)) (Yields.move rfl) trivial rfl rfl ?_
          refine St.unwanted rfl rfl rfl ?_
          refine St.unwanted rfl rfl rfl ?_
          refine St.unwanted rfl rfl rfl ?_
          refine St.val (v := (.bool true)) (Yields.pick_t rfl rfl) trivial rfl rfl ?_
          refine St.nil ?_
          obtain rfl := sI hm
          intro a w ha hs
          exact ⟨F11, l12, ha.covers ⟨rfl, rfl, trivial⟩, (Among.of Among.none _ hs)⟩
  · rintro a w ⟨F2, l3, ha, hs⟩
    replace hm := hk4
    refine St.use (?_ : St _ _ _ _ _ _) ha hs
    clear ha hs a w
    refine St.cond_b rfl ?_ ?_
    · intro q20
      replace q20 : z1 = true := q20
      replace hm := iT hm q20
      refine St.seq ?_
      refine St.region ?_
      refine St.val (v := (.bool false)) (Yields.assign rfl) trivial rfl rfl ?_
      refine St.nil ?_
      refine St.norm ?_
      refine St.ret ?_
      refine St.thenret ?_
      obtain rfl := sI hm
      exact St.doneR1 rfl rfl ⟨rfl, rfl⟩ (fun w hs => Among.of Among.none w hs)
    · intro q21
      replace q21 : ¬ (z1 = true) := bf q21
      replace hm := iF hm q21
      refine St.skip ?_
      refine St.norm ?_
      refine St.seq ?_
      refine St.region ?_
      obtain ⟨q22, e23, hm⟩ := bS hm
      refine St.call [] (m_ref08_reserved_sp e23) rfl (fun _ _ => ev0) rfl en106 rfl rfl trivial ?_
      rintro _ F24 _ ⟨A26, c27, rfl, h28, rfl⟩ l25
      refine St.val (v := (.slice A26 q22.length c27)) (Yields.assign rfl) trivial rfl rfl ?_
      refine St.nil ?_
      refine St.norm ?_
      obtain ⟨o31, hm, ho32⟩ := jS hm
      refine St.cutI (fun a w => ∃ z30 : Unit, o31 = .inl z30 ∧ Has Try.f104.ntmps a [] ∧ Sat ⟨w0, fun b => m0 b ≠ none, F⟩ F24 [] w) ?_ ?_
      · skip
        refine St.seq ?_
        refine St.region ?_
        refine St.val (v := (.int .i64 0)) (Yields.assign rfl) trivial rfl rfl ?_
        refine St.nil ?_
        refine St.norm ?_
        refine St.block ?_
        refine St.loopM hm (fun s34 a w => Has Try.f104.ntmps a [(0, .string (bs a0)), (3, .slice A26 q22.length c27), (4, .int .i64 ((s34 : Nat) : Int))] ∧ Sat ⟨w0, fun b => m0 b ≠ none, F⟩ F24 [] w) ?_ ?_
        · skip
          intro a w ha hs
          exact ⟨ha.covers ⟨rfl, rfl, rfl, trivial⟩, (Among.of Among.none _ hs)⟩
        · rintro s34 o35 co36 hm ho37 a w ⟨ha, hs⟩
          refine St.use (?_ : St _ _ _ _ _ _) ha hs
          clear ha hs a w
          refine St.seq ?_
          refine St.seq ?_
          refine St.region ?_
          refine St.val (v := (.int .i64 ((s34 : Nat) : Int))) (Yields.move rfl) trivial rfl rfl ?_
          refine St.val (v := (.slice A26 q22.length c27)) (Yields.move rfl) trivial rfl rfl ?_
          refine St.val (v := (.int .i64 ((q22.length : Nat) : Int))) (Yields.lenSlice tu123 rfl) trivial rfl rfl ?_
          refine St.val (v := (.bool (decide (((s34 : Nat) : Int) < ((q22.length : Nat) : Int))))) (Yields.lt rfl rfl) trivial rfl rfl ?_
          refine St.nil ?_
          refine St.norm ?_
          refine St.cond_b rfl ?_ ?_
          · intro q38
            replace q38 : ((s34 : Nat) : Int) < ((q22.length : Nat) : Int) := of_decide_eq_true q38
            replace hm := iT hm q38
            refine St.skip ?_
            refine St.norm ?_
            refine St.seq ?_
            refine St.block ?_
            refine St.seq ?_
            refine St.region ?_
            refine St.val (v := (.slice A26 q22.length c27)) (Yields.move rfl) trivial rfl rfl ?_
            refine St.val (v := (.int .i64 ((s34 : Nat) : Int))) (Yields.move rfl) trivial rfl rfl ?_
            obtain ⟨x39, e40, hm⟩ := bS hm
            obtain ⟨p41, cs42, jx43, R44, k45⟩ := h28.nidx e40
            obtain rfl := R44
            refine St.val (v := (.pointer (some p41))) (Yields.idx jx43 ts123 rfl rfl) trivial rfl rfl ?_
            refine St.val (v := (.string (bs x39))) (Yields.load rfl (Loads.Fat k45 tc9 rfl)) trivial rfl rfl ?_
            refine St.val (v := (.string (bs a0))) (Yields.move rfl) trivial rfl rfl ?_
            refine St.val (v := (.bool (decide (x39 = a0)))) (Yields.eqStr rfl rfl) trivial rfl rfl ?_
            refine St.nil ?_
            refine St.norm ?_
            refine St.cond_b rfl ?_ ?_
            · intro q46
              replace q46 : x39 = a0 := of_decide_eq_true q46
              replace hm := iT hm q46
              refine St.seq ?_
              refine St.region ?_
              refine St.val (v := (.bool false)) (Yields.assign rfl) trivial rfl rfl ?_
              refine St.nil ?_
              refine St.norm ?_
              refine St.ret ?_
              refine St.inret ?_
              refine St.thenret ?_
              refine St.thenret ?_
              refine St.inret ?_
              refine St.thenret ?_
              obtain rfl := sI hm
              obtain rfl := aR ho37
              obtain rfl := aR ho32
              exact St.doneR1 rfl rfl ⟨rfl, rfl⟩ (fun w hs => Among.of Among.none w hs)
            · intro q47
              replace q47 : ¬ (x39 = a0) := of_decide_eq_false q47
              replace hm := iF hm q47
              refine St.skip ?_
              refine St.innorm ?_
              refine St.norm ?_
              refine St.region ?_
              refine St.val (v := (.int .i64 ((s34 : Nat) : Int))) (Yields.move rfl) trivial rfl rfl ?_
              refine St.val (v := (.int .i64 ((s34 + 1 : Nat) : Int))) (Yields.addn (j := 1) rfl rfl rfl (by have q_0 := q38; have q_1 := h28.bnd.2; omega)) trivial rfl rfl ?_
              refine St.val (v := (.int .i64 ((s34 + 1 : Nat) : Int))) (Yields.assign rfl) trivial rfl rfl ?_
              refine St.nil ?_
              refine St.norm ?_
              obtain rfl := sI hm
              intro a w ha hs
              exact ⟨s34 + 1, aL ho37, ha.covers ⟨rfl, rfl, rfl, trivial⟩, (Among.of Among.none _ hs)⟩
          · intro q48
            replace q48 : ¬ (((s34 : Nat) : Int) < ((q22.length : Nat) : Int)) := of_decide_eq_false q48
            replace hm := iF hm q48
            refine St.exit ?_
            refine St.thenexit ?_
            refine St.thenexit ?_
            refine St.inexit ?_
            obtain rfl := sI hm
            obtain rfl := aR ho37
            intro a w ha hs
            exact ⟨(), rfl, ha.covers trivial, (Among.of Among.none _ hs)⟩
      · rintro a w ⟨z30, rfl, ha, hs⟩
        replace hm := aL ho32
        refine St.use (?_ : St _ _ _ _ _ _) ha hs
        clear ha hs a w
        refine St.seq ?_
        refine St.region ?_
        refine St.val (v := (.bool true)) (Yields.assign rfl) trivial rfl rfl ?_
        refine St.nil ?_
        refine St.norm ?_
        refine St.ret ?_
        obtain rfl := sI hm
        exact St.doneR1 rfl rfl ⟨rfl, rfl⟩ (fun w hs => Among.of Among.none w hs)

theorem m_ref08_IsCore_sp {F : PH} {g : Nat} {a0 : List UInt8} {r : Bool} (hm : m_ref08_IsCore g a0 = some r) :
    CallSp Try.prog 96 #[.string (bs a0)] F [] (fun u F' H' => u = (.bool r) ∧ H' = []) := by
  unfold m_ref08_IsCore at hm
  refine CallSp.enter (args := [.string (bs a0)]) Try.func96 rfl rfl ?_
  intro w0 m0 hm0
  refine St.seq ?_
  refine St.region ?_
  refine St.val (v := (.bool false)) (Yields.assign rfl) trivial rfl rfl ?_
  refine St.nil ?_
  refine St.norm ?_
  obtain ⟨z1, hm, hk4⟩ := bS hm
  refine St.cutI (fun a w => ∃ (F2 : PH), PH.le F F2 ∧ Has Try.f96.ntmps a [(2, .bool z1)] ∧ Sat ⟨w0, fun b => m0 b ≠ none, F⟩ F2 [] w) ?_ ?_
  · skip
    refine St.region ?_
    refine St.val (v := (.string (bs a0))) (Yields.move rfl) trivial rfl rfl ?_
    obtain ⟨q5, e6, hm⟩ := bS hm
    refine St.call [] (m_ref08_IsSmall_sp e6) rfl (fun _ ha => ev1 ha rfl) rfl en104 rfl rfl trivial ?_
    rintro _ F7 _ ⟨rfl, rfl⟩ l8
    by_cases q9 : q5 = true
    · replace hm := iT hm q9
      have hb10 : (q5) = true := q9
      try rw [hb10]
      refine St.val (v := (.bool true)) (Yields.move rfl) trivial rfl rfl ?_
      refine St.unwanted rfl rfl rfl ?_
      refine St.unwanted rfl rfl rfl ?_
      refine St.unwanted rfl rfl rfl ?_
      refine St.unwanted rfl rfl rfl ?_
      refine St.unwanted trivial rfl rfl ?_
      refine St.unwanted trivial rfl rfl ?_
      refine St.unwanted trivial rfl rfl ?_
      refine St.unwanted rfl rfl rfl ?_
      refine St.unwanted rfl rfl rfl ?_
      refine St.unwanted trivial rfl rfl ?_
      refine St.unwanted trivial rfl rfl ?_
      refine St.unwanted trivial rfl rfl ?_
      refine St.unwanted rfl rfl rfl ?_
      refine St.unwanted rfl rfl rfl ?_
      refine St.unwanted trivial rfl rfl ?_
      refine St.unwanted trivial rfl rfl ?_
      refine St.unwanted rfl rfl rfl ?_
      refine St.val (v := (.bool true)) (Yields.pick_t rfl rfl) trivial rfl rfl ?_
      refine St.val (v := (.bool true)) (Yields.assign rfl) trivial rfl rfl ?_
      refine St.nil ?_
      obtain rfl := sI hm
      intro a w ha hs
      exact ⟨F7, l8, ha.covers ⟨rfl, trivial⟩, (Among.of Among.none _ hs)⟩
    · replace hm := iF hm q9
      have hb11 : (q5) = false := eq_false_of_ne_true q9
      try rw [hb11]
      refine St.val (v := (.bool false)) (Yields.move rfl) trivial rfl rfl ?_
      refine St.val (v := (.string (bs a0))) (Yields.move rfl) rfl rfl rfl ?_
      refine St.val (v := (.int .i64 ((a0.length : Nat) : Int))) (Yields.lenStr tu9 rfl) rfl rfl rfl ?_
      by_cases q12 : ((a0.length : Nat) : Int) ≥ 2
      · replace hm := iT hm q12
        refine St.val (v := (.bool true)) (Yields.is q12 (Yields.ge rfl rfl)) rfl rfl rfl ?_
        refine St.val (v := (.bool true)) (Yields.move rfl) rfl rfl rfl ?_
        refine St.val (v := (.string (bs a0))) (Yields.move rfl) rfl rfl rfl ?_
        refine St.val (v := (.int .i64 ((a0.length : Nat) : Int))) (Yields.lenStr tu9 rfl) rfl rfl rfl ?_
        by_cases q13 : ((a0.length : Nat) : Int) ≤ 16
        · replace hm := iT hm q13
          refine St.val (v := (.bool true)) (Yields.is q13 (Yields.le rfl rfl)) rfl rfl rfl ?_
          refine St.val (v := (.bool true)) (Yields.pick_t rfl rfl) rfl rfl rfl ?_
          refine St.val (v := (.bool true)) (Yields.move rfl) rfl rfl rfl ?_
          refine St.val (v := (.string (bs a0))) (Yields.move rfl) rfl rfl rfl ?_
          obtain ⟨x14, e15, hm⟩ := bS hm
          refine St.val (v := (.int .u8 ((x14.toNat : Nat) : Int))) (Yields.indexStr (nlit e15) tu9 rfl rfl) rfl rfl rfl ?_
          by_cases q16 : ((x14.toNat : Nat) : Int) = 95
          · replace hm := iT hm q16
            refine St.val (v := (.bool true)) (Yields.is q16 (Yields.eq rfl rfl)) rfl rfl rfl ?_
            refine St.val (v := (.bool true)) (Yields.pick_t rfl rfl) rfl rfl rfl ?_
            refine St.val (v := (.bool true)) (Yields.move rfl) rfl rfl rfl ?_
            refine St.val (v := (.string (bs a0))) (Yields.move rfl) rfl rfl rfl ?_
            obtain ⟨q17, e18, hm⟩ := bS hm
            refine St.call [] (m_ref08_rest_sp e18) rfl (fun _ ha => ev2 ha rfl rfl) rfl en103 rfl rfl rfl ?_
            rintro _ F19 _ ⟨rfl, rfl⟩ l20
            refine St.val (v := (.bool q17)) (Yields.pick_t rfl rfl) rfl rfl rfl ?_
            refine St.val (v := (.bool q17)) (Yields.pick_f rfl rfl) trivial rfl rfl ?_
            refine St.val (v := (.bool q17)) (Yields.assign rfl) trivial rfl rfl ?_
            refine St.nil ?_
            obtain rfl := sI hm
            intro a w ha hs
            exact ⟨F19, (PH.le_trans l8 l20), ha.covers ⟨rfl, trivial⟩, (Among.of Among.none _ hs)⟩
          · replace hm := iF hm q16
            refine St.val (v := (.bool false)) (Yields.isnt q16 (Yields.eq rfl rfl)) rfl rfl rfl ?_
            refine St.val (v := (.bool false)) (Yields.pick_t rfl rfl) rfl rfl rfl ?_
            refine St.val (v := (.bool false)) (Yields.move rfl) rfl rfl rfl ?_
            refine St.unwanted rfl rfl rfl ?_
            refine St.unwanted rfl rfl rfl ?_
            refine St.val (v := (.bool false)) (Yields.pick_f rfl rfl) rfl rfl rfl ?_
            refine St.val (v := (.bool false)) (Yields.pick_f rfl rfl) trivial rfl rfl ?_
            refine St.val (v := (.bool false)) (Yields.assign rfl) trivial rfl rfl ?_
            refine St.nil ?_
            obtain rfl := sI hm
            intro a w ha hs
            exact ⟨F7, l8, ha.covers ⟨rfl, trivial⟩, (Among.of Among.none _ hs)⟩
        · replace hm := iF hm q13
          refine St.val (v := (.bool false)) (Yields.isnt q13 (Yields.le rfl rfl)) rfl rfl rfl ?_
          refine St.val (v := (.bool false)) (Yields.pick_t rfl rfl) rfl rfl rfl ?_
          refine St.val (v := (.bool false)) (Yields.move rfl) rfl rfl rfl ?_
          refine St.unwanted rfl rfl rfl ?_
          refine St.unwanted rfl rfl rfl ?_
          refine St.unwanted rfl rfl rfl ?_
          refine St.val (v := (.bool false)) (Yields.pick_f rfl rfl) rfl rfl rfl ?_
          refine St.val (v := (.bool false)) (Yields.move rfl) rfl rfl rfl ?_
          refine St.unwanted rfl rfl rfl ?_
          refine St.unwanted rfl rfl rfl ?_
          refine St.val (v := (.bool false)) (Yields.pick_f rfl rfl) rfl rfl rfl ?_
          refine St.val (v := (.bool false)) (Yields.pick_f rfl rfl) trivial rfl rfl ?_
          refine St.val (v := (.bool false)) (Yields.assign rfl) trivial rfl rfl ?_
          refine St.nil ?_
          obtain rfl := sI hm
          intro a w ha hs
          exact ⟨F7, l8, ha.covers ⟨rfl, trivial⟩, (Among.of Among.none _ hs)⟩
      · replace hm := iF hm q12
        refine St.val (v := (.bool false)) (Yields.isnt q12 (Yields.ge rfl rfl)) rfl rfl rfl ?_
        refine St.val (v := (.bool false)) (Yields.move rfl) rfl rfl rfl ?_
        refine St.unwanted rfl rfl rfl ?_
        refine St.unwanted rfl rfl rfl ?_
        refine St.unwanted rfl rfl rfl ?_
        refine St.val (v := (.bool false)) (Yields.pick_f rfl rfl) rfl rfl rfl ?_
        refine St.val (v := (.bool false)) (Yields.move rfl) rfl rfl rfl ?_
        refine St.unwanted rfl rfl rfl ?_
        refine St.unwanted rfl rfl rfl ?_
        refine St.unwanted rfl rfl rfl ?_
        refine St.val (v := (.bool false)) (Yields.pick_f rfl rfl) rfl rfl rfl ?_
        refine St.val (v := (.bool false)) (Yields.move rfl) rfl rfl rfl ?_
        refine St.unwanted rfl rfl rfl ?_
        refine St.unwanted rfl rfl rfl ?_
        refine St.val (v := (.bool false)) (Yields.pick_f rfl rfl) rfl rfl rfl ?_
        refine St.val (v := (.bool false)) (Yields.pick_f rfl rfl) trivial rfl rfl ?_
        refine St.val (v := (.bool false)) (Yields.assign rfl) trivial rfl rfl ?_
        refine St.nil ?_
        obtain rfl := sI hm
        intro a w ha hs
        exact ⟨F7, l8, ha.covers ⟨rfl, trivial⟩, (Among.of Among.none _ hs)⟩
  · rintro a w ⟨F2, l3, ha, hs⟩
    replace hm := hk4
    refine St.use (?_ : St _ _ _ _ _ _) ha hs
    clear ha hs a w
    refine St.ret ?_
    obtain rfl := sI hm
    exact St.doneR1 rfl rfl ⟨rfl, rfl⟩ (fun w hs => Among.of Among.none w hs)

theorem m_ref08_number_sp {F : PH} {g : Nat} {a0 : List UInt8} {a1 : Int} {r : Int × Bool} (hm : m_ref08_number g a0 a1 = some r) :
    CallSp Try.prog 97 #[.string (bs a0), .int .i64 a1] F [] (fun u F' H' => u = (.tuple #[.int .i64 r.1, .bool r.2]) ∧ H' = []) := by
  unfold m_ref08_number at hm
  refine CallSp.enter (args := [.string (bs a0), .int .i64 a1]) Try.func97 rfl rfl ?_
  intro w0 m0 hm0
  refine St.seq ?_
  refine St.region ?_
  refine St.val (v := (.int .i64 0)) (Yields.assign rfl) trivial rfl rfl ?_
  refine St.val (v := (.bool false)) (Yields.assign rfl) trivial rfl rfl ?_
  refine St.nil ?_
  refine St.norm ?_
  refine St.seq ?_
  obtain ⟨z1, hm, hk2⟩ := bS hm
  refine St.cutI (fun a w => Has Try.f97.ntmps a [(0, .string (bs a0)), (1, .int .i64 a1), (24, .bool z1)] ∧ Sat ⟨w0, fun b => m0 b ≠ none, F⟩ F [] w) ?_ ?_
  · skip
    refine St.region ?_
    refine St.val (v := (.string (bs a0))) (Yields.move rfl) trivial rfl rfl ?_
    by_cases q3 : a0 = ([] : List UInt8)
    · replace hm := iT hm q3
      refine St.val (v := (.bool true)) (Yields.is q3 (Yields.eqStr rfl rfl)) trivial rfl rfl ?_
      refine St.val (v := (.bool true)) (Yields.move rfl) trivial rfl rfl ?_
      refine St.unwanted rfl rfl rfl ?_
      refine St.unwanted rfl rfl rfl ?_
      refine St.unwanted rfl rfl rfl ?_
      refine St.val (v := (.bool true)) (Yields.pick_t rfl rfl) trivial rfl rfl ?_
      refine St.val (v := (.bool true)) (Yields.move rfl) trivial rfl rfl ?_
      refine St.unwanted rfl rfl rfl ?_
      refine St.unwanted rfl rfl rfl ?_
      refine St.unwanted rfl rfl rfl ?_
      refine St.unwanted rfl rfl rfl ?_
      refine St.unwanted trivial rfl rfl ?_
      refine St.unwanted trivial rfl rfl ?_
      refine St.unwanted trivial rfl rfl ?_
      refine St.unwanted rfl rfl rfl ?_
      refine St.val (v := (.bool true)) (Yields.pick_t rfl rfl) trivial rfl rfl ?_
      refine St.nil ?_
      obtain rfl := sI hm
      intro a w ha hs
      exact ⟨ha.covers ⟨rfl, rfl, rfl, trivial⟩, (Among.of Among.none _ hs)⟩
    · replace hm := iF hm q3
      refine St.val (v := (.bool false)) (Yields.isnt q3 (Yields.eqStr rfl rfl)) trivial rfl rfl ?_
      refine St.val (v := (.bool false)) (Yields.move rfl) trivial rfl rfl ?_
      refine St.val (v := (.string (bs a0))) (Yields.move rfl) rfl rfl rfl ?_
      refine St.val (v := (.int .i64 ((a0.length : Nat) : Int))) (Yields.lenStr tu9 rfl) rfl rfl rfl ?_
      by_cases q4 : ((a0.length : Nat) : Int) > 10
      · replace hm := iT hm q4
        refine St.val (v := (.bool true)) (Yields.is q4 (Yields.gt rfl rfl)) rfl rfl rfl ?_
        refine St.val (v := (.bool true)) (Yields.pick_f rfl rfl) trivial rfl rfl ?_
        refine St.val (v := (.bool true)) (Yields.move rfl) trivial rfl rfl ?_
        refine St.unwanted rfl rfl rfl ?_
        refine St.unwanted rfl rfl rfl ?_
        refine St.unwanted rfl rfl rfl ?_
        refine St.unwanted rfl rfl rfl ?_
        refine St.unwanted trivial rfl rfl ?_
        refine St.unwanted trivial rfl rfl ?_
        refine St.unwanted trivial rfl rfl ?_
        refine St.unwanted rfl rfl rfl ?_
        refine St.val (v := (.bool true)) (Yields.pick_t rfl rfl) trivial rfl rfl ?_
        refine St.nil ?_
        obtain rfl := sI hm
        intro a w ha hs
        exact ⟨ha.covers ⟨rfl, rfl, rfl, trivial⟩, (Among.of Among.none _ hs)⟩
      · replace hm := iF hm q4
        refine St.val (v := (.bool false)) (Yields.isnt q4 (Yields.gt rfl rfl)) rfl rfl rfl ?_
        refine St.val (v := (.bool false)) (Yields.pick_f rfl rfl) trivial rfl rfl ?_
        refine St.val (v := (.bool false)) (Yields.move rfl) trivial rfl rfl ?_
        refine St.val (v := (.string (bs a0))) (Yields.move rfl) rfl rfl rfl ?_
        obtain ⟨x5, e6, hm⟩ := bS hm
        refine St.val (v := (.int .u8 ((x5.toNat : Nat) : Int))) (Yields.indexStr (nlit e6) tu9 rfl rfl) rfl rfl rfl ?_
        by_cases q7 : ((x5.toNat : Nat) : Int) = 48
        · replace hm := iT hm q7
          refine St.val (v := (.bool true)) (Yields.is q7 (Yields.eq rfl rfl)) rfl rfl rfl ?_
          refine St.val (v := (.bool true)) (Yields.move rfl) rfl rfl rfl ?_
          refine St.val (v := (.string (bs a0))) (Yields.move rfl) rfl rfl rfl ?_
          refine St.val (v := (.int .i64 ((a0.length : Nat) : Int))) (Yields.lenStr tu9 rfl) rfl rfl rfl ?_
          refine St.val (v := (.bool (decide (((a0.length : Nat) : Int) > 1)))) (Yields.gt rfl rfl) rfl rfl rfl ?_
          refine St.val (v := (.bool (decide (((a0.length : Nat) : Int) > 1)))) (Yields.pick_t rfl rfl) rfl rfl rfl ?_
          refine St.val (v := (.bool (decide (((a0.length : Nat) : Int) > 1)))) (Yields.pick_f rfl rfl) trivial rfl rfl ?_
          refine St.nil ?_
          obtain rfl := sI hm
          intro a w ha hs
          exact ⟨ha.covers ⟨rfl, rfl, rfl, trivial⟩, (Among.of Among.none _ hs)⟩
        · replace hm := iF hm q7
          refine St.val (v := (.bool false)) (Yields.isnt q7 (Yields.eq rfl rfl)) rfl rfl rfl ?_
          refine St.val (v := (.bool false)) (Yields.move rfl) rfl rfl rfl ?_
          refine St.unwanted rfl rfl rfl ?_
          refine St.unwanted rfl rfl rfl ?_
          refine St.unwanted rfl rfl rfl ?_
          refine St.val (v := (.bool false)) (Yields.pick_f rfl rfl) rfl rfl rfl ?_
          refine St.val (v := (.bool false)) (Yields.pick_f rfl rfl) trivial rfl rfl ?_
          refine St.nil ?_
          obtain rfl := sI hm
          intro a w ha hs
          exact ⟨ha.covers ⟨rfl, rfl, rfl, trivial⟩, (Among.of Among.none _ hs)⟩
  · rintro a w ⟨ha, hs⟩
    replace hm := hk2
    refine St.use (?_ : St _ _ _ _ _ _) ha hs
    clear ha hs a w
    refine St.cond_b rfl ?_ ?_
    · intro q8
      replace q8 : z1 = true := q8
      replace hm := iT hm q8
      refine St.seq ?_
      refine St.region ?_
      refine St.val (v := (.int .i64 0)) (Yields.assign rfl) trivial rfl rfl ?_
      refine St.val (v := (.bool false)) (Yields.assign rfl) trivial rfl rfl ?_
      refine St.nil ?_
      refine St.norm ?_
      refine St.ret ?_
      refine St.thenret ?_
      obtain rfl := sI hm
      exact St.doneR2 rfl rfl rfl ⟨rfl, rfl⟩ (fun w hs => Among.of Among.none w hs)
    · intro q9
      replace q9 : ¬ (z1 = true) := bf q9
      replace hm := iF hm q9
      refine St.skip ?_
      refine St.norm ?_
      refine St.seq ?_
      refine St.region ?_
      refine St.val (v := (.int .i64 0)) (Yields.assign rfl) trivial rfl rfl ?_
      refine St.nil ?_
      refine St.norm ?_
      obtain ⟨o13, hm, ho14⟩ := jS hm
      refine St.cutI (fun a w => ∃ z10 : Int, o13 = .inl z10 ∧ ∃ (F11 : PH), PH.le F F11 ∧ Has Try.f97.ntmps a [(1, .int .i64 a1), (6, .int .i64 z10)] ∧ Sat ⟨w0, fun b => m0 b ≠ none, F⟩ F11 [] w) ?_ ?_
      · skip
        refine St.seq ?_
        refine St.region ?_
        refine St.val (v := (.int .i64 0)) (Yields.assign rfl) trivial rfl rfl ?_
        refine St.nil ?_
        refine St.norm ?_
        refine St.block ?_
        refine St.loopM hm (fun s18 a w => ∃ (F22 : PH), PH.le F F22 ∧ Has Try.f97.ntmps a [(0, .string (bs a0)), (1, .int .i64 a1), (6, .int .i64 s18.1), (7, .int .i64 ((s18.2 : Nat) : Int))] ∧ Sat ⟨w0, fun b => m0 b ≠ none, F⟩ F22 [] w) ?_ ?_
        · skip
          intro a w ha hs
          exact ⟨F, (PH.le_refl _), ha.covers ⟨rfl, rfl, rfl, rfl, trivial⟩, (Among.of Among.none _ hs)⟩
        · rintro s18 o19 co20 hm ho21 a w ⟨F22, l23, ha, hs⟩
          refine St.use (?_ : St _ _ _ _ _ _) ha hs
          clear ha hs a w
          refine St.seq ?_
          refine St.seq ?_
          refine St.region ?_
          refine St.val (v := (.int .i64 ((s18.2 : Nat) : Int))) (Yields.move rfl) trivial rfl rfl ?_
          refine St.val (v := (.string (bs a0))) (Yields.move rfl) trivial rfl rfl ?_
          refine St.val (v := (.int .i64 ((a0.length : Nat) : Int))) (Yields.lenStr tu9 rfl) trivial rfl rfl ?_
          refine St.val (v := (.bool (decide (((s18.2 : Nat) : Int) < ((a0.length : Nat) : Int))))) (Yields.lt rfl rfl) trivial rfl rfl ?_
          refine St.nil ?_
          refine St.norm ?_
          refine St.cond_b rfl ?_ ?_
          · intro q24
            replace q24 : ((s18.2 : Nat) : Int) < ((a0.length : Nat) : Int) := of_decide_eq_true q24
            replace hm := iT hm q24
            refine St.skip ?_
            refine St.norm ?_
            refine St.seq ?_
            refine St.block ?_
            refine St.seq ?_
            refine St.seq ?_
            refine St.region ?_
            refine St.val (v := (.string (bs a0))) (Yields.move rfl) trivial rfl rfl ?_
            refine St.val (v := (.int .i64 ((s18.2 : Nat) : Int))) (Yields.move rfl) trivial rfl rfl ?_
            obtain ⟨x25, e26, hm⟩ := bS hm
            refine St.val (v := (.int .u8 ((x25.toNat : Nat) : Int))) (Yields.indexStr (nlit e26) tu9 rfl rfl) trivial rfl rfl ?_
            obtain ⟨q27, e28, hm⟩ := bS hm
            refine St.call [] (m_ref08_isDigit_sp e28) rfl (fun _ ha => ev1 ha rfl) rfl en68 rfl rfl trivial ?_
            rintro _ F29 _ ⟨rfl, rfl⟩ l30
            refine St.val (v := (.bool (!q27))) (Yields.not rfl) trivial rfl rfl ?_
            refine St.nil ?_
            refine St.norm ?_
            refine St.cond_b rfl ?_ ?_
            · intro q31
              replace q31 : ¬ (q27 = true) := nb_t q31
              replace hm := iF hm q31
              refine St.seq ?_
              refine St.region ?_
              refine St.val (v := (.int .i64 0)) (Yields.assign rfl) trivial rfl rfl ?_
              refine St.val (v := (.bool false)) (Yields.assign rfl) trivial rfl rfl ?_
              refine St.nil ?_
              refine St.norm ?_
              refine St.ret ?_
              refine St.thenret ?_
              refine St.inret ?_
              refine St.thenret ?_
              refine St.thenret ?_
              refine St.inret ?_
              refine St.thenret ?_
              obtain rfl := sI hm
              obtain rfl := aR ho21
              obtain rfl := aR ho14
              exact St.doneR2 rfl rfl rfl ⟨rfl, rfl⟩ (fun w hs => Among.of Among.none w hs)
            · intro q32
              replace q32 : q27 = true := nb_f q32
              replace hm := iT hm q32
              refine St.skip ?_
              refine St.norm ?_
              refine St.region ?_
              refine St.val (v := (.int .i64 s18.1)) (Yields.move rfl) trivial rfl rfl ?_
              refine St.val (v := (.int .i64 (Mir.w64 (10 * s18.1)))) (Yields.mulw rfl rfl) trivial rfl rfl ?_
              refine St.val (v := (.string (bs a0))) (Yields.move rfl) trivial rfl rfl ?_
              refine St.val (v := (.int .i64 ((s18.2 : Nat) : Int))) (Yields.move rfl) trivial rfl rfl ?_
              obtain ⟨x33, e34, hm⟩ := bS hm
              refine St.val (v := (.int .u8 ((x33.toNat : Nat) : Int))) (Yields.indexStr (nlit e34) tu9 rfl rfl) trivial rfl rfl ?_
              refine St.val (v := (.int .u8 (IntKind.wrap .u8 (((x33.toNat : Nat) : Int) - 48)))) (Yields.subw rfl rfl) trivial rfl rfl ?_
              refine St.val (v := (.int .i64 (Mir.w64 (IntKind.wrap .u8 (((x33.toNat : Nat) : Int) - 48))))) (Yields.convInt ti3 ⟨_, ti5⟩ rfl) trivial rfl rfl ?_
              refine St.val (v := (.int .i64 (Mir.w64 ((Mir.w64 (10 * s18.1)) + (Mir.w64 (IntKind.wrap .u8 (((x33.toNat : Nat) : Int) - 48))))))) (Yields.addw rfl rfl) trivial rfl rfl ?_
              refine St.val (v := (.int .i64 (Mir.w64 ((Mir.w64 (10 * s18.1)) + (Mir.w64 (IntKind.wrap .u8 (((x33.toNat : Nat) : Int) - 48))))))) (Yields.assign rfl) trivial rfl rfl ?_
              refine St.nil ?_
              refine St.innorm ?_
              refine St.norm ?_
              refine St.region ?_
              refine St.val (v := (.int .i64 ((s18.2 : Nat) : Int))) (Yields.move rfl) trivial rfl rfl ?_
              obtain ⟨x35, e36, hm⟩ := bS hm
              refine St.val (v := (.int .i64 ((s18.2 + 1 : Nat) : Int))) (Yields.addn (j := 1) rfl rfl rfl (by have q_0 := q24; have q_1 := (Mir.small_le e36); omega)) trivial rfl rfl ?_
              refine St.val (v := (.int .i64 ((s18.2 + 1 : Nat) : Int))) (Yields.assign rfl) trivial rfl rfl ?_
              refine St.nil ?_
              refine St.norm ?_
              obtain rfl := sI hm
              intro a w ha hs
              exact ⟨(Mir.w64 ((Mir.w64 (10 * s18.1)) + (Mir.w64 (IntKind.wrap .u8 (((x33.toNat : Nat) : Int) - 48)))), s18.2 + 1), aL ho21, F29, (PH.le_trans l23 l30), ha.covers ⟨rfl, rfl, rfl, rfl, trivial⟩, (Among.of Among.none _ hs)⟩
          · intro q37
            replace q37 : ¬ (((s18.2 : Nat) : Int) < ((a0.length : Nat) : Int)) := of_decide_eq_false q37
            replace hm := iF hm q37
            refine St.exit ?_
            refine St.thenexit ?_
            refine St.thenexit ?_
            refine St.inexit ?_
            obtain rfl := sI hm
            obtain rfl := aR ho21
            intro a w ha hs
            exact ⟨s18.1, rfl, F22, l23, ha.covers ⟨rfl, rfl, trivial⟩, (Among.of Among.none _ hs)⟩
      · rintro a w ⟨z10, rfl, F11, l12, ha, hs⟩
        replace hm := aL ho14
        refine St.use (?_ : St _ _ _ _ _ _) ha hs
        clear ha hs a w
        refine St.seq ?_
        refine St.region ?_
        refine St.val (v := (.int .i64 z10)) (Yields.move rfl) trivial rfl rfl ?_
        refine St.val (v := (.int .i64 z10)) (Yields.move rfl) trivial rfl rfl ?_
        refine St.val (v := (.int .i64 a1)) (Yields.move rfl) trivial rfl rfl ?_
        refine St.val (v := (.bool (decide (z10 ≤ a1)))) (Yields.le rfl rfl) trivial rfl rfl ?_
        refine St.val (v := (.int .i64 z10)) (Yields.assign rfl) trivial rfl rfl ?_
        refine St.val (v := (.bool (decide (z10 ≤ a1)))) (Yields.assign rfl) trivial rfl rfl ?_
        refine St.nil ?_
        refine St.norm ?_
        refine St.ret ?_
        obtain rfl := sI hm
        exact St.doneR2 rfl rfl rfl ⟨rfl, rfl⟩ (fun w hs => Among.of Among.none w hs)

theorem m_ref08_leaf_sp {F : PH} {g : Nat} {a0 : List UInt8} {r : Int × List UInt8 × Int × Bool} (hm : m_ref08_leaf g a0 = some r) :
    CallSp Try.prog 69 #[.string (bs a0)] F [] (fun u F' H' => u = (.tuple #[.agg #[.int .i64 r.1, .string (bs r.2.1), .int .i64 r.2.2.1, .slice none 0 0], .bool r.2.2.2]) ∧ H' = []) := by
  unfold m_ref08_leaf at hm
  refine CallSp.enter (args := [.string (bs a0)]) Try.func69 rfl rfl ?_
  intro w0 m0 hm0
  refine St.seq ?_
  refine St.region ?_
  refine St.alloc tz24 trivial rfl ?_
  intro b1
  refine St.val (v := (.bool false)) (Yields.assign rfl) trivial rfl rfl ?_
  refine St.nil ?_
  refine St.norm ?_
  refine St.seq ?_
  refine St.seq ?_
  refine St.region ?_
  refine St.val (v := (.string (bs a0))) (Yields.move rfl) trivial rfl rfl ?_
  refine St.val (v := (.bool (decide (a0 = ([] : List UInt8))))) (Yields.eqStr rfl rfl) trivial rfl rfl ?_
  refine St.nil ?_
  refine St.norm ?_
  refine St.cond_b rfl ?_ ?_
  · intro q2
    replace q2 : a0 = ([] : List UInt8) := of_decide_eq_true q2
    replace hm := iT hm q2
    refine St.seq ?_
    refine St.region ?_
    refine St.val (v := (.agg #[.int .i64 0, .string (bs []), .int .i64 0, .slice none 0 0])) (Yields.build (v := (.agg #[.int .i64 0, .string (bs []), .int .i64 0, .slice none 0 0])) (vs := #[]) (fun a _ => by simp) (fun _ => by kernel_rfl)) trivial rfl rfl ?_
    refine St.storen (R := []) rfl rfl 0 rfl rfl ta24 rfl rfl rfl trivial (cs' := #[.int .i64 0, .string (bs []), .int .i64 0, .slice none 0 0]) rfl ?_
    refine St.val (v := (.bool false)) (Yields.assign rfl) trivial rfl rfl ?_
    refine St.nil ?_
    refine St.norm ?_
    refine St.ret ?_
    refine St.thenret ?_
    obtain rfl := sI hm
    exact St.doneR2 rfl (ResOk.cell rfl (Loads.Hk (vs := [.int .i64 0, .string (bs []), .int .i64 0, .slice none 0 0]) 0 rfl ta24 rfl rfl)) rfl ⟨rfl, rfl⟩ (fun w hs => Among.of Among.none w hs)
  · intro q3
    replace q3 : ¬ (a0 = ([] : List UInt8)) := of_decide_eq_false q3
    replace hm := iF hm q3
    refine St.skip ?_
    refine St.norm ?_
    refine St.seq ?_
    refine St.seq ?_
    refine St.region ?_
    refine St.val (v := (.string (bs a0))) (Yields.move rfl) trivial rfl rfl ?_
    obtain ⟨q4, e5, hm⟩ := bS hm
    refine St.call [blk b1 (.cells #[.int .i64 0, .string (bs []), .int .i64 0, .slice none 0 0] 24 (0, 0))] (m_ref08_IsGreat_sp e5) rfl (fun _ ha => ev1 ha rfl) rfl en95 rfl rfl trivial ?_
    rintro _ F6 _ ⟨rfl, rfl⟩ l7
    refine St.nil ?_
    refine St.norm ?_
    refine St.cond_b rfl ?_ ?_
    · intro q8
      replace q8 : q4 = true := q8
      replace hm := iT hm q8
      refine St.seq ?_
      refine St.region ?_
      refine St.val (v := (.string (bs a0))) (Yields.move rfl) trivial rfl rfl ?_
      refine St.val (v := (.agg #[.int .i64 1, .string (bs a0), .int .i64 0, .slice none 0 0])) (Yields.build (v := (.agg #[.int .i64 1, .string (bs a0), .int .i64 0, .slice none 0 0])) (vs := #[(0, .int .i64 1), (1, .string (bs a0))]) (fun _ ha => evp2 ha rfl rfl) (fun _ => by kernel_rfl)) trivial rfl rfl ?_
      refine St.storen (R := []) rfl rfl 0 rfl rfl ta24 rfl rfl rfl trivial (cs' := #[.int .i64 1, .string (bs a0), .int .i64 0, .slice none 0 0]) rfl ?_
      refine St.val (v := (.bool true)) (Yields.assign rfl) trivial rfl rfl ?_
      refine St.nil ?_
      refine St.norm ?_
      refine St.ret ?_
      refine St.thenret ?_
      obtain rfl := sI hm
      exact St.doneR2 rfl (ResOk.cell rfl (Loads.Hk (vs := [.int .i64 1, .string (bs a0), .int .i64 0, .slice none 0 0]) 0 rfl ta24 rfl rfl)) rfl ⟨rfl, rfl⟩ (fun w hs => Among.of Among.none w hs)
    · intro q9
      replace q9 : ¬ (q4 = true) := bf q9
      replace hm := iF hm q9
      refine St.skip ?_
      refine St.norm ?_
      refine St.seq ?_
      obtain ⟨z10, hm, hk13⟩ := bS hm
      refine St.cutI (fun a w => ∃ (F11 : PH), PH.le F6 F11 ∧ Has Try.f69.ntmps a [(0, .string (bs a0)), (2, .pointer (some ⟨b1, 0, none⟩)), (24, .bool z10)] ∧ Sat ⟨w0, fun b => m0 b ≠ none, F⟩ F11 [blk b1 (.cells #[.int .i64 0, .string (bs []), .int .i64 0, .slice none 0 0] 24 (0, 0))] w) ?_ ?_
      · skip
        refine St.region ?_
        refine St.val (v := (.string (bs a0))) (Yields.move rfl) trivial rfl rfl ?_
        obtain ⟨x14, e15, hm⟩ := bS hm
        refine St.val (v := (.int .u8 ((x14.toNat : Nat) : Int))) (Yields.indexStr (nlit e15) tu9 rfl rfl) trivial rfl rfl ?_
        by_cases q16 : ((x14.toNat : Nat) : Int) = 39
        · replace hm := iT hm q16
          refine St.val (v := (.bool true)) (Yields.is q16 (Yields.eq rfl rfl)) trivial rfl rfl ?_
          refine St.val (v := (.bool true)) (Yields.move rfl) trivial rfl rfl ?_
          refine St.val (v := (.string (bs a0))) (Yields.move rfl) rfl rfl rfl ?_
          obtain ⟨x17, e18, hm⟩ := bS hm
          refine St.val (v := (.string (bs x17))) (Yields.subSD e18 tu9 rfl rfl) rfl rfl rfl ?_
          obtain ⟨q19, e20, hm⟩ := bS hm
          refine St.call [blk b1 (.cells #[.int .i64 0, .string (bs []), .int .i64 0, .slice none 0 0] 24 (0, 0))] (m_ref08_IsCore_sp e20) rfl (fun _ ha => ev1 ha rfl) rfl en96 rfl rfl rfl ?_
          rintro _ F21 _ ⟨rfl, rfl⟩ l22
          refine St.val (v := (.bool q19)) (Yields.pick_t rfl rfl) trivial rfl rfl ?_
          refine St.nil ?_
          obtain rfl := sI hm
          intro a w ha hs
          exact ⟨F21, l22, ha.covers ⟨rfl, rfl, rfl, trivial⟩, (Among.of (Among.take 0 rfl rfl Among.none) _ hs)⟩
        · replace hm := iF hm q16
          refine St.val (v := (.bool false)) (Yields.isnt q16 (Yields.eq rfl rfl)) trivial rfl rfl ?_
          refine St.val (v := (.bool false)) (Yields.move rfl) trivial rfl rfl ?_
          refine St.unwanted rfl rfl rfl ?_
          refine St.unwanted rfl rfl rfl ?_
          refine St.unwanted rfl rfl rfl ?_
          refine St.val (v := (.bool false)) (Yields.pick_f rfl rfl) trivial rfl rfl ?_
          refine St.nil ?_
          obtain rfl := sI hm
          intro a w ha hs
          exact ⟨F6, (PH.le_refl _), ha.covers ⟨rfl, rfl, rfl, trivial⟩, (Among.of (Among.take 0 rfl rfl Among.none) _ hs)⟩
      · rintro a w ⟨F11, l12, ha, hs⟩
        replace hm := hk13
        refine St.use (?_ : St _ _ _ _ _ _) ha hs
        clear ha hs a w
        refine St.cond_b rfl ?_ ?_
        · intro q23
          replace q23 : z10 = true := q23
          replace hm := iT hm q23
          refine St.seq ?_
          refine St.region ?_
          refine St.val (v := (.string (bs a0))) (Yields.move rfl) trivial rfl rfl ?_
          obtain ⟨x24, e25, hm⟩ := bS hm
          refine St.val (v := (.string (bs x24))) (Yields.subSD e25 tu9 rfl rfl) trivial rfl rfl ?_
          refine St.val (v := (.agg #[.int .i64 4, .string (bs x24), .int .i64 0, .slice none 0 0])) (Yields.build (v := (.agg #[.int .i64 4, .string (bs x24), .int .i64 0, .slice none 0 0])) (vs := #[(0, .int .i64 4), (1, .string (bs x24))]) (fun _ ha => evp2 ha rfl rfl) (fun _ => by kernel_rfl)) trivial rfl rfl ?_
          refine St.storen (R := []) rfl rfl 0 rfl rfl ta24 rfl rfl rfl trivial (cs' := #[.int .i64 4, .string (bs x24), .int .i64 0, .slice none 0 0]) rfl ?_
          refine St.val (v := (.bool true)) (Yields.assign rfl) trivial rfl rfl ?_
          refine St.nil ?_
          refine St.norm ?_
          refine St.ret ?_
          refine St.thenret ?_
          obtain rfl := sI hm
          exact St.doneR2 rfl (ResOk.cell rfl (Loads.Hk (vs := [.int .i64 4, .string (bs x24), .int .i64 0, .slice none 0 0]) 0 rfl ta24 rfl rfl)) rfl ⟨rfl, rfl⟩ (fun w hs => Among.of Among.none w hs)
        · intro q26
          replace q26 : ¬ (z10 = true) := bf q26
          replace hm := iF hm q26
          refine St.skip ?_
          refine St.norm ?_
          refine St.seq ?_
          refine St.seq ?_
          refine St.region ?_
          refine St.val (v := (.string (bs a0))) (Yields.move rfl) trivial rfl rfl ?_
          obtain ⟨x27, e28, hm⟩ := bS hm
          refine St.val (v := (.int .u8 ((x27.toNat : Nat) : Int))) (Yields.indexStr (nlit e28) tu9 rfl rfl) trivial rfl rfl ?_
          refine St.val (v := (.bool (decide (((x27.toNat : Nat) : Int) = 95)))) (Yields.eq rfl rfl) trivial rfl rfl ?_
          refine St.nil ?_
          refine St.norm ?_
          refine St.cond_b rfl ?_ ?_
          · intro q29
            replace q29 : ((x27.toNat : Nat) : Int) = 95 := of_decide_eq_true q29
            replace hm := iT hm q29
            refine St.seq ?_
            refine St.region ?_
            refine St.val (v := (.string (bs a0))) (Yields.move rfl) trivial rfl rfl ?_
            obtain ⟨x30, e31, hm⟩ := bS hm
            refine St.val (v := (.string (bs x30))) (Yields.subSD e31 tu9 rfl rfl) trivial rfl rfl ?_
            obtain ⟨q32, e33, hm⟩ := bS hm
            refine St.call [blk b1 (.cells #[.int .i64 0, .string (bs []), .int .i64 0, .slice none 0 0] 24 (0, 0))] (m_ref08_number_sp e33) rfl (fun _ ha => ev2 ha rfl rfl) rfl en97 rfl rfl trivial ?_
            rintro _ F34 _ ⟨rfl, rfl⟩ l35
            refine St.val (v := (.tuple #[.int .i64 q32.1, .bool q32.2])) (Yields.move rfl) trivial rfl rfl ?_
            refine St.val (v := (.int .i64 q32.1)) (Yields.extract rfl rfl) trivial rfl rfl ?_
            refine St.val (v := (.bool q32.2)) (Yields.extract rfl rfl) trivial rfl rfl ?_
            refine St.val (v := (.int .i64 q32.1)) (Yields.assign rfl) trivial rfl rfl ?_
            refine St.val (v := (.bool q32.2)) (Yields.assign rfl) trivial rfl rfl ?_
            refine St.nil ?_
            refine St.norm ?_
            refine St.seq ?_
            refine St.region ?_
            refine St.val (v := (.int .i64 q32.1)) (Yields.move rfl) trivial rfl rfl ?_
            refine St.val (v := (.agg #[.int .i64 3, .string (bs []), .int .i64 q32.1, .slice none 0 0])) (Yields.build (v := (.agg #[.int .i64 3, .string (bs []), .int .i64 q32.1, .slice none 0 0])) (vs := #[(0, .int .i64 3), (2, .int .i64 q32.1)]) (fun _ ha => evp2 ha rfl rfl) (fun _ => by kernel_rfl)) trivial rfl rfl ?_
            refine St.val (v := (.bool q32.2)) (Yields.move rfl) trivial rfl rfl ?_
            refine St.storen (R := []) rfl rfl 0 rfl rfl ta24 rfl rfl rfl trivial (cs' := #[.int .i64 3, .string (bs []), .int .i64 q32.1, .slice none 0 0]) rfl ?_
            refine St.val (v := (.bool q32.2)) (Yields.assign rfl) trivial rfl rfl ?_
            refine St.nil ?_
            refine St.norm ?_
            refine St.ret ?_
            refine St.thenret ?_
            obtain rfl := sI hm
            exact St.doneR2 rfl (ResOk.cell rfl (Loads.Hk (vs := [.int .i64 3, .string (bs []), .int .i64 q32.1, .slice none 0 0]) 0 rfl ta24 rfl rfl)) rfl ⟨rfl, rfl⟩ (fun w hs => Among.of Among.none w hs)
          · intro q36
            replace q36 : ¬ (((x27.toNat : Nat) : Int) = 95) := of_decide_eq_false q36
            replace hm := iF hm q36
            refine St.skip ?_
            refine St.norm ?_
            refine St.seq ?_
            refine St.seq ?_
            refine St.region ?_
            refine St.val (v := (.string (bs a0))) (Yields.move rfl) trivial rfl rfl ?_
            obtain ⟨x37, e38, hm⟩ := bS hm
            refine St.val (v := (.int .u8 ((x37.toNat : Nat) : Int))) (Yields.indexStr (nlit e38) tu9 rfl rfl) trivial rfl rfl ?_
            refine St.val (v := (.bool (decide (((x37.toNat : Nat) : Int) = 45)))) (Yields.eq rfl rfl) trivial rfl rfl ?_
            refine St.nil ?_
            refine St.norm ?_
            refine St.cond_b rfl ?_ ?_
            · intro q39
              replace q39 : ((x37.toNat : Nat) : Int) = 45 := of_decide_eq_true q39
              replace hm := iT hm q39
              refine St.seq ?_
              refine St.region ?_
              refine St.val (v := (.string (bs a0))) (Yields.move rfl) trivial rfl rfl ?_
              obtain ⟨x40, e41, hm⟩ := bS hm
              refine St.val (v := (.string (bs x40))) (Yields.subSD e41 tu9 rfl rfl) trivial rfl rfl ?_
              obtain ⟨q42, e43, hm⟩ := bS hm
              refine St.call [blk b1 (.cells #[.int .i64 0, .string (bs []), .int .i64 0, .slice none 0 0] 24 (0, 0))] (m_ref08_number_sp e43) rfl (fun _ ha => ev2 ha rfl rfl) rfl en97 rfl rfl trivial ?_
              rintro _ F44 _ ⟨rfl, rfl⟩ l45
              refine St.val (v := (.tuple #[.int .i64 q42.1, .bool q42.2])) (Yields.move rfl) trivial rfl rfl ?_
              refine St.val (v := (.int .i64 q42.1)) (Yields.extract rfl rfl) trivial rfl rfl ?_
              refine St.val (v := (.bool q42.2)) (Yields.extract rfl rfl) trivial rfl rfl ?_
              refine St.val (v := (.int .i64 q42.1)) (Yields.assign rfl) trivial rfl rfl ?_
              refine St.val (v := (.bool q42.2)) (Yields.assign rfl) trivial rfl rfl ?_
              refine St.nil ?_
              refine St.norm ?_
              obtain ⟨z46, hm, hk47⟩ := bS hm
              refine St.cutI (fun a w => Has Try.f69.ntmps a [(2, .pointer (some ⟨b1, 0, none⟩)), (3, .bool z46)] ∧ Sat ⟨w0, fun b => m0 b ≠ none, F⟩ F44 [blk b1 (.cells #[.int .i64 2, .string (bs []), .int .i64 (Mir.w64 (-q42.1)), .slice none 0 0] 24 (0, 0))] w) ?_ ?_
              · skip
                refine St.region ?_
                refine St.val (v := (.int .i64 q42.1)) (Yields.move rfl) trivial rfl rfl ?_
                refine St.val (v := (.int .i64 (Mir.w64 (-q42.1)))) (Yields.neg rfl) trivial rfl rfl ?_
                refine St.val (v := (.agg #[.int .i64 2, .string (bs []), .int .i64 (Mir.w64 (-q42.1)), .slice none 0 0])) (Yields.build (v := (.agg #[.int .i64 2, .string (bs []), .int .i64 (Mir.w64 (-q42.1)), .slice none 0 0])) (vs := #[(0, .int .i64 2), (2, .int .i64 (Mir.w64 (-q42.1)))]) (fun _ ha => evp2 ha rfl rfl) (fun _ => by kernel_rfl)) trivial rfl rfl ?_
                by_cases q48 : q42.2 = true
                · replace hm := iT hm q48
                  have hb49 : (q42.2) = true := q48
                  try rw [hb49]
                  refine St.val (v := (.bool true)) (Yields.move rfl) trivial rfl rfl ?_
                  refine St.val (v := (.bool true)) (Yields.move rfl) trivial rfl rfl ?_
                  refine St.val (v := (.int .i64 q42.1)) (Yields.move rfl) rfl rfl rfl ?_
                  refine St.val (v := (.bool (decide (q42.1 > 0)))) (Yields.gt rfl rfl) rfl rfl rfl ?_
                  refine St.val (v := (.bool (decide (q42.1 > 0)))) (Yields.pick_t rfl rfl) trivial rfl rfl ?_
                  refine St.storen (R := []) rfl rfl 0 rfl rfl ta24 rfl rfl rfl trivial (cs' := #[.int .i64 2, .string (bs []), .int .i64 (Mir.w64 (-q42.1)), .slice none 0 0]) rfl ?_
                  refine St.val (v := (.bool (decide (q42.1 > 0)))) (Yields.assign rfl) trivial rfl rfl ?_
                  refine St.nil ?_
                  obtain rfl := sI hm
                  intro a w ha hs
                  exact ⟨ha.covers ⟨rfl, rfl, trivial⟩, (Among.of (Among.take 0 rfl rfl Among.none) _ hs)⟩
                · replace hm := iF hm q48
                  have hb50 : (q42.2) = false := eq_false_of_ne_true q48
                  try rw [hb50]
                  refine St.val (v := (.bool false)) (Yields.move rfl) trivial rfl rfl ?_
                  refine St.val (v := (.bool false)) (Yields.move rfl) trivial rfl rfl ?_
                  refine St.unwanted rfl rfl rfl ?_
                  refine St.unwanted rfl rfl rfl ?_
                  refine St.val (v := (.bool false)) (Yields.pick_f rfl rfl) trivial rfl rfl ?_
                  refine St.storen (R := []) rfl rfl 0 rfl rfl ta24 rfl rfl rfl trivial (cs' := #[.int .i64 2, .string (bs []), .int .i64 (Mir.w64 (-q42.1)), .slice none 0 0]) rfl ?_
                  refine St.val (v := (.bool false)) (Yields.assign rfl) trivial rfl rfl ?_
                  refine St.nil ?_
                  obtain rfl := sI hm
                  intro a w ha hs
                  exact ⟨ha.covers ⟨rfl, rfl, trivial⟩, (Among.of (Among.take 0 rfl rfl Among.none) _ hs)⟩
              · rintro a w ⟨ha, hs⟩
                replace hm := hk47
                refine St.use (?_ : St _ _ _ _ _ _) ha hs
                clear ha hs a w
                refine St.ret ?_
                refine St.thenret ?_
                obtain rfl := sI hm
                exact St.doneR2 rfl (ResOk.cell rfl (Loads.Hk (vs := [.int .i64 2, .string (bs []), .int .i64 (Mir.w64 (-q42.1)), .slice none 0 0]) 0 rfl ta24 rfl rfl)) rfl ⟨rfl, rfl⟩ (fun w hs => Among.of Among.none w hs)
            · intro q51
              replace q51 : ¬ (((x37.toNat : Nat) : Int) = 45) := of_decide_eq_false q51
              replace hm := iF hm q51
              refine St.skip ?_
              refine St.norm ?_
              refine St.seq ?_
              refine St.region ?_
              refine St.val (v := (.string (bs a0))) (Yields.move rfl) trivial rfl rfl ?_
              obtain ⟨q52, e53, hm⟩ := bS hm
              refine St.call [blk b1 (.cells #[.int .i64 0, .string (bs []), .int .i64 0, .slice none 0 0] 24 (0, 0))] (m_ref08_number_sp e53) rfl (fun _ ha => ev2 ha rfl rfl) rfl en97 rfl rfl trivial ?_
              rintro _ F54 _ ⟨rfl, rfl⟩ l55
              refine St.val (v := (.tuple #[.int .i64 q52.1, .bool q52.2])) (Yields.move rfl) trivial rfl rfl ?_
              refine St.val (v := (.int .i64 q52.1)) (Yields.extract rfl rfl) trivial rfl rfl ?_
              refine St.val (v := (.bool q52.2)) (Yields.extract rfl rfl) trivial rfl rfl ?_
              refine St.val (v := (.int .i64 q52.1)) (Yields.assign rfl) trivial rfl rfl ?_
              refine St.val (v := (.bool q52.2)) (Yields.assign rfl) trivial rfl rfl ?_
              refine St.nil ?_
              refine St.norm ?_
              refine St.seq ?_
              refine St.region ?_
              refine St.val (v := (.int .i64 q52.1)) (Yields.move rfl) trivial rfl rfl ?_
              refine St.val (v := (.agg #[.int .i64 2, .string (bs []), .int .i64 q52.1, .slice none 0 0])) (Yields.build (v := (.agg #[.int .i64 2, .string (bs []), .int .i64 q52.1, .slice none 0 0])) (vs := #[(0, .int .i64 2), (2, .int .i64 q52.1)]) (fun _ ha => evp2 ha rfl rfl) (fun _ => by kernel_rfl)) trivial rfl rfl ?_
              refine St.val (v := (.bool q52.2)) (Yields.move rfl) trivial rfl rfl ?_
              refine St.storen (R := []) rfl rfl 0 rfl rfl ta24 rfl rfl rfl trivial (cs' := #[.int .i64 2, .string (bs []), .int .i64 q52.1, .slice none 0 0]) rfl ?_
              refine St.val (v := (.bool q52.2)) (Yields.assign rfl) trivial rfl rfl ?_
              refine St.nil ?_
              refine St.norm ?_
              refine St.ret ?_
              obtain rfl := sI hm
              exact St.doneR2 rfl (ResOk.cell rfl (Loads.Hk (vs := [.int .i64 2, .string (bs []), .int .i64 q52.1, .slice none 0 0]) 0 rfl ta24 rfl rfl)) rfl ⟨rfl, rfl⟩ (fun w hs => Among.of Among.none w hs)

abbrev m_ref08_value_S (g : Nat) : Prop := ∀ {F : PH} {a0 : List DToken} {a1 : Int} {pA0 : Option Addr} {pc0 : Nat} (ph0 : Fsl 24 KDToken F pA0 pc0 a0) {r : DValue × Int × Bool} (_ : m_ref08_value g a0 a1 = some r),
    CallSp Try.prog 32 #[.slice pA0 a0.length pc0, .int .i64 a1] F [] (fun u F' H' => ∃ (B0_0 : Option Addr) (d0_0 : Nat), u = (.tuple #[.agg #[.int .i64 r.1.Op, .string (bs r.1.Name), .int .i64 r.1.N, .slice B0_0 r.1.Kids.length d0_0], .int .i64 r.2.1, .bool r.2.2]) ∧ Fsl 56 KDValue F' B0_0 d0_0 r.1.Kids ∧ H' = [])
theorem m_ref08_value_st {g : Nat} (ih_m_ref08_value : m_ref08_value_S g) : m_ref08_value_S (g + 1) := by
  intro F a0 a1 pA0 pc0 ph0 r hm
  rw [m_ref08_value] at hm
  refine CallSp.enter (args := [.slice pA0 a0.length pc0, .int .i64 a1]) Try.func32 rfl rfl ?_
  intro w0 m0 hm0
  refine St.seq ?_
  refine St.region ?_
  refine St.alloc tz24 trivial rfl ?_
  intro b2
  refine St.val (v := (.int .i64 0)) (Yields.assign rfl) trivial rfl rfl ?_
  refine St.val (v := (.bool false)) (Yields.assign rfl) trivial rfl rfl ?_
  refine St.nil ?_
  refine St.norm ?_
  refine St.seq ?_
  refine St.seq ?_
  refine St.region ?_
  refine St.val (v := (.slice pA0 a0.length pc0)) (Yields.move rfl) trivial rfl rfl ?_
  refine St.val (v := (.int .i64 a1)) (Yields.move rfl) trivial rfl rfl ?_
  obtain ⟨x3, e4, hm⟩ := bS hm
  obtain ⟨p5, cs6, jx7, R8, k9⟩ := ph0.idx e4
  obtain rfl := DToken.opn R8
  refine St.val (v := (.pointer (some p5))) (Yields.idx jx7 ts56 rfl rfl) trivial rfl rfl ?_
  refine St.val (v := (.pointer (some p5))) (Yields.fieldAddr (v := (.pointer (some p5))) rfl (fun _ => by kernel_rfl)) trivial rfl rfl ?_
  refine St.val (v := (.string (bs x3.s))) (Yields.load rfl (Loads.Fat k9 tc9 rfl)) trivial rfl rfl ?_
  refine St.val (v := (.bool (decide (x3.s = ([40] : List UInt8))))) (Yields.eqStr rfl rfl) trivial rfl rfl ?_
  refine St.nil ?_
  refine St.norm ?_
  refine St.cond_b rfl ?_ ?_
  · intro q10
    replace q10 : x3.s = ([40] : List UInt8) := of_decide_eq_true q10
    replace hm := iT hm q10
    refine St.seq ?_
    refine St.region ?_
    refine St.val (v := (.slice pA0 a0.length pc0)) (Yields.move rfl) trivial rfl rfl ?_
    refine St.val (v := (.int .i64 a1)) (Yields.move rfl) trivial rfl rfl ?_
    refine St.val (v := (.int .i64 (Mir.w64 (a1 + 1)))) (Yields.addw rfl rfl) trivial rfl rfl ?_
    obtain ⟨q11, e12, hm⟩ := bS hm
    refine St.call [blk b2 (.cells #[.int .i64 0, .string (bs []), .int .i64 0, .slice none 0 0] 24 (0, 0))] (ih_m_ref08_value ph0 e12) rfl (fun _ ha => ev2 ha rfl rfl) rfl en32 rfl rfl trivial ?_
    rintro _ F13 _ ⟨A15, c16, rfl, h17, rfl⟩ l14
    refine St.val (v := (.tuple #[.agg #[.int .i64 q11.1.Op, .string (bs q11.1.Name), .int .i64 q11.1.N, .slice A15 q11.1.Kids.length c16], .int .i64 q11.2.1, .bool q11.2.2])) (Yields.move rfl) trivial rfl rfl ?_
    refine St.val (v := (.agg #[.int .i64 q11.1.Op, .string (bs q11.1.Name), .int .i64 q11.1.N, .slice A15 q11.1.Kids.length c16])) (Yields.extract rfl rfl) trivial rfl rfl ?_
    refine St.val (v := (.int .i64 q11.2.1)) (Yields.extract rfl rfl) trivial rfl rfl ?_
    refine St.val (v := (.bool q11.2.2)) (Yields.extract rfl rfl) trivial rfl rfl ?_
    refine St.alloc tz24 trivial rfl ?_
    intro b19
    refine St.storen (R := [blk b2 (.cells #[.int .i64 0, .string (bs []), .int .i64 0, .slice none 0 0] 24 (0, 0))]) rfl rfl 0 rfl rfl ta24 rfl rfl rfl trivial (cs' := #[.int .i64 q11.1.Op, .string (bs q11.1.Name), .int .i64 q11.1.N, .slice A15 q11.1.Kids.length c16]) rfl ?_
    refine St.val (v := (.int .i64 q11.2.1)) (Yields.assign rfl) trivial rfl rfl ?_
    refine St.val (v := (.bool q11.2.2)) (Yields.assign rfl) trivial rfl rfl ?_
    refine St.nil ?_
    refine St.norm ?_
    refine St.seq ?_
    obtain ⟨z20, hm, hk21⟩ := bS hm
    refine St.cutI (fun a w => Has Try.f32.ntmps a [(4, .pointer (some ⟨b2, 0, none⟩)), (7, .pointer (some ⟨b19, 0, none⟩)), (8, .int .i64 q11.2.1), (38, .bool z20)] ∧ Sat ⟨w0, fun b => m0 b ≠ none, F⟩ F13 [blk b2 (.cells #[.int .i64 0, .string (bs []), .int .i64 0, .slice none 0 0] 24 (0, 0)), blk b19 (.cells #[.int .i64 q11.1.Op, .string (bs q11.1.Name), .int .i64 q11.1.N, .slice A15 q11.1.Kids.length c16] 24 (0, 0))] w) ?_ ?_
    · skip
      refine St.region ?_
      by_cases q22 : q11.2.2 = true
      · replace hm := iT hm q22
        have hb23 : (q11.2.2) = true := q22
        try rw [hb23]
        refine St.val (v := (.bool true)) (Yields.move rfl) trivial rfl rfl ?_
        refine St.val (v := (.bool false)) (Yields.not_t rfl) trivial rfl rfl ?_
        refine St.val (v := (.bool false)) (Yields.move rfl) trivial rfl rfl ?_
        refine St.val (v := (.slice pA0 a0.length pc0)) (Yields.move rfl) rfl rfl rfl ?_
        refine St.val (v := (.int .i64 q11.2.1)) (Yields.move rfl) rfl rfl rfl ?_
        obtain ⟨x24, e25, hm⟩ := bS hm
        obtain ⟨p26, cs27, jx28, R29, k30⟩ := (Fsl.mono l14 ph0).idx e25
        obtain rfl := DToken.opn R29
        refine St.val (v := (.pointer (some p26))) (Yields.idx jx28 ts56 rfl rfl) rfl rfl rfl ?_
        refine St.val (v := (.pointer (some p26))) (Yields.fieldAddr (v := (.pointer (some p26))) rfl (fun _ => by kernel_rfl)) rfl rfl rfl ?_
        refine St.val (v := (.string (bs x24.s))) (Yields.load rfl (Loads.Fat k30 tc9 rfl)) rfl rfl rfl ?_
        refine St.val (v := (.bool (!decide (x24.s = ([41] : List UInt8))))) (Yields.neStr rfl rfl) rfl rfl rfl ?_
        refine St.val (v := (.bool (!decide (x24.s = ([41] : List UInt8))))) (Yields.pick_f rfl rfl) trivial rfl rfl ?_
        refine St.nil ?_
        obtain rfl := sI hm
        intro a w ha hs
        exact ⟨ha.covers ⟨rfl, rfl, rfl, rfl, trivial⟩, (Among.of (Among.take 1 rfl rfl (Among.take 0 rfl rfl Among.none)) _ hs)⟩
      · replace hm := iF hm q22
        have hb31 : (q11.2.2) = false := eq_false_of_ne_true q22
        try rw [hb31]
        refine St.val (v := (.bool false)) (Yields.move rfl) trivial rfl rfl ?_
        refine St.val (v := (.bool true)) (Yields.not_f rfl) trivial rfl rfl ?_
        refine St.val (v := (.bool true)) (Yields.move rfl) trivial rfl rfl ?_
        refine St.unwanted rfl rfl rfl ?_
        refine St.unwanted rfl rfl rfl ?_
        refine St.unwanted rfl rfl rfl ?_
        refine St.unwanted rfl rfl rfl ?_
        refine St.unwanted rfl rfl rfl ?_
        refine St.unwanted rfl rfl rfl ?_
        refine St.val (v := (.bool true)) (Yields.pick_t rfl rfl) trivial rfl rfl ?_
        refine St.nil ?_
        obtain rfl := sI hm
        intro a w ha hs
        exact ⟨ha.covers ⟨rfl, rfl, rfl, rfl, trivial⟩, (Among.of (Among.take 1 rfl rfl (Among.take 0 rfl rfl Among.none)) _ hs)⟩
    · rintro a w ⟨ha, hs⟩
      replace hm := hk21
      refine St.use (?_ : St _ _ _ _ _ _) ha hs
      clear ha hs a w
      refine St.cond_b rfl ?_ ?_
      · intro q32
        replace q32 : z20 = true := q32
        replace hm := iT hm q32
        refine St.seq ?_
        refine St.region ?_
        refine St.val (v := (.agg #[.int .i64 q11.1.Op, .string (bs q11.1.Name), .int .i64 q11.1.N, .slice A15 q11.1.Kids.length c16])) (Yields.load rfl (Loads.Hk (vs := [.int .i64 q11.1.Op, .string (bs q11.1.Name), .int .i64 q11.1.N, .slice A15 q11.1.Kids.length c16]) 1 rfl ta24 rfl rfl)) trivial rfl rfl ?_
        refine St.val (v := (.int .i64 q11.2.1)) (Yields.move rfl) trivial rfl rfl ?_
        refine St.storen (R := [blk b19 (.cells #[.int .i64 q11.1.Op, .string (bs q11.1.Name), .int .i64 q11.1.N, .slice A15 q11.1.Kids.length c16] 24 (0, 0))]) rfl rfl 0 rfl rfl ta24 rfl rfl rfl trivial (cs' := #[.int .i64 q11.1.Op, .string (bs q11.1.Name), .int .i64 q11.1.N, .slice A15 q11.1.Kids.length c16]) rfl ?_
        refine St.val (v := (.int .i64 q11.2.1)) (Yields.assign rfl) trivial rfl rfl ?_
        refine St.val (v := (.bool false)) (Yields.assign rfl) trivial rfl rfl ?_
        refine St.nil ?_
        refine St.norm ?_
        refine St.ret ?_
        refine St.thenret ?_
        refine St.thenret ?_
        obtain rfl := sI hm
        exact St.doneR3 rfl (ResOk.cell rfl (Loads.Hk (vs := [.int .i64 q11.1.Op, .string (bs q11.1.Name), .int .i64 q11.1.N, .slice A15 q11.1.Kids.length c16]) 0 rfl ta24 rfl rfl)) rfl rfl ⟨A15, c16, rfl, h17, rfl⟩ (fun w hs => Among.of Among.none w hs)
      · intro q33
        replace q33 : ¬ (z20 = true) := bf q33
        replace hm := iF hm q33
        refine St.skip ?_
        refine St.norm ?_
        refine St.seq ?_
        refine St.region ?_
        refine St.val (v := (.agg #[.int .i64 q11.1.Op, .string (bs q11.1.Name), .int .i64 q11.1.N, .slice A15 q11.1.Kids.length c16])) (Yields.load rfl (Loads.Hk (vs := [.int .i64 q11.1.Op, .string (bs q11.1.Name), .int .i64 q11.1.N, .slice A15 q11.1.Kids.length c16]) 1 rfl ta24 rfl rfl)) trivial rfl rfl ?_
        refine St.val (v := (.int .i64 q11.2.1)) (Yields.move rfl) trivial rfl rfl ?_
        refine St.val (v := (.int .i64 (Mir.w64 (q11.2.1 + 1)))) (Yields.addw rfl rfl) trivial rfl rfl ?_
        refine St.storen (R := [blk b19 (.cells #[.int .i64 q11.1.Op, .string (bs q11.1.Name), .int .i64 q11.1.N, .slice A15 q11.1.Kids.length c16] 24 (0, 0))]) rfl rfl 0 rfl rfl ta24 rfl rfl rfl trivial (cs' := #[.int .i64 q11.1.Op, .string (bs q11.1.Name), .int .i64 q11.1.N, .slice A15 q11.1.Kids.length c16]) rfl ?_
        refine St.val (v := (.int .i64 (Mir.w64 (q11.2.1 + 1)))) (Yields.assign rfl) trivial rfl rfl ?_
        refine St.val (v := (.bool true)) (Yields.assign rfl) trivial rfl rfl ?_
        refine St.nil ?_
        refine St.norm ?_
        refine St.ret ?_
        refine St.thenret ?_
        obtain rfl := sI hm
        exact St.doneR3 rfl (ResOk.cell rfl (Loads.Hk (vs := [.int .i64 q11.1.Op, .string (bs q11.1.Name), .int .i64 q11.1.N, .slice A15 q11.1.Kids.length c16]) 0 rfl ta24 rfl rfl)) rfl rfl ⟨A15, c16, rfl, h17, rfl⟩ (fun w hs => Among.of Among.none w hs)
  · intro q34
    replace q34 : ¬ (x3.s = ([40] : List UInt8)) := of_decide_eq_false q34
    replace hm := iF hm q34
    refine St.skip ?_
    refine St.norm ?_
    refine St.seq ?_
    refine St.region ?_
    refine St.val (v := (.slice pA0 a0.length pc0)) (Yields.move rfl) trivial rfl rfl ?_
    refine St.val (v := (.int .i64 a1)) (Yields.move rfl) trivial rfl rfl ?_
    obtain ⟨x35, e36, hm⟩ := bS hm
    obtain ⟨p37, cs38, jx39, R40, k41⟩ := ph0.idx e36
    obtain rfl := DToken.opn R40
    refine St.val (v := (.pointer (some p37))) (Yields.idx jx39 ts56 rfl rfl) trivial rfl rfl ?_
    refine St.val (v := (.pointer (some p37))) (Yields.fieldAddr (v := (.pointer (some p37))) rfl (fun _ => by kernel_rfl)) trivial rfl rfl ?_
    refine St.val (v := (.string (bs x35.s))) (Yields.load rfl (Loads.Fat k41 tc9 rfl)) trivial rfl rfl ?_
    obtain ⟨q42, e43, hm⟩ := bS hm
    refine St.call [blk b2 (.cells #[.int .i64 0, .string (bs []), .int .i64 0, .slice none 0 0] 24 (0, 0))] (m_ref08_leaf_sp e43) rfl (fun _ ha => ev1 ha rfl) rfl en69 rfl rfl trivial ?_
    rintro _ F44 _ ⟨rfl, rfl⟩ l45
    refine St.val (v := (.tuple #[.agg #[.int .i64 q42.1, .string (bs q42.2.1), .int .i64 q42.2.2.1, .slice none 0 0], .bool q42.2.2.2])) (Yields.move rfl) trivial rfl rfl ?_
    refine St.val (v := (.agg #[.int .i64 q42.1, .string (bs q42.2.1), .int .i64 q42.2.2.1, .slice none 0 0])) (Yields.extract rfl rfl) trivial rfl rfl ?_
    refine St.val (v := (.bool q42.2.2.2)) (Yields.extract rfl rfl) trivial rfl rfl ?_
    refine St.alloc tz24 trivial rfl ?_
    intro b46
    refine St.storen (R := [blk b2 (.cells #[.int .i64 0, .string (bs []), .int .i64 0, .slice none 0 0] 24 (0, 0))]) rfl rfl 0 rfl rfl ta24 rfl rfl rfl trivial (cs' := #[.int .i64 q42.1, .string (bs q42.2.1), .int .i64 q42.2.2.1, .slice none 0 0]) rfl ?_
    refine St.val (v := (.bool q42.2.2.2)) (Yields.assign rfl) trivial rfl rfl ?_
    refine St.nil ?_
    refine St.norm ?_
    refine St.seq ?_
    refine St.seq ?_
    refine St.region ?_
    refine St.val (v := (.bool q42.2.2.2)) (Yields.move rfl) trivial rfl rfl ?_
    refine St.val (v := (.bool (!q42.2.2.2))) (Yields.not rfl) trivial rfl rfl ?_
    refine St.nil ?_
    refine St.norm ?_
    refine St.cond_b rfl ?_ ?_
    · intro q47
      replace q47 : ¬ (q42.2.2.2 = true) := nb_t q47
      replace hm := iF hm q47
      refine St.seq ?_
      refine St.region ?_
      refine St.val (v := (.agg #[.int .i64 q42.1, .string (bs q42.2.1), .int .i64 q42.2.2.1, .slice none 0 0])) (Yields.load rfl (Loads.Hk (vs := [.int .i64 q42.1, .string (bs q42.2.1), .int .i64 q42.2.2.1, .slice none 0 0]) 0 rfl ta24 rfl rfl)) trivial rfl rfl ?_
      refine St.val (v := (.int .i64 a1)) (Yields.move rfl) trivial rfl rfl ?_
      refine St.storen (R := [blk b46 (.cells #[.int .i64 q42.1, .string (bs q42.2.1), .int .i64 q42.2.2.1, .slice none 0 0] 24 (0, 0))]) rfl rfl 1 rfl rfl ta24 rfl rfl rfl trivial (cs' := #[.int .i64 q42.1, .string (bs q42.2.1), .int .i64 q42.2.2.1, .slice none 0 0]) rfl ?_
      refine St.val (v := (.int .i64 a1)) (Yields.assign rfl) trivial rfl rfl ?_
      refine St.val (v := (.bool false)) (Yields.assign rfl) trivial rfl rfl ?_
      refine St.nil ?_
      refine St.norm ?_
      refine St.ret ?_
      refine St.thenret ?_
      obtain rfl := sI hm
      exact St.doneR3 rfl (ResOk.cell rfl (Loads.Hk (vs := [.int .i64 q42.1, .string (bs q42.2.1), .int .i64 q42.2.2.1, .slice none 0 0]) 0 rfl ta24 rfl rfl)) rfl rfl ⟨none, 0, rfl, Fsl.nil, rfl⟩ (fun w hs => Among.of Among.none w hs)
    · intro q48
      replace q48 : q42.2.2.2 = true := nb_f q48
      replace hm := iT hm q48
      refine St.skip ?_
      refine St.norm ?_
      refine St.seq ?_
      refine St.region ?_
      refine St.val (v := (.int .i64 a1)) (Yields.move rfl) trivial rfl rfl ?_
      refine St.val (v := (.int .i64 (Mir.w64 (a1 + 1)))) (Yields.addw rfl rfl) trivial rfl rfl ?_
      refine St.val (v := (.int .i64 (Mir.w64 (a1 + 1)))) (Yields.assign rfl) trivial rfl rfl ?_
      refine St.nil ?_
      refine St.norm ?_
      obtain ⟨o58, hm, ho59⟩ := jS hm
      refine St.cutI (fun a w => ∃ z49 : Int × List DValue, o58 = .inl z49 ∧ ∃ (A53 : Option Addr) (c54 : Nat) (cells56 : List Value) (F50 : PH), PH.le F44 F50 ∧ Cat KDValue F50 cells56 z49.2 ∧ Bnd 56 z49.2 ∧ Has Try.f32.ntmps a [(1, .int .i64 z49.1), (4, .pointer (some ⟨b2, 0, none⟩)), (10, .pointer (some ⟨b46, 0, none⟩))] ∧ Sat ⟨w0, fun b => m0 b ≠ none, F⟩ F50 [blk b2 (.cells #[.int .i64 0, .string (bs []), .int .i64 0, .slice none 0 0] 24 (0, 0)), blk b46 (.cells #[.int .i64 q42.1, .string (bs q42.2.1), .int .i64 q42.2.2.1, .slice A53 z49.2.length c54] 24 (0, 0)), rowo A53 z49.2.length c54 24 4 cells56] w) ?_ ?_
      · skip
        refine St.block ?_
        refine St.loopM hm (fun s69 a w => ∃ (A74 : Option Addr) (c75 : Nat) (cells77 : List Value) (F79 : PH), PH.le F44 F79 ∧ Cat KDValue F79 cells77 s69.2 ∧ Bnd 56 s69.2 ∧ Has Try.f32.ntmps a [(0, .slice pA0 a0.length pc0), (1, .int .i64 s69.1), (4, .pointer (some ⟨b2, 0, none⟩)), (10, .pointer (some ⟨b46, 0, none⟩))] ∧ Sat ⟨w0, fun b => m0 b ≠ none, F⟩ F79 [blk b2 (.cells #[.int .i64 0, .string (bs []), .int .i64 0, .slice none 0 0] 24 (0, 0)), blk b46 (.cells #[.int .i64 q42.1, .string (bs q42.2.1), .int .i64 q42.2.2.1, .slice A74 s69.2.length c75] 24 (0, 0)), rowo A74 s69.2.length c75 24 4 cells77] w) ?_ ?_
        · skip
          refine St.rowo_new 24 4 ?_
          intro a w ha hs
          exact ⟨none, 0, [], F44, (PH.le_refl _), (show Cat KDValue _ [] [] from rfl), Bnd.of_nil, ha.covers ⟨rfl, rfl, rfl, rfl, trivial⟩, (Among.of (Among.take 2 rfl rfl (Among.take 1 rfl rfl (Among.take 0 rfl rfl Among.none))) _ hs)⟩
        · rintro s69 o70 co71 hm ho72 a w ⟨A74, c75, cells77, F79, l80, h76, b78, ha, hs⟩
          refine St.use (?_ : St _ _ _ _ _ _) ha hs
          clear ha hs a w
          refine St.seq ?_
          obtain ⟨z82, hm, hk83⟩ := bS hm
          refine St.cutI (fun a w => Has Try.f32.ntmps a [(0, .slice pA0 a0.length pc0), (1, .int .i64 s69.1), (4, .pointer (some ⟨b2, 0, none⟩)), (10, .pointer (some ⟨b46, 0, none⟩)), (66, .bool z82)] ∧ Sat ⟨w0, fun b => m0 b ≠ none, F⟩ F79 [blk b2 (.cells #[.int .i64 0, .string (bs []), .int .i64 0, .slice none 0 0] 24 (0, 0)), blk b46 (.cells #[.int .i64 q42.1, .string (bs q42.2.1), .int .i64 q42.2.2.1, .slice A74 s69.2.length c75] 24 (0, 0)), rowo A74 s69.2.length c75 24 4 cells77] w) ?_ ?_
          · skip
            refine St.region ?_
            refine St.val (v := (.pointer (some ⟨b46, 0, none⟩))) (Yields.fieldAddr (v := (.pointer (some ⟨b46, 0, none⟩))) rfl (fun _ => by kernel_rfl)) trivial rfl rfl ?_
            refine St.val (v := (.int .i64 q42.1)) (Yields.load rfl (Loads.H1 1 rfl tc3 rfl)) trivial rfl rfl ?_
            by_cases q84 : q42.1 = 1
            · replace hm := iT hm q84
              refine St.val (v := (.bool true)) (Yields.is q84 (Yields.eq rfl rfl)) trivial rfl rfl ?_
              refine St.val (v := (.bool true)) (Yields.move rfl) trivial rfl rfl ?_
              refine St.unwanted rfl rfl rfl ?_
              refine St.unwanted rfl rfl rfl ?_
              refine St.unwanted rfl rfl rfl ?_
              refine St.val (v := (.bool true)) (Yields.pick_t rfl rfl) trivial rfl rfl ?_
              refine St.nil ?_
              obtain rfl := sI hm
              intro a w ha hs
              exact ⟨ha.covers ⟨rfl, rfl, rfl, rfl, rfl, trivial⟩, (Among.of (Among.take 0 rfl rfl (Among.take 0 rfl rfl (Among.take 0 rfl rfl Among.none))) _ hs)⟩
            · replace hm := iF hm q84
              refine St.val (v := (.bool false)) (Yields.isnt q84 (Yields.eq rfl rfl)) trivial rfl rfl ?_
              refine St.val (v := (.bool false)) (Yields.move rfl) trivial rfl rfl ?_
              refine St.val (v := (.pointer (some ⟨b46, 0, none⟩))) (Yields.fieldAddr (v := (.pointer (some ⟨b46, 0, none⟩))) rfl (fun _ => by kernel_rfl)) rfl rfl rfl ?_
              refine St.val (v := (.int .i64 q42.1)) (Yields.load rfl (Loads.H1 1 rfl tc3 rfl)) rfl rfl rfl ?_
              refine St.val (v := (.bool (decide (q42.1 = 4)))) (Yields.eq rfl rfl) rfl rfl rfl ?_
              refine St.val (v := (.bool (decide (q42.1 = 4)))) (Yields.pick_f rfl rfl) trivial rfl rfl ?_
              refine St.nil ?_
              obtain rfl := sI hm
              intro a w ha hs
              exact ⟨ha.covers ⟨rfl, rfl, rfl, rfl, rfl, trivial⟩, (Among.of (Among.take 0 rfl rfl (Among.take 0 rfl rfl (Among.take 0 rfl rfl Among.none))) _ hs)⟩
          · rintro a w ⟨ha, hs⟩
            replace hm := hk83
            refine St.use (?_ : St _ _ _ _ _ _) ha hs
            clear ha hs a w
            refine St.cond_b rfl ?_ ?_
            · intro q85
              replace q85 : z82 = true := q85
              replace hm := iT hm q85
              refine St.skip ?_
              refine St.norm ?_
              refine St.block ?_
              refine St.seq ?_
              refine St.region ?_
              refine St.val (v := (.slice pA0 a0.length pc0)) (Yields.move rfl) trivial rfl rfl ?_
              refine St.val (v := (.int .i64 s69.1)) (Yields.move rfl) trivial rfl rfl ?_
              obtain ⟨x86, e87, hm⟩ := bS hm
              obtain ⟨p88, cs89, jx90, R91, k92⟩ := (Fsl.mono (PH.le_trans l45 l80) ph0).idx e87
              obtain rfl := DToken.opn R91
              refine St.val (v := (.pointer (some p88))) (Yields.idx jx90 ts56 rfl rfl) trivial rfl rfl ?_
              refine St.val (v := (.pointer (some p88))) (Yields.fieldAddr (v := (.pointer (some p88))) rfl (fun _ => by kernel_rfl)) trivial rfl rfl ?_
              refine St.val (v := (.string (bs x86.s))) (Yields.load rfl (Loads.Fat k92 tc9 rfl)) trivial rfl rfl ?_
              obtain ⟨q93, e94, hm⟩ := bS hm
              refine St.call [blk b2 (.cells #[.int .i64 0, .string (bs []), .int .i64 0, .slice none 0 0] 24 (0, 0)), blk b46 (.cells #[.int .i64 q42.1, .string (bs q42.2.1), .int .i64 q42.2.2.1, .slice A74 s69.2.length c75] 24 (0, 0)), rowo A74 s69.2.length c75 24 4 cells77] (m_ref08_leaf_sp e94) rfl (fun _ ha => ev1 ha rfl) rfl en69 rfl rfl trivial ?_
              rintro _ F95 _ ⟨rfl, rfl⟩ l96
              refine St.val (v := (.tuple #[.agg #[.int .i64 q93.1, .string (bs q93.2.1), .int .i64 q93.2.2.1, .slice none 0 0], .bool q93.2.2.2])) (Yields.move rfl) trivial rfl rfl ?_
              refine St.val (v := (.agg #[.int .i64 q93.1, .string (bs q93.2.1), .int .i64 q93.2.2.1, .slice none 0 0])) (Yields.extract rfl rfl) trivial rfl rfl ?_
              refine St.val (v := (.bool q93.2.2.2)) (Yields.extract rfl rfl) trivial rfl rfl ?_
              refine St.alloc tz24 trivial rfl ?_
              intro b97
              refine St.storen (R := [blk b2 (.cells #[.int .i64 0, .string (bs []), .int .i64 0, .slice none 0 0] 24 (0, 0)), blk b46 (.cells #[.int .i64 q42.1, .string (bs q42.2.1), .int .i64 q42.2.2.1, .slice A74 s69.2.length c75] 24 (0, 0)), rowo A74 s69.2.length c75 24 4 cells77]) rfl rfl 0 rfl rfl ta24 rfl rfl rfl trivial (cs' := #[.int .i64 q93.1, .string (bs q93.2.1), .int .i64 q93.2.2.1, .slice none 0 0]) rfl ?_
              refine St.val (v := (.bool q93.2.2.2)) (Yields.assign rfl) trivial rfl rfl ?_
              refine St.nil ?_
              refine St.norm ?_
              refine St.seq ?_
              refine St.region ?_
              refine St.val (v := (.int .i64 s69.1)) (Yields.move rfl) trivial rfl rfl ?_
              refine St.val (v := (.int .i64 (Mir.w64 (s69.1 + 1)))) (Yields.addw rfl rfl) trivial rfl rfl ?_
              refine St.val (v := (.int .i64 (Mir.w64 (s69.1 + 1)))) (Yields.assign rfl) trivial rfl rfl ?_
              refine St.nil ?_
              refine St.norm ?_
              obtain ⟨o105, hm, ho106⟩ := jS hm
              refine St.cutI (fun a w => ∃ z98 : Int × List UInt8 × Int × List DValue × Bool × Int, o105 = .inl z98 ∧ ∃ (A102 : Option Addr) (c103 : Nat) (F99 : PH), PH.le F95 F99 ∧ Fsl 56 KDValue F99 A102 c103 z98.2.2.2.1 ∧ Has Try.f32.ntmps a [(0, .slice pA0 a0.length pc0), (1, .int .i64 s69.1), (4, .pointer (some ⟨b2, 0, none⟩)), (10, .pointer (some ⟨b46, 0, none⟩)), (12, .pointer (some ⟨b97, 0, none⟩)), (13, .bool z98.2.2.2.2.1), (14, .int .i64 z98.2.2.2.2.2)] ∧ Sat ⟨w0, fun b => m0 b ≠ none, F⟩ F99 [blk b2 (.cells #[.int .i64 0, .string (bs []), .int .i64 0, .slice none 0 0] 24 (0, 0)), blk b46 (.cells #[.int .i64 q42.1, .string (bs q42.2.1), .int .i64 q42.2.2.1, .slice A74 s69.2.length c75] 24 (0, 0)), blk b97 (.cells #[.int .i64 z98.1, .string (bs z98.2.1), .int .i64 z98.2.2.1, .slice A102 z98.2.2.2.1.length c103] 24 (0, 0)), rowo A74 s69.2.length c75 24 4 cells77] w) ?_ ?_
              · skip
                obtain ⟨z107, hm, hk108⟩ := bS hm
                refine St.cutI (fun a w => Has Try.f32.ntmps a [(0, .slice pA0 a0.length pc0), (1, .int .i64 s69.1), (4, .pointer (some ⟨b2, 0, none⟩)), (10, .pointer (some ⟨b46, 0, none⟩)), (12, .pointer (some ⟨b97, 0, none⟩)), (13, .bool z107.1), (14, .int .i64 (Mir.w64 (s69.1 + 1))), (87, .bool z107.2)] ∧ Sat ⟨w0, fun b => m0 b ≠ none, F⟩ F95 [blk b2 (.cells #[.int .i64 0, .string (bs []), .int .i64 0, .slice none 0 0] 24 (0, 0)), blk b46 (.cells #[.int .i64 q42.1, .string (bs q42.2.1), .int .i64 q42.2.2.1, .slice A74 s69.2.length c75] 24 (0, 0)), blk b97 (.cells #[.int .i64 q93.1, .string (bs q93.2.1), .int .i64 q93.2.2.1, .slice none 0 0] 24 (0, 0)), rowo A74 s69.2.length c75 24 4 cells77] w) ?_ ?_
                · skip
                  refine St.region ?_
                  by_cases q109 : q93.2.2.2 = true
                  · replace hm := iT hm q109
                    have hb110 : (q93.2.2.2) = true := q109
                    try rw [hb110]
                    refine St.val (v := (.bool true)) (Yields.move rfl) trivial rfl rfl ?_
                    refine St.val (v := (.bool false)) (Yields.not_t rfl) trivial rfl rfl ?_
                    refine St.val (v := (.bool false)) (Yields.move rfl) trivial rfl rfl ?_
                    refine St.unwanted rfl rfl rfl ?_
                    refine St.unwanted rfl rfl rfl ?_
                    refine St.unwanted rfl rfl rfl ?_
                    refine St.unwanted rfl rfl rfl ?_
                    refine St.unwanted rfl rfl rfl ?_
                    refine St.unwanted rfl rfl rfl ?_
                    refine St.val (v := (.bool false)) (Yields.pick_f rfl rfl) trivial rfl rfl ?_
                    refine St.nil ?_
                    obtain rfl := sI hm
                    intro a w ha hs
                    exact ⟨ha.covers ⟨rfl, rfl, rfl, rfl, rfl, rfl, rfl, rfl, trivial⟩, (Among.of (Among.take 1 rfl rfl (Among.take 1 rfl rfl (Among.take 0 rfl rfl (Among.take 0 rfl rfl Among.none)))) _ hs)⟩
                  · replace hm := iF hm q109
                    have hb111 : (q93.2.2.2) = false := eq_false_of_ne_true q109
                    try rw [hb111]
                    refine St.val (v := (.bool false)) (Yields.move rfl) trivial rfl rfl ?_
                    refine St.val (v := (.bool true)) (Yields.not_f rfl) trivial rfl rfl ?_
                    refine St.val (v := (.bool true)) (Yields.move rfl) trivial rfl rfl ?_
                    refine St.val (v := (.slice pA0 a0.length pc0)) (Yields.move rfl) rfl rfl rfl ?_
                    refine St.val (v := (.int .i64 s69.1)) (Yields.move rfl) rfl rfl rfl ?_
                    obtain ⟨x112, e113, hm⟩ := bS hm
                    obtain ⟨p114, cs115, jx116, R117, k118⟩ := (Fsl.mono (PH.le_trans l45 (PH.le_trans l80 l96)) ph0).idx e113
                    obtain rfl := DToken.opn R117
                    refine St.val (v := (.pointer (some p114))) (Yields.idx jx116 ts56 rfl rfl) rfl rfl rfl ?_
                    refine St.val (v := (.pointer (some p114))) (Yields.fieldAddr (v := (.pointer (some p114))) rfl (fun _ => by kernel_rfl)) rfl rfl rfl ?_
                    refine St.val (v := (.string (bs x112.s))) (Yields.load rfl (Loads.Fat k118 tc9 rfl)) rfl rfl rfl ?_
                    refine St.val (v := (.bool (decide (x112.s = ([40] : List UInt8))))) (Yields.eqStr rfl rfl) rfl rfl rfl ?_
                    refine St.val (v := (.bool (decide (x112.s = ([40] : List UInt8))))) (Yields.pick_t rfl rfl) trivial rfl rfl ?_
                    refine St.nil ?_
                    obtain rfl := sI hm
                    intro a w ha hs
                    exact ⟨ha.covers ⟨rfl, rfl, rfl, rfl, rfl, rfl, rfl, rfl, trivial⟩, (Among.of (Among.take 1 rfl rfl (Among.take 1 rfl rfl (Among.take 0 rfl rfl (Among.take 0 rfl rfl Among.none)))) _ hs)⟩
                · rintro a w ⟨ha, hs⟩
                  replace hm := hk108
                  refine St.use (?_ : St _ _ _ _ _ _) ha hs
                  clear ha hs a w
                  refine St.cond_b rfl ?_ ?_
                  · intro q119
                    replace q119 : z107.2 = true := q119
                    replace hm := iT hm q119
                    refine St.seq ?_
                    refine St.region ?_
                    refine St.val (v := (.slice pA0 a0.length pc0)) (Yields.move rfl) trivial rfl rfl ?_
                    refine St.val (v := (.int .i64 s69.1)) (Yields.move rfl) trivial rfl rfl ?_
                    obtain ⟨q120, e121, hm⟩ := bS hm
                    refine St.call [blk b2 (.cells #[.int .i64 0, .string (bs []), .int .i64 0, .slice none 0 0] 24 (0, 0)), blk b46 (.cells #[.int .i64 q42.1, .string (bs q42.2.1), .int .i64 q42.2.2.1, .slice A74 s69.2.length c75] 24 (0, 0)), blk b97 (.cells #[.int .i64 q93.1, .string (bs q93.2.1), .int .i64 q93.2.2.1, .slice none 0 0] 24 (0, 0)), rowo A74 s69.2.length c75 24 4 cells77] (ih_m_ref08_value (Fsl.mono (PH.le_trans l45 (PH.le_trans l80 l96)) ph0) e121) rfl (fun _ ha => ev2 ha rfl rfl) rfl en32 rfl rfl trivial ?_
                    rintro _ F122 _ ⟨A124, c125, rfl, h126, rfl⟩ l123
                    refine St.val (v := (.tuple #[.agg #[.int .i64 q120.1.Op, .string (bs q120.1.Name), .int .i64 q120.1.N, .slice A124 q120.1.Kids.length c125], .int .i64 q120.2.1, .bool q120.2.2])) (Yields.move rfl) trivial rfl rfl ?_
                    refine St.val (v := (.agg #[.int .i64 q120.1.Op, .string (bs q120.1.Name), .int .i64 q120.1.N, .slice A124 q120.1.Kids.length c125])) (Yields.extract rfl rfl) trivial rfl rfl ?_
                    refine St.val (v := (.int .i64 q120.2.1)) (Yields.extract rfl rfl) trivial rfl rfl ?_
                    refine St.val (v := (.bool q120.2.2)) (Yields.extract rfl rfl) trivial rfl rfl ?_
                    refine St.storen (R := [blk b2 (.cells #[.int .i64 0, .string (bs []), .int .i64 0, .slice none 0 0] 24 (0, 0)), blk b46 (.cells #[.int .i64 q42.1, .string (bs q42.2.1), .int .i64 q42.2.2.1, .slice A74 s69.2.length c75] 24 (0, 0)), rowo A74 s69.2.length c75 24 4 cells77]) rfl rfl 2 rfl rfl ta24 rfl rfl rfl trivial (cs' := #[.int .i64 q120.1.Op, .string (bs q120.1.Name), .int .i64 q120.1.N, .slice A124 q120.1.Kids.length c125]) rfl ?_
                    refine St.val (v := (.int .i64 q120.2.1)) (Yields.assign rfl) trivial rfl rfl ?_
                    refine St.val (v := (.bool q120.2.2)) (Yields.assign rfl) trivial rfl rfl ?_
                    refine St.nil ?_
                    refine St.norm ?_
                    refine St.seq ?_
                    refine St.region ?_
                    refine St.val (v := (.bool q120.2.2)) (Yields.move rfl) trivial rfl rfl ?_
                    refine St.val (v := (.bool (!q120.2.2))) (Yields.not rfl) trivial rfl rfl ?_
                    refine St.nil ?_
                    refine St.norm ?_
                    refine St.cond_b rfl ?_ ?_
                    · intro q128
                      replace q128 : ¬ (q120.2.2 = true) := nb_t q128
                      replace hm := iF hm q128
                      refine St.seq ?_
                      refine St.region ?_
                      refine St.val (v := (.agg #[.int .i64 q42.1, .string (bs q42.2.1), .int .i64 q42.2.2.1, .slice A74 s69.2.length c75])) (Yields.load rfl (Loads.Hk (vs := [.int .i64 q42.1, .string (bs q42.2.1), .int .i64 q42.2.2.1, .slice A74 s69.2.length c75]) 2 rfl ta24 rfl rfl)) trivial rfl rfl ?_
                      refine St.val (v := (.int .i64 q120.2.1)) (Yields.move rfl) trivial rfl rfl ?_
                      refine St.storen (R := [blk b97 (.cells #[.int .i64 q120.1.Op, .string (bs q120.1.Name), .int .i64 q120.1.N, .slice A124 q120.1.Kids.length c125] 24 (0, 0)), blk b46 (.cells #[.int .i64 q42.1, .string (bs q42.2.1), .int .i64 q42.2.2.1, .slice A74 s69.2.length c75] 24 (0, 0)), rowo A74 s69.2.length c75 24 4 cells77]) rfl rfl 1 rfl rfl ta24 rfl rfl rfl trivial (cs' := #[.int .i64 q42.1, .string (bs q42.2.1), .int .i64 q42.2.2.1, .slice A74 s69.2.length c75]) rfl ?_
                      refine St.val (v := (.int .i64 q120.2.1)) (Yields.assign rfl) trivial rfl rfl ?_
                      refine St.val (v := (.bool false)) (Yields.assign rfl) trivial rfl rfl ?_
                      refine St.nil ?_
                      refine St.norm ?_
                      refine St.ret ?_
                      refine St.thenret ?_
                      refine St.inret ?_
                      refine St.thenret ?_
                      refine St.inret ?_
                      refine St.thenret ?_
                      refine St.frz 3 rfl rfl rfl (Cat.mono (PH.le_trans l96 l123) h76) b78 ?_
                      intro F129 l130 h131
                      obtain rfl := sI hm
                      obtain rfl := aR ho106
                      obtain rfl := aR ho72
                      obtain rfl := aR ho59
                      exact St.doneR3 rfl (ResOk.cell rfl (Loads.Hk (vs := [.int .i64 q42.1, .string (bs q42.2.1), .int .i64 q42.2.2.1, .slice A74 s69.2.length c75]) 0 rfl ta24 rfl rfl)) rfl rfl ⟨A74, c75, rfl, h131, rfl⟩ (fun w hs => Among.of Among.none w hs)
                    · intro q132
                      replace q132 : q120.2.2 = true := nb_f q132
                      replace hm := iT hm q132
                      refine St.skip ?_
                      obtain rfl := sI hm
                      intro a w ha hs
                      exact ⟨(q120.1.Op, q120.1.Name, q120.1.N, q120.1.Kids, q120.2.2, q120.2.1), rfl, A124, c125, F122, l123, h126, ha.covers ⟨rfl, rfl, rfl, rfl, rfl, rfl, rfl, trivial⟩, (Among.of (Among.take 1 rfl rfl (Among.take 1 rfl rfl (Among.take 0 rfl rfl (Among.take 0 rfl rfl Among.none)))) _ hs)⟩
                  · intro q133
                    replace q133 : ¬ (z107.2 = true) := bf q133
                    replace hm := iF hm q133
                    refine St.skip ?_
                    obtain rfl := sI hm
                    intro a w ha hs
                    exact ⟨(q93.1, q93.2.1, q93.2.2.1, ([] : List DValue), z107.1, Mir.w64 (s69.1 + 1)), rfl, none, 0, F95, (PH.le_refl _), Fsl.nil, ha.covers ⟨rfl, rfl, rfl, rfl, rfl, rfl, rfl, trivial⟩, (Among.of (Among.take 0 rfl rfl (Among.take 0 rfl rfl (Among.take 0 rfl rfl (Among.take 0 rfl rfl Among.none)))) _ hs)⟩
              · rintro a w ⟨z98, rfl, A102, c103, F99, l100, h104, ha, hs⟩
                replace hm := aL ho106
                refine St.use (?_ : St _ _ _ _ _ _) ha hs
                clear ha hs a w
                refine St.seq ?_
                refine St.seq ?_
                refine St.region ?_
                refine St.val (v := (.bool z98.2.2.2.2.1)) (Yields.move rfl) trivial rfl rfl ?_
                refine St.val (v := (.bool (!z98.2.2.2.2.1))) (Yields.not rfl) trivial rfl rfl ?_
                refine St.nil ?_
                refine St.norm ?_
                refine St.cond_b rfl ?_ ?_
                · intro q134
                  replace q134 : ¬ (z98.2.2.2.2.1 = true) := nb_t q134
                  replace hm := iF hm q134
                  refine St.exit ?_
                  refine St.thenexit ?_
                  refine St.inpass rfl ?_
                  refine St.thenexit ?_
                  refine St.inexit ?_
                  obtain rfl := sI hm
                  obtain rfl := aR ho72
                  intro a w ha hs
                  exact ⟨(s69.1, s69.2), rfl, A74, c75, cells77, F99, (PH.le_trans l80 (PH.le_trans l96 l100)), (Cat.mono (PH.le_trans l96 l100) h76), b78, ha.covers ⟨rfl, rfl, rfl, trivial⟩, (Among.of (Among.take 0 rfl rfl (Among.take 0 rfl rfl (Among.take 1 rfl rfl Among.none))) _ hs)⟩
                · intro q135
                  replace q135 : z98.2.2.2.2.1 = true := nb_f q135
                  replace hm := iT hm q135
                  refine St.skip ?_
                  refine St.norm ?_
                  refine St.seq ?_
                  refine St.region ?_
                  refine St.val (v := (.pointer (some ⟨b46, 3, none⟩))) (Yields.fieldAddr (v := (.pointer (some ⟨b46, 3, none⟩))) rfl (fun _ => by kernel_rfl)) trivial rfl rfl ?_
                  refine St.val (v := (.slice A74 s69.2.length c75)) (Yields.load rfl (Loads.H1 1 rfl tc22 rfl)) trivial rfl rfl ?_
                  refine St.val (v := (.agg #[.int .i64 z98.1, .string (bs z98.2.1), .int .i64 z98.2.2.1, .slice A102 z98.2.2.2.1.length c103])) (Yields.load rfl (Loads.Hk (vs := [.int .i64 z98.1, .string (bs z98.2.1), .int .i64 z98.2.2.1, .slice A102 z98.2.2.2.1.length c103]) 2 rfl ta24 rfl rfl)) trivial rfl rfl ?_
                  refine St.buildSlice (e := 24) (cells := #[.int .i64 z98.1, .string (bs z98.2.1), .int .i64 z98.2.2.1, .slice A102 z98.2.2.2.1.length c103]) (vs := #[(0, .agg #[.int .i64 z98.1, .string (bs z98.2.1), .int .i64 z98.2.2.1, .slice A102 z98.2.2.2.1.length c103])]) (fun _ ha => evp1 ha rfl) (fun _ => by kernel_rfl) rfl trivial ?_
                  intro b136
                  obtain ⟨x141, e142, hm⟩ := bS hm
                  refine St.pushL (R := [blk b136 (.cells #[.int .i64 z98.1, .string (bs z98.2.1), .int .i64 z98.2.2.1, .slice A102 z98.2.2.2.1.length c103] 24 (0, 0)), blk b2 (.cells #[.int .i64 0, .string (bs []), .int .i64 0, .slice none 0 0] 24 (0, 0)), blk b46 (.cells #[.int .i64 q42.1, .string (bs q42.2.1), .int .i64 q42.2.2.1, .slice A74 s69.2.length c75] 24 (0, 0)), blk b97 (.cells #[.int .i64 z98.1, .string (bs z98.2.1), .int .i64 z98.2.2.1, .slice A102 z98.2.2.2.1.length c103] 24 (0, 0))]) (R3 := [blk b2 (.cells #[.int .i64 0, .string (bs []), .int .i64 0, .slice none 0 0] 24 (0, 0)), blk b46 (.cells #[.int .i64 q42.1, .string (bs q42.2.1), .int .i64 q42.2.2.1, .slice A74 s69.2.length c75] 24 (0, 0)), blk b97 (.cells #[.int .i64 z98.1, .string (bs z98.2.1), .int .i64 z98.2.2.1, .slice A102 z98.2.2.2.1.length c103] 24 (0, 0))]) e142 ts22 rfl rfl rfl rfl rfl 4 rfl rfl 0 rfl 0 rfl rfl (Cat.mono (PH.le_trans l96 l100) h76) ⟨[.int .i64 z98.1, .string (bs z98.2.1), .int .i64 z98.2.2.1, .slice A102 z98.2.2.2.1.length c103], _, rfl, (DValue.shut h104), rfl⟩ rfl trivial ?_
                  intro A137 c138 cells139 h140
                  refine St.val (v := (.pointer (some ⟨b46, 3, none⟩))) (Yields.fieldAddr (v := (.pointer (some ⟨b46, 3, none⟩))) rfl (fun _ => by kernel_rfl)) trivial rfl rfl ?_
                  refine St.store (R := [rowo A137 x141.length c138 24 4 cells139, blk b2 (.cells #[.int .i64 0, .string (bs []), .int .i64 0, .slice none 0 0] 24 (0, 0)), blk b97 (.cells #[.int .i64 z98.1, .string (bs z98.2.1), .int .i64 z98.2.2.1, .slice A102 z98.2.2.2.1.length c103] 24 (0, 0))]) rfl rfl 2 rfl rfl tc22 rfl rfl trivial (cs' := #[.int .i64 q42.1, .string (bs q42.2.1), .int .i64 q42.2.2.1, .slice A137 x141.length c138]) rfl ?_
                  refine St.nil ?_
                  refine St.norm ?_
                  refine St.region ?_
                  refine St.val (v := (.int .i64 z98.2.2.2.2.2)) (Yields.move rfl) trivial rfl rfl ?_
                  refine St.val (v := (.int .i64 z98.2.2.2.2.2)) (Yields.assign rfl) trivial rfl rfl ?_
                  refine St.nil ?_
                  refine St.innorm ?_
                  refine St.norm ?_
                  obtain rfl := sI hm
                  intro a w ha hs
                  exact ⟨(z98.2.2.2.2.2, x141), aL ho72, A137, c138, cells139, F99, (PH.le_trans l80 (PH.le_trans l96 l100)), h140, (Bnd.of_push e142), ha.covers ⟨rfl, rfl, rfl, rfl, trivial⟩, (Among.of (Among.take 2 rfl rfl (Among.take 0 rfl rfl (Among.take 0 rfl rfl Among.none))) _ hs)⟩
            · intro q144
              replace q144 : ¬ (z82 = true) := bf q144
              replace hm := iF hm q144
              refine St.exit ?_
              refine St.thenexit ?_
              refine St.thenexit ?_
              refine St.inexit ?_
              obtain rfl := sI hm
              obtain rfl := aR ho72
              intro a w ha hs
              exact ⟨(s69.1, s69.2), rfl, A74, c75, cells77, F79, l80, h76, b78, ha.covers ⟨rfl, rfl, rfl, trivial⟩, (Among.of (Among.take 0 rfl rfl (Among.take 0 rfl rfl (Among.take 0 rfl rfl Among.none))) _ hs)⟩
      · rintro a w ⟨z49, rfl, A53, c54, cells56, F50, l51, h55, b57, ha, hs⟩
        replace hm := aL ho59
        refine St.use (?_ : St _ _ _ _ _ _) ha hs
        clear ha hs a w
        refine St.seq ?_
        refine St.region ?_
        refine St.val (v := (.agg #[.int .i64 q42.1, .string (bs q42.2.1), .int .i64 q42.2.2.1, .slice A53 z49.2.length c54])) (Yields.load rfl (Loads.Hk (vs := [.int .i64 q42.1, .string (bs q42.2.1), .int .i64 q42.2.2.1, .slice A53 z49.2.length c54]) 1 rfl ta24 rfl rfl)) trivial rfl rfl ?_
        refine St.val (v := (.int .i64 z49.1)) (Yields.move rfl) trivial rfl rfl ?_
        refine St.storen (R := [blk b46 (.cells #[.int .i64 q42.1, .string (bs q42.2.1), .int .i64 q42.2.2.1, .slice A53 z49.2.length c54] 24 (0, 0)), rowo A53 z49.2.length c54 24 4 cells56]) rfl rfl 0 rfl rfl ta24 rfl rfl rfl trivial (cs' := #[.int .i64 q42.1, .string (bs q42.2.1), .int .i64 q42.2.2.1, .slice A53 z49.2.length c54]) rfl ?_
        refine St.val (v := (.int .i64 z49.1)) (Yields.assign rfl) trivial rfl rfl ?_
        refine St.val (v := (.bool true)) (Yields.assign rfl) trivial rfl rfl ?_
        refine St.nil ?_
        refine St.norm ?_
        refine St.ret ?_
        refine St.frz 2 rfl rfl rfl h55 b57 ?_
        intro F145 l146 h147
        obtain rfl := sI hm
        exact St.doneR3 rfl (ResOk.cell rfl (Loads.Hk (vs := [.int .i64 q42.1, .string (bs q42.2.1), .int .i64 q42.2.2.1, .slice A53 z49.2.length c54]) 0 rfl ta24 rfl rfl)) rfl rfl ⟨A53, c54, rfl, h147, rfl⟩ (fun w hs => Among.of Among.none w hs)
theorem m_ref08_value_all : ∀ g, m_ref08_value_S g
  | 0 => (by (try unfold m_ref08_value_S); intros; rename_i hm; exact nomatch (show (none : Option _) = some _ from hm))
  | g + 1 => m_ref08_value_st (m_ref08_value_all g)
theorem m_ref08_value_sp {F : PH} {g : Nat} {a0 : List DToken} {a1 : Int} {pA0 : Option Addr} {pc0 : Nat} (ph0 : Fsl 24 KDToken F pA0 pc0 a0) {r : DValue × Int × Bool} (hm : m_ref08_value g a0 a1 = some r) :
    CallSp Try.prog 32 #[.slice pA0 a0.length pc0, .int .i64 a1] F [] (fun u F' H' => ∃ (B0_0 : Option Addr) (d0_0 : Nat), u = (.tuple #[.agg #[.int .i64 r.1.Op, .string (bs r.1.Name), .int .i64 r.1.N, .slice B0_0 r.1.Kids.length d0_0], .int .i64 r.2.1, .bool r.2.2]) ∧ Fsl 56 KDValue F' B0_0 d0_0 r.1.Kids ∧ H' = []) := (m_ref08_value_all g) ph0 hm

abbrev m_ref08_measure_S (g : Nat) : Prop := ∀ {F : PH} {a0 : DValue} {a1 : Int} {a2 : Int} {pA0_0 : Option Addr} {pc0_0 : Nat} (ph0_0 : Fsl 56 KDValue F pA0_0 pc0_0 a0.Kids) {r : Int × Int} (_ : m_ref08_measure g a0 a1 a2 = some r),
    CallSp Try.prog 81 #[.agg #[.int .i64 a0.Op, .string (bs a0.Name), .int .i64 a0.N, .slice pA0_0 a0.Kids.length pc0_0], .int .i64 a1, .int .i64 a2] F [] (fun u F' H' => u = (.tuple #[.int .i64 r.1, .int .i64 r.2]) ∧ H' = [])
theorem m_ref08_measure_st {g : Nat} (ih_m_ref08_measure : m_ref08_measure_S g) : m_ref08_measure_S (g + 1) := by
  intro F a0 a1 a2 pA0_0 pc0_0 ph0_0 r hm
  rw [m_ref08_measure] at hm
  refine CallSp.enter (args := [.agg #[.int .i64 a0.Op, .string (bs a0.Name), .int .i64 a0.N, .slice pA0_0 a0.Kids.length pc0_0], .int .i64 a1, .int .i64 a2]) Try.func81 rfl rfl ?_
  intro w0 m0 hm0
  refine St.seq ?_
  refine St.region ?_
  refine St.box rfl trivial rfl ?_
  intro b2
  refine St.val (v := (.int .i64 0)) (Yields.assign rfl) trivial rfl rfl ?_
  refine St.val (v := (.int .i64 0)) (Yields.assign rfl) trivial rfl rfl ?_
  refine St.nil ?_
  refine St.norm ?_
  refine St.seq ?_
  refine St.region ?_
  refine St.val (v := (.int .i64 a2)) (Yields.move rfl) trivial rfl rfl ?_
  refine St.val (v := (.int .i64 (Mir.w64 (a2 + 1)))) (Yields.addw rfl rfl) trivial rfl rfl ?_
  refine St.val (v := (.int .i64 (Mir.w64 (a2 + 1)))) (Yields.assign rfl) trivial rfl rfl ?_
  refine St.nil ?_
  refine St.norm ?_
  refine St.seq ?_
  refine St.region ?_
  refine St.val (v := (.int .i64 a1)) (Yields.move rfl) trivial rfl rfl ?_
  refine St.val (v := (.int .i64 a1)) (Yields.assign rfl) trivial rfl rfl ?_
  refine St.nil ?_
  refine St.norm ?_
  refine St.seq ?_
  obtain ⟨z3, hm, hk4⟩ := bS hm
  refine St.cutI (fun a w => Has Try.f81.ntmps a [(1, .int .i64 a1), (2, .int .i64 (Mir.w64 (a2 + 1))), (3, .pointer (some ⟨b2, 0, none⟩)), (8, .int .i64 a1), (20, .bool z3)] ∧ Sat ⟨w0, fun b => m0 b ≠ none, F⟩ F [blk b2 (.cells #[.int .i64 a0.Op, .string (bs a0.Name), .int .i64 a0.N, .slice pA0_0 a0.Kids.length pc0_0] 24 (0, 0))] w) ?_ ?_
  · skip
    refine St.region ?_
    refine St.val (v := (.int .i64 a1)) (Yields.move rfl) trivial rfl rfl ?_
    by_cases q5 : a1 > 40
    · replace hm := iT hm q5
      refine St.val (v := (.bool true)) (Yields.is q5 (Yields.gt rfl rfl)) trivial rfl rfl ?_
      refine St.val (v := (.bool true)) (Yields.move rfl) trivial rfl rfl ?_
      refine St.unwanted rfl rfl rfl ?_
      refine St.unwanted rfl rfl rfl ?_
      refine St.val (v := (.bool true)) (Yields.pick_t rfl rfl) trivial rfl rfl ?_
      refine St.nil ?_
      obtain rfl := sI hm
      intro a w ha hs
      exact ⟨ha.covers ⟨rfl, rfl, rfl, rfl, rfl, trivial⟩, (Among.of (Among.take 0 rfl rfl Among.none) _ hs)⟩
    · replace hm := iF hm q5
      refine St.val (v := (.bool false)) (Yields.isnt q5 (Yields.gt rfl rfl)) trivial rfl rfl ?_
      refine St.val (v := (.bool false)) (Yields.move rfl) trivial rfl rfl ?_
      refine St.val (v := (.int .i64 (Mir.w64 (a2 + 1)))) (Yields.move rfl) rfl rfl rfl ?_
      refine St.val (v := (.bool (decide (Mir.w64 (a2 + 1) > 300)))) (Yields.gt rfl rfl) rfl rfl rfl ?_
      refine St.val (v := (.bool (decide (Mir.w64 (a2 + 1) > 300)))) (Yields.pick_f rfl rfl) trivial rfl rfl ?_
      refine St.nil ?_
      obtain rfl := sI hm
      intro a w ha hs
      exact ⟨ha.covers ⟨rfl, rfl, rfl, rfl, rfl, trivial⟩, (Among.of (Among.take 0 rfl rfl Among.none) _ hs)⟩
  · rintro a w ⟨ha, hs⟩
    replace hm := hk4
    refine St.use (?_ : St _ _ _ _ _ _) ha hs
    clear ha hs a w
    refine St.cond_b rfl ?_ ?_
    · intro q6
      replace q6 : z3 = true := q6
      replace hm := iT hm q6
      refine St.seq ?_
      refine St.region ?_
      refine St.val (v := (.int .i64 a1)) (Yields.move rfl) trivial rfl rfl ?_
      refine St.val (v := (.int .i64 (Mir.w64 (a2 + 1)))) (Yields.move rfl) trivial rfl rfl ?_
      refine St.val (v := (.int .i64 a1)) (Yields.assign rfl) trivial rfl rfl ?_
      refine St.val (v := (.int .i64 (Mir.w64 (a2 + 1)))) (Yields.assign rfl) trivial rfl rfl ?_
      refine St.nil ?_
      refine St.norm ?_
      refine St.ret ?_
      refine St.thenret ?_
      obtain rfl := sI hm
      exact St.doneR2 rfl rfl rfl ⟨rfl, rfl⟩ (fun w hs => Among.of Among.none w hs)
    · intro q7
      replace q7 : ¬ (z3 = true) := bf q7
      replace hm := iF hm q7
      refine St.skip ?_
      refine St.norm ?_
      obtain ⟨z8, hm, hk11⟩ := bS hm
      refine St.cutI (fun a w => ∃ (F9 : PH), PH.le F F9 ∧ Has Try.f81.ntmps a [(2, .int .i64 z8.1), (8, .int .i64 z8.2)] ∧ Sat ⟨w0, fun b => m0 b ≠ none, F⟩ F9 [] w) ?_ ?_
      · skip
        refine St.seq ?_
        refine St.region ?_
        refine St.val (v := (.int .i64 0)) (Yields.assign rfl) trivial rfl rfl ?_
        refine St.nil ?_
        refine St.norm ?_
        refine St.block ?_
        refine St.loopM hm (fun s20 a w => ∃ (F24 : PH), PH.le F F24 ∧ Has Try.f81.ntmps a [(1, .int .i64 a1), (2, .int .i64 s20.1), (3, .pointer (some ⟨b2, 0, none⟩)), (8, .int .i64 s20.2.1), (9, .int .i64 s20.2.2)] ∧ Sat ⟨w0, fun b => m0 b ≠ none, F⟩ F24 [blk b2 (.cells #[.int .i64 a0.Op, .string (bs a0.Name), .int .i64 a0.N, .slice pA0_0 a0.Kids.length pc0_0] 24 (0, 0))] w) ?_ ?_
        · skip
          intro a w ha hs
          exact ⟨F, (PH.le_refl _), ha.covers ⟨rfl, rfl, rfl, rfl, rfl, trivial⟩, (Among.of (Among.take 0 rfl rfl Among.none) _ hs)⟩
        · rintro s20 o21 co22 hm ho23 a w ⟨F24, l25, ha, hs⟩
          refine St.use (?_ : St _ _ _ _ _ _) ha hs
          clear ha hs a w
          refine St.seq ?_
          obtain ⟨z26, hm, hk27⟩ := bS hm
          refine St.cutI (fun a w => Has Try.f81.ntmps a [(1, .int .i64 a1), (2, .int .i64 s20.1), (3, .pointer (some ⟨b2, 0, none⟩)), (8, .int .i64 s20.2.1), (9, .int .i64 s20.2.2), (31, .bool z26)] ∧ Sat ⟨w0, fun b => m0 b ≠ none, F⟩ F24 [blk b2 (.cells #[.int .i64 a0.Op, .string (bs a0.Name), .int .i64 a0.N, .slice pA0_0 a0.Kids.length pc0_0] 24 (0, 0))] w) ?_ ?_
          · skip
            refine St.region ?_
            refine St.val (v := (.int .i64 s20.2.2)) (Yields.move rfl) trivial rfl rfl ?_
            refine St.val (v := (.pointer (some ⟨b2, 3, none⟩))) (Yields.fieldAddr (v := (.pointer (some ⟨b2, 3, none⟩))) rfl (fun _ => by kernel_rfl)) trivial rfl rfl ?_
            refine St.val (v := (.slice pA0_0 a0.Kids.length pc0_0)) (Yields.load rfl (Loads.H1 0 rfl tc22 rfl)) trivial rfl rfl ?_
            refine St.val (v := (.int .i64 ((a0.Kids.length : Nat) : Int))) (Yields.lenSlice tu22 rfl) trivial rfl rfl ?_
            by_cases q28 : s20.2.2 < ((a0.Kids.length : Nat) : Int)
            · replace hm := iT hm q28
              refine St.val (v := (.bool true)) (Yields.is q28 (Yields.lt rfl rfl)) trivial rfl rfl ?_
              refine St.val (v := (.bool true)) (Yields.move rfl) trivial rfl rfl ?_
              refine St.val (v := (.int .i64 s20.1)) (Yields.move rfl) rfl rfl rfl ?_
              refine St.val (v := (.bool (decide (s20.1 ≤ 300)))) (Yields.le rfl rfl) rfl rfl rfl ?_
              refine St.val (v := (.bool (decide (s20.1 ≤ 300)))) (Yields.pick_t rfl rfl) trivial rfl rfl ?_
              refine St.nil ?_
              obtain rfl := sI hm
              intro a w ha hs
              exact ⟨ha.covers ⟨rfl, rfl, rfl, rfl, rfl, rfl, trivial⟩, (Among.of (Among.take 0 rfl rfl Among.none) _ hs)⟩
            · replace hm := iF hm q28
              refine St.val (v := (.bool false)) (Yields.isnt q28 (Yields.lt rfl rfl)) trivial rfl rfl ?_
              refine St.val (v := (.bool false)) (Yields.move rfl) trivial rfl rfl ?_
              refine St.unwanted rfl rfl rfl ?_
              refine St.unwanted rfl rfl rfl ?_
              refine St.val (v := (.bool false)) (Yields.pick_f rfl rfl) trivial rfl rfl ?_
              refine St.nil ?_
              obtain rfl := sI hm
              intro a w ha hs
              exact ⟨ha.covers ⟨rfl, rfl, rfl, rfl, rfl, rfl, trivial⟩, (Among.of (Among.take 0 rfl rfl Among.none) _ hs)⟩
          · rintro a w ⟨ha, hs⟩
            replace hm := hk27
            refine St.use (?_ : St _ _ _ _ _ _) ha hs
            clear ha hs a w
            refine St.cond_b rfl ?_ ?_
            · intro q29
              replace q29 : z26 = true := q29
              replace hm := iT hm q29
              refine St.skip ?_
              refine St.norm ?_
              refine St.seq ?_
              refine St.block ?_
              refine St.seq ?_
              refine St.region ?_
              refine St.val (v := (.pointer (some ⟨b2, 3, none⟩))) (Yields.fieldAddr (v := (.pointer (some ⟨b2, 3, none⟩))) rfl (fun _ => by kernel_rfl)) trivial rfl rfl ?_
              refine St.val (v := (.slice pA0_0 a0.Kids.length pc0_0)) (Yields.load rfl (Loads.H1 0 rfl tc22 rfl)) trivial rfl rfl ?_
              refine St.val (v := (.int .i64 s20.2.2)) (Yields.move rfl) trivial rfl rfl ?_
              obtain ⟨x30, e31, hm⟩ := bS hm
              obtain ⟨p32, cs33, jx34, R35, k36⟩ := (Fsl.mono l25 ph0_0).idx e31
              obtain ⟨A37, c38, rfl, h39⟩ := DValue.opn R35
              refine St.val (v := (.pointer (some p32))) (Yields.idx jx34 ts22 rfl rfl) trivial rfl rfl ?_
              refine St.val (v := (.agg #[.int .i64 x30.Op, .string (bs x30.Name), .int .i64 x30.N, .slice A37 x30.Kids.length c38])) (Yields.load rfl (Loads.Fatn0 k36 ta24)) trivial rfl rfl ?_
              refine St.val (v := (.int .i64 a1)) (Yields.move rfl) trivial rfl rfl ?_
              refine St.val (v := (.int .i64 (Mir.w64 (a1 + 1)))) (Yields.addw rfl rfl) trivial rfl rfl ?_
              refine St.val (v := (.int .i64 s20.1)) (Yields.move rfl) trivial rfl rfl ?_
              obtain ⟨q41, e42, hm⟩ := bS hm
              refine St.call [blk b2 (.cells #[.int .i64 a0.Op, .string (bs a0.Name), .int .i64 a0.N, .slice pA0_0 a0.Kids.length pc0_0] 24 (0, 0))] (ih_m_ref08_measure (a0 := x30) h39 e42) rfl (fun _ ha => ev3 ha rfl rfl rfl) rfl en81 rfl rfl trivial ?_
              rintro _ F43 _ ⟨rfl, rfl⟩ l44
              refine St.val (v := (.tuple #[.int .i64 q41.1, .int .i64 q41.2])) (Yields.move rfl) trivial rfl rfl ?_
              refine St.val (v := (.int .i64 q41.1)) (Yields.extract rfl rfl) trivial rfl rfl ?_
              refine St.val (v := (.int .i64 q41.2)) (Yields.extract rfl rfl) trivial rfl rfl ?_
              refine St.val (v := (.int .i64 q41.1)) (Yields.assign rfl) trivial rfl rfl ?_
              refine St.val (v := (.int .i64 q41.2)) (Yields.assign rfl) trivial rfl rfl ?_
              refine St.nil ?_
              refine St.norm ?_
              refine St.region ?_
              refine St.val (v := (.int .i64 s20.2.1)) (Yields.move rfl) trivial rfl rfl ?_
              refine St.val (v := (.int .i64 q41.1)) (Yields.move rfl) trivial rfl rfl ?_
              refine St.val (v := (.int .i64 (if q41.1 > s20.2.1 then q41.1 else s20.2.1))) (Yields.max2 rfl rfl) trivial rfl rfl ?_
              refine St.val (v := (.int .i64 q41.2)) (Yields.move rfl) trivial rfl rfl ?_
              refine St.val (v := (.int .i64 (if q41.1 > s20.2.1 then q41.1 else s20.2.1))) (Yields.assign rfl) trivial rfl rfl ?_
              refine St.val (v := (.int .i64 q41.2)) (Yields.assign rfl) trivial rfl rfl ?_
              refine St.nil ?_
              refine St.innorm ?_
              refine St.norm ?_
              refine St.region ?_
              refine St.val (v := (.int .i64 s20.2.2)) (Yields.move rfl) trivial rfl rfl ?_
              refine St.val (v := (.int .i64 (Mir.w64 (s20.2.2 + 1)))) (Yields.addw rfl rfl) trivial rfl rfl ?_
              refine St.val (v := (.int .i64 (Mir.w64 (s20.2.2 + 1)))) (Yields.assign rfl) trivial rfl rfl ?_
              refine St.nil ?_
              refine St.norm ?_
              obtain rfl := sI hm
              intro a w ha hs
              exact ⟨(q41.2, if q41.1 > s20.2.1 then q41.1 else s20.2.1, Mir.w64 (s20.2.2 + 1)), aL ho23, F43, (PH.le_trans l25 l44), ha.covers ⟨rfl, rfl, rfl, rfl, rfl, trivial⟩, (Among.of (Among.take 0 rfl rfl Among.none) _ hs)⟩
            · intro q45
              replace q45 : ¬ (z26 = true) := bf q45
              replace hm := iF hm q45
              refine St.exit ?_
              refine St.thenexit ?_
              refine St.thenexit ?_
              refine St.inexit ?_
              obtain rfl := sI hm
              obtain rfl := aR ho23
              intro a w ha hs
              exact ⟨F24, l25, ha.covers ⟨rfl, rfl, trivial⟩, (Among.of Among.none _ hs)⟩
      · rintro a w ⟨F9, l10, ha, hs⟩
        replace hm := hk11
        refine St.use (?_ : St _ _ _ _ _ _) ha hs
        clear ha hs a w
        refine St.seq ?_
        refine St.region ?_
        refine St.val (v := (.int .i64 z8.2)) (Yields.move rfl) trivial rfl rfl ?_
        refine St.val (v := (.int .i64 z8.1)) (Yields.move rfl) trivial rfl rfl ?_
        refine St.val (v := (.int .i64 z8.2)) (Yields.assign rfl) trivial rfl rfl ?_
        refine St.val (v := (.int .i64 z8.1)) (Yields.assign rfl) trivial rfl rfl ?_
        refine St.nil ?_
        refine St.norm ?_
        refine St.ret ?_
        obtain rfl := sI hm
        exact St.doneR2 rfl rfl rfl ⟨rfl, rfl⟩ (fun w hs => Among.of Among.none w hs)
theorem m_ref08_measure_all : ∀ g, m_ref08_measure_S g
  | 0 => (by (try unfold m_ref08_measure_S); intros; rename_i hm; exact nomatch (show (none : Option _) = some _ from hm))
  | g + 1 => m_ref08_measure_st (m_ref08_measure_all g)
theorem m_ref08_measure_sp {F : PH} {g : Nat} {a0 : DValue} {a1 : Int} {a2 : Int} {pA0_0 : Option Addr} {pc0_0 : Nat} (ph0_0 : Fsl 56 KDValue F pA0_0 pc0_0 a0.Kids) {r : Int × Int} (hm : m_ref08_measure g a0 a1 a2 = some r) :
    CallSp Try.prog 81 #[.agg #[.int .i64 a0.Op, .string (bs a0.Name), .int .i64 a0.N, .slice pA0_0 a0.Kids.length pc0_0], .int .i64 a1, .int .i64 a2] F [] (fun u F' H' => u = (.tuple #[.int .i64 r.1, .int .i64 r.2]) ∧ H' = []) := (m_ref08_measure_all g) ph0_0 hm

theorem m_ref08_isLarge_sp {F : PH} {g : Nat} {a0 : DValue} {pA0_0 : Option Addr} {pc0_0 : Nat} (ph0_0 : Fsl 56 KDValue F pA0_0 pc0_0 a0.Kids) {r : Bool} (hm : m_ref08_isLarge g a0 = some r) :
    CallSp Try.prog 45 #[.agg #[.int .i64 a0.Op, .string (bs a0.Name), .int .i64 a0.N, .slice pA0_0 a0.Kids.length pc0_0]] F [] (fun u F' H' => u = (.bool r) ∧ H' = []) := by
  unfold m_ref08_isLarge at hm
  refine CallSp.enter (args := [.agg #[.int .i64 a0.Op, .string (bs a0.Name), .int .i64 a0.N, .slice pA0_0 a0.Kids.length pc0_0]]) Try.func45 rfl rfl ?_
  intro w0 m0 hm0
  refine St.seq ?_
  refine St.region ?_
  refine St.box rfl trivial rfl ?_
  intro b2
  refine St.val (v := (.bool false)) (Yields.assign rfl) trivial rfl rfl ?_
  refine St.nil ?_
  refine St.norm ?_
  refine St.seq ?_
  refine St.region ?_
  refine St.val (v := (.agg #[.int .i64 a0.Op, .string (bs a0.Name), .int .i64 a0.N, .slice pA0_0 a0.Kids.length pc0_0])) (Yields.load rfl (Loads.Hk (vs := [.int .i64 a0.Op, .string (bs a0.Name), .int .i64 a0.N, .slice pA0_0 a0.Kids.length pc0_0]) 0 rfl ta24 rfl rfl)) trivial rfl rfl ?_
  obtain ⟨q3, e4, hm⟩ := bS hm
  refine St.call [blk b2 (.cells #[.int .i64 a0.Op, .string (bs a0.Name), .int .i64 a0.N, .slice pA0_0 a0.Kids.length pc0_0] 24 (0, 0))] (m_ref08_measure_sp (a0 := a0) ph0_0 e4) rfl (fun _ ha => ev3 ha rfl rfl rfl) rfl en81 rfl rfl trivial ?_
  rintro _ F5 _ ⟨rfl, rfl⟩ l6
  refine St.val (v := (.tuple #[.int .i64 q3.1, .int .i64 q3.2])) (Yields.move rfl) trivial rfl rfl ?_
  refine St.val (v := (.int .i64 q3.1)) (Yields.extract rfl rfl) trivial rfl rfl ?_
  refine St.val (v := (.int .i64 q3.2)) (Yields.extract rfl rfl) trivial rfl rfl ?_
  refine St.val (v := (.int .i64 q3.1)) (Yields.assign rfl) trivial rfl rfl ?_
  refine St.val (v := (.int .i64 q3.2)) (Yields.assign rfl) trivial rfl rfl ?_
  refine St.nil ?_
  refine St.norm ?_
  obtain ⟨z7, hm, hk8⟩ := bS hm
  refine St.cutI (fun a w => Has Try.f45.ntmps a [(2, .bool z7)] ∧ Sat ⟨w0, fun b => m0 b ≠ none, F⟩ F5 [] w) ?_ ?_
  · skip
    refine St.region ?_
    refine St.val (v := (.int .i64 q3.1)) (Yields.move rfl) trivial rfl rfl ?_
    by_cases q9 : q3.1 > 40
    · replace hm := iT hm q9
      refine St.val (v := (.bool true)) (Yields.is q9 (Yields.gt rfl rfl)) trivial rfl rfl ?_
      refine St.val (v := (.bool true)) (Yields.move rfl) trivial rfl rfl ?_
      refine St.unwanted rfl rfl rfl ?_
      refine St.unwanted rfl rfl rfl ?_
      refine St.val (v := (.bool true)) (Yields.pick_t rfl rfl) trivial rfl rfl ?_
      refine St.val (v := (.bool true)) (Yields.assign rfl) trivial rfl rfl ?_
      refine St.nil ?_
      obtain rfl := sI hm
      intro a w ha hs
      exact ⟨ha.covers ⟨rfl, trivial⟩, (Among.of Among.none _ hs)⟩
    · replace hm := iF hm q9
      refine St.val (v := (.bool false)) (Yields.isnt q9 (Yields.gt rfl rfl)) trivial rfl rfl ?_
      refine St.val (v := (.bool false)) (Yields.move rfl) trivial rfl rfl ?_
      refine St.val (v := (.int .i64 q3.2)) (Yields.move rfl) rfl rfl rfl ?_
      refine St.val (v := (.bool (decide (q3.2 > 300)))) (Yields.gt rfl rfl) rfl rfl rfl ?_
      refine St.val (v := (.bool (decide (q3.2 > 300)))) (Yields.pick_f rfl rfl) trivial rfl rfl ?_
      refine St.val (v := (.bool (decide (q3.2 > 300)))) (Yields.assign rfl) trivial rfl rfl ?_
      refine St.nil ?_
      obtain rfl := sI hm
      intro a w ha hs
      exact ⟨ha.covers ⟨rfl, trivial⟩, (Among.of Among.none _ hs)⟩
  · rintro a w ⟨ha, hs⟩
    replace hm := hk8
    refine St.use (?_ : St _ _ _ _ _ _) ha hs
    clear ha hs a w
    refine St.ret ?_
    obtain rfl := sI hm
    exact St.doneR1 rfl rfl ⟨rfl, rfl⟩ (fun w hs => Among.of Among.none w hs)

theorem m_ref08_isNode_sp {F : PH} {g : Nat} {a0 : DValue} {pA0_0 : Option Addr} {pc0_0 : Nat} (ph0_0 : Fsl 56 KDValue F pA0_0 pc0_0 a0.Kids) {r : Bool} (hm : m_ref08_isNode g a0 = some r) :
    CallSp Try.prog 82 #[.agg #[.int .i64 a0.Op, .string (bs a0.Name), .int .i64 a0.N, .slice pA0_0 a0.Kids.length pc0_0]] F [] (fun u F' H' => u = (.bool r) ∧ H' = []) := by
  unfold m_ref08_isNode at hm
  refine CallSp.enter (args := [.agg #[.int .i64 a0.Op, .string (bs a0.Name), .int .i64 a0.N, .slice pA0_0 a0.Kids.length pc0_0]]) Try.func82 rfl rfl ?_
  intro w0 m0 hm0
  refine St.seq ?_
  refine St.region ?_
  refine St.box rfl trivial rfl ?_
  intro b2
  refine St.val (v := (.bool false)) (Yields.assign rfl) trivial rfl rfl ?_
  refine St.nil ?_
  refine St.norm ?_
  refine St.seq ?_
  refine St.seq ?_
  refine St.region ?_
  refine St.val (v := (.pointer (some ⟨b2, 0, none⟩))) (Yields.fieldAddr (v := (.pointer (some ⟨b2, 0, none⟩))) rfl (fun _ => by kernel_rfl)) trivial rfl rfl ?_
  refine St.val (v := (.int .i64 a0.Op)) (Yields.load rfl (Loads.H1 0 rfl tc3 rfl)) trivial rfl rfl ?_
  refine St.nil ?_
  refine St.norm ?_
  refine St.block ?_
  refine St.seq ?_
  refine St.region ?_
  refine St.val (v := (.bool (decide (a0.Op = 1)))) (Yields.eq rfl rfl) trivial rfl rfl ?_
  refine St.val (v := (.bool (decide (a0.Op = 1)))) (Yields.assign rfl) trivial rfl rfl ?_
  refine St.nil ?_
  refine St.norm ?_
  refine St.cond_b rfl ?_ ?_
  · intro q3
    replace q3 : a0.Op = 1 := of_decide_eq_true q3
    replace hm := iT hm q3
    obtain ⟨z4, hm, hk7⟩ := bS hm
    refine St.cutI (fun a w => ∃ (F5 : PH), PH.le F F5 ∧ Has Try.f82.ntmps a [(2, .bool z4)] ∧ Sat ⟨w0, fun b => m0 b ≠ none, F⟩ F5 [] w) ?_ ?_
    · skip
      refine St.region ?_
      refine St.val (v := (.pointer (some ⟨b2, 1, none⟩))) (Yields.fieldAddr (v := (.pointer (some ⟨b2, 1, none⟩))) rfl (fun _ => by kernel_rfl)) trivial rfl rfl ?_
      refine St.val (v := (.string (bs a0.Name))) (Yields.load rfl (Loads.H1 0 rfl tc9 rfl)) trivial rfl rfl ?_
      obtain ⟨q8, e9, hm⟩ := bS hm
      refine St.call [blk b2 (.cells #[.int .i64 a0.Op, .string (bs a0.Name), .int .i64 a0.N, .slice pA0_0 a0.Kids.length pc0_0] 24 (0, 0))] (m_ref08_IsGreat_sp e9) rfl (fun _ ha => ev1 ha rfl) rfl en95 rfl rfl trivial ?_
      rintro _ F10 _ ⟨rfl, rfl⟩ l11
      by_cases q12 : q8 = true
      · replace hm := iT hm q12
        have hb13 : (q8) = true := q12
        try rw [hb13]
        refine St.val (v := (.bool true)) (Yields.move rfl) trivial rfl rfl ?_
        refine St.val (v := (.pointer (some ⟨b2, 2, none⟩))) (Yields.fieldAddr (v := (.pointer (some ⟨b2, 2, none⟩))) rfl (fun _ => by kernel_rfl)) rfl rfl rfl ?_
        refine St.val (v := (.int .i64 a0.N)) (Yields.load rfl (Loads.H1 0 rfl tc3 rfl)) rfl rfl rfl ?_
        by_cases q14 : a0.N = 0
        · replace hm := iT hm q14
          refine St.val (v := (.bool true)) (Yields.is q14 (Yields.eq rfl rfl)) rfl rfl rfl ?_
          refine St.val (v := (.bool true)) (Yields.pick_t rfl rfl) trivial rfl rfl ?_
          refine St.val (v := (.bool true)) (Yields.move rfl) trivial rfl rfl ?_
          refine St.val (v := (.pointer (some ⟨b2, 3, none⟩))) (Yields.fieldAddr (v := (.pointer (some ⟨b2, 3, none⟩))) rfl (fun _ => by kernel_rfl)) rfl rfl rfl ?_
          refine St.val (v := (.slice pA0_0 a0.Kids.length pc0_0)) (Yields.load rfl (Loads.H1 0 rfl tc22 rfl)) rfl rfl rfl ?_
          refine St.val (v := (.int .i64 ((a0.Kids.length : Nat) : Int))) (Yields.lenSlice tu22 rfl) rfl rfl rfl ?_
          refine St.val (v := (.bool (decide (((a0.Kids.length : Nat) : Int) ≤ 8)))) (Yields.le rfl rfl) rfl rfl rfl ?_
          refine St.val (v := (.bool (decide (((a0.Kids.length : Nat) : Int) ≤ 8)))) (Yields.pick_t rfl rfl) trivial rfl rfl ?_
          refine St.val (v := (.bool (decide (((a0.Kids.length : Nat) : Int) ≤ 8)))) (Yields.assign rfl) trivial rfl rfl ?_
          refine St.nil ?_
          obtain rfl := sI hm
          intro a w ha hs
          exact ⟨F10, l11, ha.covers ⟨rfl, trivial⟩, (Among.of Among.none _ hs)⟩
        · replace hm := iF hm q14
          refine St.val (v := (.bool false)) (Yields.isnt q14 (Yields.eq rfl rfl)) rfl rfl rfl ?_
          refine St.val (v := (.bool false)) (Yields.pick_t rfl rfl) trivial rfl rfl ?_
          refine St.val (v := (.bool false)) (Yields.move rfl) trivial rfl rfl ?_
          refine St.unwanted rfl rfl rfl ?_
          refine St.unwanted rfl rfl rfl ?_
          refine St.unwanted rfl rfl rfl ?_
          refine St.unwanted rfl rfl rfl ?_
          refine St.val (v := (.bool false)) (Yields.pick_f rfl rfl) trivial rfl rfl ?_
          refine St.val (v := (.bool false)) (Yields.assign rfl) trivial rfl rfl ?_
          refine St.nil ?_
          obtain rfl := sI hm
          intro a w ha hs
          exact ⟨F10, l11, ha.covers ⟨rfl, trivial⟩, (Among.of Among.none _ hs)⟩
      · replace hm := iF hm q12
        have hb15 : (q8) = false := eq_false_of_ne_true q12
        try rw [hb15]
        refine St.val (v := (.bool false)) (Yields.move rfl) trivial rfl rfl ?_
        refine St.unwanted rfl rfl rfl ?_
        refine St.unwanted rfl rfl rfl ?_
        refine St.unwanted rfl rfl rfl ?_
        refine St.val (v := (.bool false)) (Yields.pick_f rfl rfl) trivial rfl rfl ?_
        refine St.val (v := (.bool false)) (Yields.move rfl) trivial rfl rfl ?_
        refine St.unwanted rfl rfl rfl ?_
        refine St.unwanted rfl rfl rfl ?_
        refine St.unwanted rfl rfl rfl ?_
        refine St.unwanted rfl rfl rfl ?_
        refine St.val (v := (.bool false)) (Yields.pick_f rfl rfl) trivial rfl rfl ?_
        refine St.val (v := (.bool false)) (Yields.assign rfl) trivial rfl rfl ?_
        refine St.nil ?_
        obtain rfl := sI hm
        intro a w ha hs
        exact ⟨F10, l11, ha.covers ⟨rfl, trivial⟩, (Among.of Among.none _ hs)⟩
    · rintro a w ⟨F5, l6, ha, hs⟩
      replace hm := hk7
      refine St.use (?_ : St _ _ _ _ _ _) ha hs
      clear ha hs a w
      refine St.ret ?_
      refine St.inret ?_
      refine St.thenret ?_
      obtain rfl := sI hm
      exact St.doneR1 rfl rfl ⟨rfl, rfl⟩ (fun w hs => Among.of Among.none w hs)
  · intro q16
    replace q16 : ¬ (a0.Op = 1) := of_decide_eq_false q16
    replace hm := iF hm q16
    refine St.seq ?_
    refine St.region ?_
    refine St.val (v := (.bool (decide (a0.Op = 2)))) (Yields.eq rfl rfl) trivial rfl rfl ?_
    refine St.val (v := (.bool (decide (a0.Op = 2)))) (Yields.assign rfl) trivial rfl rfl ?_
    refine St.nil ?_
    refine St.norm ?_
    refine St.cond_b rfl ?_ ?_
    · intro q17
      replace q17 : a0.Op = 2 := of_decide_eq_true q17
      replace hm := iT hm q17
      obtain ⟨z18, hm, hk19⟩ := bS hm
      refine St.cutI (fun a w => Has Try.f82.ntmps a [(2, .bool z18)] ∧ Sat ⟨w0, fun b => m0 b ≠ none, F⟩ F [] w) ?_ ?_
      · skip
        refine St.region ?_
        refine St.val (v := (.pointer (some ⟨b2, 1, none⟩))) (Yields.fieldAddr (v := (.pointer (some ⟨b2, 1, none⟩))) rfl (fun _ => by kernel_rfl)) trivial rfl rfl ?_
        refine St.val (v := (.string (bs a0.Name))) (Yields.load rfl (Loads.H1 0 rfl tc9 rfl)) trivial rfl rfl ?_
        by_cases q20 : a0.Name = ([] : List UInt8)
        · replace hm := iT hm q20
          refine St.val (v := (.bool true)) (Yields.is q20 (Yields.eqStr rfl rfl)) trivial rfl rfl ?_
          refine St.val (v := (.bool true)) (Yields.move rfl) trivial rfl rfl ?_
          refine St.val (v := (.pointer (some ⟨b2, 3, none⟩))) (Yields.fieldAddr (v := (.pointer (some ⟨b2, 3, none⟩))) rfl (fun _ => by kernel_rfl)) rfl rfl rfl ?_
          refine St.val (v := (.slice pA0_0 a0.Kids.length pc0_0)) (Yields.load rfl (Loads.H1 0 rfl tc22 rfl)) rfl rfl rfl ?_
          refine St.val (v := (.int .i64 ((a0.Kids.length : Nat) : Int))) (Yields.lenSlice tu22 rfl) rfl rfl rfl ?_
          by_cases q21 : ((a0.Kids.length : Nat) : Int) = 0
          · replace hm := iT hm q21
            refine St.val (v := (.bool true)) (Yields.is q21 (Yields.eq rfl rfl)) rfl rfl rfl ?_
            refine St.val (v := (.bool true)) (Yields.pick_t rfl rfl) trivial rfl rfl ?_
            refine St.val (v := (.bool true)) (Yields.move rfl) trivial rfl rfl ?_
            refine St.val (v := (.pointer (some ⟨b2, 2, none⟩))) (Yields.fieldAddr (v := (.pointer (some ⟨b2, 2, none⟩))) rfl (fun _ => by kernel_rfl)) rfl rfl rfl ?_
            refine St.val (v := (.int .i64 a0.N)) (Yields.load rfl (Loads.H1 0 rfl tc3 rfl)) rfl rfl rfl ?_
            by_cases q22 : a0.N ≥ (-1000000000)
            · replace hm := iT hm q22
              refine St.val (v := (.bool true)) (Yields.is q22 (Yields.ge rfl rfl)) rfl rfl rfl ?_
              refine St.val (v := (.bool true)) (Yields.pick_t rfl rfl) trivial rfl rfl ?_
              refine St.val (v := (.bool true)) (Yields.move rfl) trivial rfl rfl ?_
              refine St.val (v := (.pointer (some ⟨b2, 2, none⟩))) (Yields.fieldAddr (v := (.pointer (some ⟨b2, 2, none⟩))) rfl (fun _ => by kernel_rfl)) rfl rfl rfl ?_
              refine St.val (v := (.int .i64 a0.N)) (Yields.load rfl (Loads.H1 0 rfl tc3 rfl)) rfl rfl rfl ?_
              refine St.val (v := (.bool (decide (a0.N ≤ 1000000000)))) (Yields.le rfl rfl) rfl rfl rfl ?_
              refine St.val (v := (.bool (decide (a0.N ≤ 1000000000)))) (Yields.pick_t rfl rfl) trivial rfl rfl ?_
              refine St.val (v := (.bool (decide (a0.N ≤ 1000000000)))) (Yields.assign rfl) trivial rfl rfl ?_
              refine St.nil ?_
              obtain rfl := sI hm
              intro a w ha hs
              exact ⟨ha.covers ⟨rfl, trivial⟩, (Among.of Among.none _ hs)⟩
            · replace hm := iF hm q22
              refine St.val (v := (.bool false)) (Yields.isnt q22 (Yields.ge rfl rfl)) rfl rfl rfl ?_
              refine St.val (v := (.bool false)) (Yields.pick_t rfl rfl) trivial rfl rfl ?_
              refine St.val (v := (.bool false)) (Yields.move rfl) trivial rfl rfl ?_
              refine St.unwanted rfl rfl rfl ?_
              refine St.unwanted rfl rfl rfl ?_
              refine St.unwanted rfl rfl rfl ?_
              refine St.val (v := (.bool false)) (Yields.pick_f rfl rfl) trivial rfl rfl ?_
              refine St.val (v := (.bool false)) (Yields.assign rfl) trivial rfl rfl ?_
              refine St.nil ?_
              obtain rfl := sI hm
              intro a w ha hs
              exact ⟨ha.covers ⟨rfl, trivial⟩, (Among.of Among.none _ hs)⟩
          · replace hm := iF hm q21
            refine St.val (v := (.bool false)) (Yields.isnt q21 (Yields.eq rfl rfl)) rfl rfl rfl ?_
            refine St.val (v := (.bool false)) (Yields.pick_t rfl rfl) trivial rfl rfl ?_
            refine St.val (v := (.bool false)) (Yields.move rfl) trivial rfl rfl ?_
            refine St.unwanted rfl rfl rfl ?_
            refine St.unwanted rfl rfl rfl ?_
            refine St.unwanted rfl rfl rfl ?_
            refine St.val (v := (.bool false)) (Yields.pick_f rfl rfl) trivial rfl rfl ?_
            refine St.val (v := (.bool false)) (Yields.move rfl) trivial rfl rfl ?_
            refine St.unwanted rfl rfl rfl ?_
            refine St.unwanted rfl rfl rfl ?_
            refine St.unwanted rfl rfl rfl ?_
            refine St.val (v := (.bool false)) (Yields.pick_f rfl rfl) trivial rfl rfl ?_
            refine St.val (v := (.bool false)) (Yields.assign rfl) trivial rfl rfl ?_
            refine St.nil ?_
            obtain rfl := sI hm
            intro a w ha hs
            exact ⟨ha.covers ⟨rfl, trivial⟩, (Among.of Among.none _ hs)⟩
        · replace hm := iF hm q20
          refine St.val (v := (.bool false)) (Yields.isnt q20 (Yields.eqStr rfl rfl)) trivial rfl rfl ?_
          refine St.val (v := (.bool false)) (Yields.move rfl) trivial rfl rfl ?_
          refine St.unwanted rfl rfl rfl ?_
          refine St.unwanted rfl rfl rfl ?_
          refine St.unwanted rfl rfl rfl ?_
          refine St.unwanted rfl rfl rfl ?_
          refine St.val (v := (.bool false)) (Yields.pick_f rfl rfl) trivial rfl rfl ?_
          refine St.val (v := (.bool false)) (Yields.move rfl) trivial rfl rfl ?_
          refine St.unwanted rfl rfl rfl ?_
          refine St.unwanted rfl rfl rfl ?_
          refine St.unwanted rfl rfl rfl ?_
          refine St.val (v := (.bool false)) (Yields.pick_f rfl rfl) trivial rfl rfl ?_
          refine St.val (v := (.bool false)) (Yields.move rfl) trivial rfl rfl ?_
          refine St.unwanted rfl rfl rfl ?_
          refine St.unwanted rfl rfl rfl ?_
          refine St.unwanted rfl rfl rfl ?_
          refine St.val (v := (.bool false)) (Yields.pick_f rfl rfl) trivial rfl rfl ?_
          refine St.val (v := (.bool false)) (Yields.assign rfl) trivial rfl rfl ?_
          refine St.nil ?_
          obtain rfl := sI hm
          intro a w ha hs
          exact ⟨ha.covers ⟨rfl, trivial⟩, (Among.of Among.none _ hs)⟩
      · rintro a w ⟨ha, hs⟩
        replace hm := hk19
        refine St.use (?_ : St _ _ _ _ _ _) ha hs
        clear ha hs a w
        refine St.ret ?_
        refine St.inret ?_
        refine St.thenret ?_
        obtain rfl := sI hm
        exact St.doneR1 rfl rfl ⟨rfl, rfl⟩ (fun w hs => Among.of Among.none w hs)
    · intro q23
      replace q23 : ¬ (a0.Op = 2) := of_decide_eq_false q23
      replace hm := iF hm q23
      refine St.seq ?_
      refine St.region ?_
      refine St.val (v := (.bool (decide (a0.Op = 3)))) (Yields.eq rfl rfl) trivial rfl rfl ?_
      refine St.val (v := (.bool (decide (a0.Op = 3)))) (Yields.assign rfl) trivial rfl rfl ?_
      refine St.nil ?_
      refine St.norm ?_
      refine St.cond_b rfl ?_ ?_
      · intro q24
        replace q24 : a0.Op = 3 := of_decide_eq_true q24
        replace hm := iT hm q24
        obtain ⟨z25, hm, hk26⟩ := bS hm
        refine St.cutI (fun a w => Has Try.f82.ntmps a [(2, .bool z25)] ∧ Sat ⟨w0, fun b => m0 b ≠ none, F⟩ F [] w) ?_ ?_
        · skip
          refine St.region ?_
          refine St.val (v := (.pointer (some ⟨b2, 1, none⟩))) (Yields.fieldAddr (v := (.pointer (some ⟨b2, 1, none⟩))) rfl (fun _ => by kernel_rfl)) trivial rfl rfl ?_
          refine St.val (v := (.string (bs a0.Name))) (Yields.load rfl (Loads.H1 0 rfl tc9 rfl)) trivial rfl rfl ?_
          by_cases q27 : a0.Name = ([] : List UInt8)
          · replace hm := iT hm q27
            refine St.val (v := (.bool true)) (Yields.is q27 (Yields.eqStr rfl rfl)) trivial rfl rfl ?_
            refine St.val (v := (.bool true)) (Yields.move rfl) trivial rfl rfl ?_
            refine St.val (v := (.pointer (some ⟨b2, 3, none⟩))) (Yields.fieldAddr (v := (.pointer (some ⟨b2, 3, none⟩))) rfl (fun _ => by kernel_rfl)) rfl rfl rfl ?_
            refine St.val (v := (.slice pA0_0 a0.Kids.length pc0_0)) (Yields.load rfl (Loads.H1 0 rfl tc22 rfl)) rfl rfl rfl ?_
            refine St.val (v := (.int .i64 ((a0.Kids.length : Nat) : Int))) (Yields.lenSlice tu22 rfl) rfl rfl rfl ?_
            by_cases q28 : ((a0.Kids.length : Nat) : Int) = 0
            · replace hm := iT hm q28
              refine St.val (v := (.bool true)) (Yields.is q28 (Yields.eq rfl rfl)) rfl rfl rfl ?_
              refine St.val (v := (.bool true)) (Yields.pick_t rfl rfl) trivial rfl rfl ?_
              refine St.val (v := (.bool true)) (Yields.move rfl) trivial rfl rfl ?_
              refine St.val (v := (.pointer (some ⟨b2, 2, none⟩))) (Yields.fieldAddr (v := (.pointer (some ⟨b2, 2, none⟩))) rfl (fun _ => by kernel_rfl)) rfl rfl rfl ?_
              refine St.val (v := (.int .i64 a0.N)) (Yields.load rfl (Loads.H1 0 rfl tc3 rfl)) rfl rfl rfl ?_
              by_cases q29 : a0.N ≥ 0
              · replace hm := iT hm q29
                refine St.val (v := (.bool true)) (Yields.is q29 (Yields.ge rfl rfl)) rfl rfl rfl ?_
                refine St.val (v := (.bool true)) (Yields.pick_t rfl rfl) trivial rfl rfl ?_
                refine St.val (v := (.bool true)) (Yields.move rfl) trivial rfl rfl ?_
                refine St.val (v := (.pointer (some ⟨b2, 2, none⟩))) (Yields.fieldAddr (v := (.pointer (some ⟨b2, 2, none⟩))) rfl (fun _ => by kernel_rfl)) rfl rfl rfl ?_
                refine St.val (v := (.int .i64 a0.N)) (Yields.load rfl (Loads.H1 0 rfl tc3 rfl)) rfl rfl rfl ?_
                refine St.val (v := (.bool (decide (a0.N ≤ 300)))) (Yields.le rfl rfl) rfl rfl rfl ?_
                refine St.val (v := (.bool (decide (a0.N ≤ 300)))) (Yields.pick_t rfl rfl) trivial rfl rfl ?_
                refine St.val (v := (.bool (decide (a0.N ≤ 300)))) (Yields.assign rfl) trivial rfl rfl ?_
                refine St.nil ?_
                obtain rfl := sI hm
                intro a w ha hs
                exact ⟨ha.covers ⟨rfl, trivial⟩, (Among.of Among.none _ hs)⟩
              · replace hm := iF hm q29
                refine St.val (v := (.bool false)) (Yields.isnt q29 (Yields.ge rfl rfl)) rfl rfl rfl ?_
                refine St.val (v := (.bool false)) (Yields.pick_t rfl rfl) trivial rfl rfl ?_
                refine St.val (v := (.bool false)) (Yields.move rfl) trivial rfl rfl ?_
                refine St.unwanted rfl rfl rfl ?_
                refine St.unwanted rfl rfl rfl ?_
                refine St.unwanted rfl rfl rfl ?_
                refine St.val (v := (.bool false)) (Yields.pick_f rfl rfl) trivial rfl rfl ?_
                refine St.val (v := (.bool false)) (Yields.assign rfl) trivial rfl rfl ?_
                refine St.nil ?_
                obtain rfl := sI hm
                intro a w ha hs
                exact ⟨ha.covers ⟨rfl, trivial⟩, (Among.of Among.none _ hs)⟩
            · replace hm := iF hm q28
              refine St.val (v := (.bool false)) (Yields.isnt q28 (Yields.eq rfl rfl)) rfl rfl rfl ?_
              refine St.val (v := (.bool false)) (Yields.pick_t rfl rfl) trivial rfl rfl ?_
              refine St.val (v := (.bool false)) (Yields.move rfl) trivial rfl rfl ?_
              refine St.unwanted rfl rfl rfl ?_
              refine St.unwanted rfl rfl rfl ?_
              refine St.unwanted rfl rfl rfl ?_
              refine St.val (v := (.bool false)) (Yields.pick_f rfl rfl) trivial rfl rfl ?_
              refine St.val (v := (.bool false)) (Yields.move rfl) trivial rfl rfl ?_
              refine St.unwanted rfl rfl rfl ?_
              refine St.unwanted rfl rfl rfl ?_
              refine St.unwanted rfl rfl rfl ?_
              refine St.val (v := (.bool false)) (Yields.pick_f rfl rfl) trivial rfl rfl ?_
              refine St.val (v := (.bool false)) (Yields.assign rfl) trivial rfl rfl ?_
              refine St.nil ?_
              obtain rfl := sI hm
              intro a w ha hs
              exact ⟨ha.covers ⟨rfl, trivial⟩, (Among.of Among.none _ hs)⟩
          · replace hm := iF hm q27
            refine St.val (v := (.bool false)) (Yields.isnt q27 (Yields.eqStr rfl rfl)) trivial rfl rfl ?_
            refine St.val (v := (.bool false)) (Yields.move rfl) trivial rfl rfl ?_
            refine St.unwanted rfl rfl rfl ?_
            refine St.unwanted rfl rfl rfl ?_
            refine St.unwanted rfl rfl rfl ?_
            refine St.unwanted rfl rfl rfl ?_
            refine St.val (v := (.bool false)) (Yields.pick_f rfl rfl) trivial rfl rfl ?_
            refine St.val (v := (.bool false)) (Yields.move rfl) trivial rfl rfl ?_
            refine St.unwanted rfl rfl rfl ?_
            refine St.unwanted rfl rfl rfl ?_
            refine St.unwanted rfl rfl rfl ?_
            refine St.val (v := (.bool false)) (Yields.pick_f rfl rfl) trivial rfl rfl ?_
            refine St.val (v := (.bool false)) (Yields.move rfl) trivial rfl rfl ?_
            refine St.unwanted rfl rfl rfl ?_
            refine St.unwanted rfl rfl rfl ?_
            refine St.unwanted rfl rfl rfl ?_
            refine St.val (v := (.bool false)) (Yields.pick_f rfl rfl) trivial rfl rfl ?_
            refine St.val (v := (.bool false)) (Yields.assign rfl) trivial rfl rfl ?_
            refine St.nil ?_
            obtain rfl := sI hm
            intro a w ha hs
            exact ⟨ha.covers ⟨rfl, trivial⟩, (Among.of Among.none _ hs)⟩
        · rintro a w ⟨ha, hs⟩
          replace hm := hk26
          refine St.use (?_ : St _ _ _ _ _ _) ha hs
          clear ha hs a w
          refine St.ret ?_
          refine St.inret ?_
          refine St.thenret ?_
          obtain rfl := sI hm
          exact St.doneR1 rfl rfl ⟨rfl, rfl⟩ (fun w hs => Among.of Among.none w hs)
      · intro q30
        replace q30 : ¬ (a0.Op = 3) := of_decide_eq_false q30
        replace hm := iF hm q30
        refine St.seq ?_
        refine St.region ?_
        refine St.val (v := (.bool (decide (a0.Op = 4)))) (Yields.eq rfl rfl) trivial rfl rfl ?_
        refine St.val (v := (.bool (decide (a0.Op = 4)))) (Yields.assign rfl) trivial rfl rfl ?_
        refine St.nil ?_
        refine St.norm ?_
        refine St.cond_b rfl ?_ ?_
        · intro q31
          replace q31 : a0.Op = 4 := of_decide_eq_true q31
          replace hm := iT hm q31
          obtain ⟨z32, hm, hk35⟩ := bS hm
          refine St.cutI (fun a w => ∃ (F33 : PH), PH.le F F33 ∧ Has Try.f82.ntmps a [(2, .bool z32)] ∧ Sat ⟨w0, fun b => m0 b ≠ none, F⟩ F33 [] w) ?_ ?_
          · skip
            refine St.region ?_
            refine St.val (v := (.pointer (some ⟨b2, 1, none⟩))) (Yields.fieldAddr (v := (.pointer (some ⟨b2, 1, none⟩))) rfl (fun _ => by kernel_rfl)) trivial rfl rfl ?_
            refine St.val (v := (.string (bs a0.Name))) (Yields.load rfl (Loads.H1 0 rfl tc9 rfl)) trivial rfl rfl ?_
            obtain ⟨q36, e37, hm⟩ := bS hm
            refine St.call [blk b2 (.cells #[.int .i64 a0.Op, .string (bs a0.Name), .int .i64 a0.N, .slice pA0_0 a0.Kids.length pc0_0] 24 (0, 0))] (m_ref08_IsCore_sp e37) rfl (fun _ ha => ev1 ha rfl) rfl en96 rfl rfl trivial ?_
            rintro _ F38 _ ⟨rfl, rfl⟩ l39
            by_cases q40 : q36 = true
            · replace hm := iT hm q40
              have hb41 : (q36) = true := q40
              try rw [hb41]
              refine St.val (v := (.bool true)) (Yields.move rfl) trivial rfl rfl ?_
              refine St.val (v := (.pointer (some ⟨b2, 2, none⟩))) (Yields.fieldAddr (v := (.pointer (some ⟨b2, 2, none⟩))) rfl (fun _ => by kernel_rfl)) rfl rfl rfl ?_
              refine St.val (v := (.int .i64 a0.N)) (Yields.load rfl (Loads.H1 0 rfl tc3 rfl)) rfl rfl rfl ?_
              by_cases q42 : a0.N = 0
              · replace hm := iT hm q42
                refine St.val (v := (.bool true)) (Yields.is q42 (Yields.eq rfl rfl)) rfl rfl rfl ?_
                refine St.val (v := (.bool true)) (Yields.pick_t rfl rfl) trivial rfl rfl ?_
                refine St.val (v := (.bool true)) (Yields.move rfl) trivial rfl rfl ?_
                refine St.val (v := (.pointer (some ⟨b2, 3, none⟩))) (Yields.fieldAddr (v := (.pointer (some ⟨b2, 3, none⟩))) rfl (fun _ => by kernel_rfl)) rfl rfl rfl ?_
                refine St.val (v := (.slice pA0_0 a0.Kids.length pc0_0)) (Yields.load rfl (Loads.H1 0 rfl tc22 rfl)) rfl rfl rfl ?_
                refine St.val (v := (.int .i64 ((a0.Kids.length : Nat) : Int))) (Yields.lenSlice tu22 rfl) rfl rfl rfl ?_
                refine St.val (v := (.bool (decide (((a0.Kids.length : Nat) : Int) ≤ 8)))) (Yields.le rfl rfl) rfl rfl rfl ?_
                refine St.val (v := (.bool (decide (((a0.Kids.length : Nat) : Int) ≤ 8)))) (Yields.pick_t rfl rfl) trivial rfl rfl ?_
                refine St.val (v := (.bool (decide (((a0.Kids.length : Nat) : Int) ≤ 8)))) (Yields.assign rfl) trivial rfl rfl ?_
                refine St.nil ?_
                obtain rfl := sI hm
                intro a w ha hs
                exact ⟨F38, l39, ha.covers ⟨rfl, trivial⟩, (Among.of Among.none _ hs)⟩
              · replace hm := iF hm q42
                refine St.val (v := (.bool false)) (Yields.isnt q42 (Yields.eq rfl rfl)) rfl rfl rfl ?_
                refine St.val (v := (.bool false)) (Yields.pick_t rfl rfl) trivial rfl rfl ?_
                refine St.val (v := (.bool false)) (Yields.move rfl) trivial rfl rfl ?_
                refine St.unwanted rfl rfl rfl ?_
                refine St.unwanted rfl rfl rfl ?_
                refine St.unwanted rfl rfl rfl ?_
                refine St.unwanted rfl rfl rfl ?_
                refine St.val (v := (.bool false)) (Yields.pick_f rfl rfl) trivial rfl rfl ?_
                refine St.val (v := (.bool false)) (Yields.assign rfl) trivial rfl rfl ?_
                refine St.nil ?_
                obtain rfl := sI hm
                intro a w ha hs
                exact ⟨F38, l39, ha.covers ⟨rfl, trivial⟩, (Among.of Among.none _ hs)⟩
            · replace hm := iF hm q40
              have hb43 : (q36) = false := eq_false_of_ne_true q40
              try rw [hb43]
              refine St.val (v := (.bool false)) (Yields.move rfl) trivial rfl rfl ?_
              refine St.unwanted rfl rfl rfl ?_
              refine St.unwanted rfl rfl rfl ?_
              refine St.unwanted rfl rfl rfl ?_
              refine St.val (v := (.bool false)) (Yields.pick_f rfl rfl) trivial rfl rfl ?_
              refine St.val (v := (.bool false)) (Yields.move rfl) trivial rfl rfl ?_
              refine St.unwanted rfl rfl rfl ?_
              refine St.unwanted rfl rfl rfl ?_
              refine St.unwanted rfl rfl rfl ?_
              refine St.unwanted rfl rfl rfl ?_
              refine St.val (v := (.bool false)) (Yields.pick_f rfl rfl) trivial rfl rfl ?_
              refine St.val (v := (.bool false)) (Yields.assign rfl) trivial rfl rfl ?_
              refine St.nil ?_
              obtain rfl := sI hm
              intro a w ha hs
              exact ⟨F38, l39, ha.covers ⟨rfl, trivial⟩, (Among.of Among.none _ hs)⟩
          · rintro a w ⟨F33, l34, ha, hs⟩
            replace hm := hk35
            refine St.use (?_ : St _ _ _ _ _ _) ha hs
            clear ha hs a w
            refine St.ret ?_
            refine St.inret ?_
            refine St.thenret ?_
            obtain rfl := sI hm
            exact St.doneR1 rfl rfl ⟨rfl, rfl⟩ (fun w hs => Among.of Among.none w hs)
        · intro q44
          replace q44 : ¬ (a0.Op = 4) := of_decide_eq_false q44
          replace hm := iF hm q44
          refine St.skip ?_
          refine St.innorm ?_
          refine St.norm ?_
          refine St.seq ?_
          refine St.region ?_
          refine St.val (v := (.bool false)) (Yields.assign rfl) trivial rfl rfl ?_
          refine St.nil ?_
          refine St.norm ?_
          refine St.ret ?_
          obtain rfl := sI hm
          exact St.doneR1 rfl rfl ⟨rfl, rfl⟩ (fun w hs => Among.of Among.none w hs)

end Go.Proofs.Ytchecaeeiejjjaa
